/- Returns and rounds of the machine by tags. -/
import Derived.RangeFuncRecord
import Derived.Test.YtifoaokodgbhjaaGreatVm
namespace Go.Pv
open Go

section
variable {C : Ctx} {fn N : Nat} {ro : Option Nat} {rs : List RP} {env : Env} {k : List It} {defs : List Nat} {r : List FS} {hs : List SO} {op : IOp} {l : List IOp}

/-- What a call's operation runs. -/
theorem call_setup {P : Program} {ν : Nu} {a : Act} {o : Oper} (he : EnvOk ν N env a.tmps) {ops : Array Oper} (g2 : compOper P ops o = some op) {x : SV} {as : List SV} (hev : evR op.o env hs = .call x as) (w : World) :
    (∀ c, o.op ≠ .defer c) ∧ as.all SV.one = true ∧ ∃ X As, x.den ν = some X ∧ dens ν as = some As.toList ∧ (execOp a.eval o).run P w = (do let d ← Deferred.ofValue X As; invoke d.target d.args : Sem Next).run P w := by
  obtain ⟨hd, hcb⟩ := compOper_inv g2
  obtain ⟨fe, es, ho, hevW, hall⟩ := call_inv hev
  have hc : compOp P o.op = some op.o := by
    rcases hcb with h | h
    · exact h
    · rw [ho] at h; cases h
  refine ⟨op_not_defer hc, hall, ?_⟩
  obtain ⟨dst, oop, type, pos, after, guard⟩ := o
  simp only at hc
  have hcall : ∃ fo args argTypes, oop = .call { callee := .value fo, args, argTypes } := by
    rw [ho] at hc
    exact compOp_call hc
  obtain ⟨fo, args, argTypes, rfl⟩ := hcall
  obtain ⟨e1, e2⟩ := w_call he hc hevW
  exact ⟨_, _, e1, e2, rfl⟩

/-- An object by tag, and the world with another in its place. -/
theorem rel_put {P : Program} {w0 w : World} {ν0 ν : Nu} (rel : Rel P w0 ν0 ν hs w) {t b : Nat} (hb : ν[t]? = some b) {o : SO} {O : Obj} (hd : o.Den P ν O) : Rel P w0 ν0 ν (hs.set t o) (w.putObj b O) := by
  refine rel.upd hb hd rfl rfl rfl World.putObj_size (fun i hi => World.putObj_heap_other hi) ?_
  have := rel.lt hb
  simp [World.putObj, this]

/-- A round begins: the call of yield. -/
theorem ok_yield (hg : wantG op.g env = some true) {t : Nat} {as : List SV} (hev : evR op.o env hs = .call (.yld t) as) {st : LoopState} {pend : Option Jmp} {fn' : Nat} {envL env' : Env} {N' : Nat} {ps : List Nat} {x y : IC} {D : Nat}
    (hl : hs[t]? = some (.loop st pend fn' envL N' ps x y D)) (hp : roundE N' ps as envL = some env') :
    Ok C (⟨fn', some t, N', [], env', [.c x, .br, .c y], []⟩ :: ⟨fn, ro, N, rs, env, .ops (op :: l) :: k, defs⟩ :: r) hs → Ok C (⟨fn, ro, N, rs, env, .ops (op :: l) :: k, defs⟩ :: r) hs := by
  intro H ν w fr frs hx hr hf
  obtain ⟨h1, h2⟩ := hf
  obtain ⟨ops, i, rest, K', o, hK, g1, g2, g3, g4⟩ := todo_ops h1.todo
  have hat := h1.atR
  rw [hK] at hat
  have hw := wantG_ok (a := ⟨fr.tmps, fr.defers⟩) h1.env g2 hg
  obtain ⟨hnd, hall, X, As, e1, e2, hrun⟩ := call_setup (a := ⟨fr.tmps, fr.defers⟩) h1.env g2 hev w
  obtain ⟨b, O, hb, ⟨tmps, asC, bdC, Db, d1, d2, d3, d4, rfl⟩, hw2⟩ := hr.at_ hl
  have hX : X = .func (.yield b) #[] #[] := by simp [SV.den, hb] at e1; exact e1.symm
  subst hX
  have hm := map_of_dens as As.toList hall e2
  obtain ⟨r1, r2⟩ := roundE_ok ps as As.toList _ _ _ d2 hm hp
  have hsz : As.size = ps.toArray.size := by
    have := congrArg List.length hm
    simp at this ⊢; omega
  have hrun2 : (execOp (Act.eval ⟨fr.tmps, fr.defers⟩) o).run C.P w = .ok (.round b fn' ((ps.toArray.zip As).foldl (fun tmps (t, a) => tmps.setIfInBounds t a) tmps) asC bdC) w := by
    rw [hrun]
    simp only [Deferred.ofValue, pure_bind, invoke, Array.empty_append]
    exact run_yield hw2 hsz
  have hst := stepR_callop (b := fr) (K := K') (cs := frs ++ C.cs) (rest := rest) g1 hw hnd hrun2 (.inr ⟨_, _, _, _, _, rfl, rfl⟩)
  rw [← hat] at hst
  refine C.back _ _ hst (H ν w _ (fr :: frs) hx hr ⟨⟨rfl, ?_, ⟨d3, trivial, d4, trivial⟩, trivial, rfl, rfl, ⟨b, hb, rfl⟩, fun h => (by cases h)⟩, h1, h2⟩)
  have e5 : (ps.toArray.zip As).foldl (fun tmps (t, a) => tmps.setIfInBounds t a) tmps = (ps.zip As.toList).foldl (fun tmps (t, a) => tmps.setIfInBounds t a) tmps := by
    rw [← Array.foldl_toList]
    simp
  show EnvOk ν N' env' ((ps.toArray.zip As).foldl (fun tmps (t, a) => tmps.setIfInBounds t a) tmps)
  rw [e5]
  exact r2

theorem ok_br {t : Nat} {pend : Option Jmp} {fn' : Nat} {envL : Env} {N' : Nat} {ps : List Nat} {x y : IC} {D : Nat} (hl : hs[t]? = some (.loop .ready pend fn' envL N' ps x y D)) :
    Ok C (⟨fn, some t, N, rs, env, k, defs⟩ :: r) (hs.set t (.loop .busy pend fn' envL N' ps x y D)) → Ok C (⟨fn, some t, N, rs, env, .br :: k, defs⟩ :: r) hs := by
  intro H ν w fr frs hx hr hf
  obtain ⟨h1, h2⟩ := hf
  obtain ⟨it, K', hK, hi, hk⟩ := todoOk_cons h1.todo
  cases it with
  | beginRound =>
    obtain ⟨b, O, hb, ⟨tmps, asC, bdC, Db, d1, d2, d3, d4, rfl⟩, hw2⟩ := hr.at_ hl
    obtain ⟨b', hb', hro⟩ := h1.ro
    rw [hb] at hb'; cases hb'
    have hat := h1.atR
    rw [hK] at hat
    have hst := stepR_beginRound (P := C.P) (b := fr) (a := ⟨fr.tmps, fr.defers⟩) (k := K') (cs := frs ++ C.cs) hro (run_beginRound hw2 rfl)
    rw [← hat] at hst
    refine C.back _ _ hst (H ν _ _ frs hx (rel_put hr hb (o := .loop .busy pend fn' envL N' ps x y D) ⟨tmps, asC, bdC, Db, d1, d2, d3, d4, rfl⟩) ⟨h1.put (Ext.refl _) h1.env hk h1.defs, h2⟩)
  | _ => exact hi.elim

/-- The caller with the value. -/
def finishS (s : FS) (x : SV) : Option FS :=
  match s with
  | ⟨fn, ro, N, rs, env, .ops (op :: l) :: k, defs⟩ => (putE N op.d x env).map fun env' => ⟨fn, ro, N, rs, env', .ops l :: k, defs⟩
  | ⟨fn, ro, N, rs, env, .irf t :: k, defs⟩ => some ⟨fn, ro, N, rs, env, .erf t :: k, defs⟩
  | _ => none

theorem finishS_ok {P : Program} {ν ν' : Nu} {s s' : FS} {fr : Frame} (hx : Ext ν ν') (h : FS.Ok P ν s fr) {x : SV} {V : Value} (hf : finishS s x = some s') (hV : x.den ν' = some V) : s'.Ok P ν' (fr.finish V) := by
  obtain ⟨fn, ro, N, rs, env, todo, defs⟩ := s
  cases todo with
  | nil => simp [finishS] at hf
  | cons it k =>
    cases it with
    | ops l =>
      cases l with
      | nil => simp [finishS] at hf
      | cons op l =>
        simp only [finishS, Option.map_eq_some_iff] at hf
        obtain ⟨env', hp, rfl⟩ := hf
        exact finish_ops hx h hp hV
    | irf t =>
      simp only [finishS, Option.some.injEq] at hf
      subst hf
      obtain ⟨y, K', hK, hi, hk⟩ := todoOk_cons h.todo
      cases y with
      | inRangeFunc b =>
        have hat := h.atR
        rw [hK] at hat
        rw [hat, finish_atR_inRangeFunc]
        have h' := h.ext hx
        exact h.put (env := env) (l := .erf t :: k) (ds := defs) hx h'.env ⟨hx _ _ hi, todoOk_ext hx hk⟩ h'.defs
      | _ => exact hi.elim
    | _ => simp [finishS] at hf

/-- How a round ends. -/
inductive RE where
  | fall
  | jump (j : Jmp)

theorem ok_round_end {t : Nat} {c c' : FS} {st : LoopState} {pend : Option Jmp} {fn' : Nat} {envL : Env} {N' : Nat} {ps : List Nat} {x y : IC} {D : Nat} (hl : hs[t]? = some (.loop st pend fn' envL N' ps x y D)) (hc : finishS c (.bool true) = some c') :
    Ok C (c' :: r) (hs.set t (.loop .ready none fn' envL N' ps x y D)) → Ok C (⟨fn, some t, N, rs, env, [], defs⟩ :: c :: r) hs := by
  intro H ν w fr frs hx hr hf
  obtain ⟨h1, h2⟩ := hf
  cases frs with
  | nil => exact h2.elim
  | cons fc frs =>
    obtain ⟨h3, h4⟩ := h2
    obtain ⟨b, O, hb, ⟨tmps, asC, bdC, Db, d1, d2, d3, d4, rfl⟩, hw2⟩ := hr.at_ hl
    obtain ⟨b', hb', hro⟩ := h1.ro
    rw [hb] at hb'; cases hb'
    have hat := h1.atR
    rw [todoOk_nil h1.todo] at hat
    have hst := stepR_round_end (P := C.P) (b := fr) (a := ⟨fr.tmps, fr.defers⟩) (c := fc) (cs := frs ++ C.cs) hro h1.kind (run_endRound none hw2)
    rw [← hat] at hst
    refine C.back _ _ hst (H ν _ _ frs hx (rel_put hr hb (o := .loop .ready none fn' envL N' ps x y D) ⟨tmps, asC, bdC, Db, d1, d2, d3, d4, rfl⟩) ⟨finishS_ok (Ext.refl _) h3 hc rfl, h4⟩)

theorem ok_round_ret {t : Nat} {c c' : FS} {st : LoopState} {pend : Option Jmp} {fn' : Nat} {envL : Env} {N' : Nat} {ps : List Nat} {x y : IC} {D : Nat} (hl : hs[t]? = some (.loop st pend fn' envL N' ps x y D)) (hc : finishS c (.bool false) = some c') :
    Ok C (c' :: r) (hs.set t (.loop .done (some .ret) fn' envL N' ps x y D)) → Ok C (⟨fn, some t, N, rs, env, .c .ret :: k, defs⟩ :: c :: r) hs := by
  intro H ν w fr frs hx hr hf
  obtain ⟨h1, h2⟩ := hf
  cases frs with
  | nil => exact h2.elim
  | cons fc frs =>
    obtain ⟨h3, h4⟩ := h2
    obtain ⟨b, O, hb, ⟨tmps, asC, bdC, Db, d1, d2, d3, d4, rfl⟩, hw2⟩ := hr.at_ hl
    obtain ⟨b', hb', hro⟩ := h1.ro
    rw [hb] at hb'; cases hb'
    have hat := h1.atR
    have ht := h1.todo
    obtain ⟨co, K', hK, hcc, hk⟩ := todo_code ht
    have hi := comp_inv hcc
    cases co <;> simp only at hi
    rw [hK] at hat
    have hst := stepR_round_ret (P := C.P) (b := fr) (a := ⟨fr.tmps, fr.defers⟩) (c := fc) (cs := frs ++ C.cs) (k := K') hro h1.kind (run_endRound (some .ret) hw2)
    rw [← hat] at hst
    refine C.back _ _ hst (H ν _ _ frs hx (rel_put hr hb (o := .loop .done (some .ret) fn' envL N' ps x y D) ⟨tmps, asC, bdC, Db, d1, d2, d3, d4, rfl⟩) ⟨finishS_ok (Ext.refl _) h3 hc rfl, h4⟩)

theorem ok_round_exit {t id : Nat} {c c' : FS} {st : LoopState} {pend : Option Jmp} {fn' : Nat} {envL : Env} {N' : Nat} {ps : List Nat} {x y : IC} {D : Nat} (hno : exitS id k = none) (hl : hs[t]? = some (.loop st pend fn' envL N' ps x y D)) (hc : finishS c (.bool false) = some c') :
    Ok C (c' :: r) (hs.set t (.loop .done (some (.exit id)) fn' envL N' ps x y D)) → Ok C (⟨fn, some t, N, rs, env, .c (.exit id) :: k, defs⟩ :: c :: r) hs := by
  intro H ν w fr frs hx hr hf
  obtain ⟨h1, h2⟩ := hf
  cases frs with
  | nil => exact h2.elim
  | cons fc frs =>
    obtain ⟨h3, h4⟩ := h2
    obtain ⟨b, O, hb, ⟨tmps, asC, bdC, Db, d1, d2, d3, d4, rfl⟩, hw2⟩ := hr.at_ hl
    obtain ⟨b', hb', hro⟩ := h1.ro
    rw [hb] at hb'; cases hb'
    have hat := h1.atR
    have ht := h1.todo
    obtain ⟨co, K', hK, hcc, hk⟩ := todo_code ht
    have hi := comp_inv hcc
    cases co <;> simp only at hi
    subst hi
    rw [hK] at hat
    have hst := stepR_round_exit (P := C.P) (b := fr) (a := ⟨fr.tmps, fr.defers⟩) (c := fc) (cs := frs ++ C.cs) (k := K') hro h1.kind ((exitS_ok _ _ _ hk).2 hno) (run_endRound (some (.exit id)) hw2)
    rw [← hat] at hst
    refine C.back _ _ hst (H ν _ _ frs hx (rel_put hr hb (o := .loop .done (some (.exit id)) fn' envL N' ps x y D) ⟨tmps, asC, bdC, Db, d1, d2, d3, d4, rfl⟩) ⟨finishS_ok (Ext.refl _) h3 hc rfl, h4⟩)

def pendI : Option Jmp → List It → List It
  | none, k => k
  | some .ret, k => .c .ret :: k
  | some (.exit id), k => .c (.exit id) :: k

def notBusy : LoopState → Bool
  | .busy => false
  | _ => true

theorem ok_erf {t : Nat} {st : LoopState} {pend : Option Jmp} {fn' : Nat} {envL : Env} {N' : Nat} {ps : List Nat} {x y : IC} {D : Nat} (hl : hs[t]? = some (.loop st pend fn' envL N' ps x y D)) (hb : notBusy st = true) :
    Ok C (⟨fn, ro, N, rs, env, pendI pend k, defs⟩ :: r) (hs.set t (.loop .exhausted pend fn' envL N' ps x y D)) → Ok C (⟨fn, ro, N, rs, env, .erf t :: k, defs⟩ :: r) hs := by
  intro H ν w fr frs hx hr hf
  obtain ⟨h1, h2⟩ := hf
  obtain ⟨it, K', hK, hi, hk⟩ := todoOk_cons h1.todo
  cases it with
  | endRangeFunc b =>
    obtain ⟨b', O, hb', ⟨tmps, asC, bdC, Db, d1, d2, d3, d4, rfl⟩, hw2⟩ := hr.at_ hl
    simp only [itOk] at hi
    rw [hb'] at hi; cases hi
    have hat := h1.atR
    rw [hK] at hat
    have hst := stepR_endRangeFunc (P := C.P) (b := fr) (a := ⟨fr.tmps, fr.defers⟩) (k := K') (cs := frs ++ C.cs) (run_endLoop hw2 (by intro e; simp only at e; subst e; cases hb))
    rw [← hat] at hst
    refine C.back _ _ hst (H ν _ _ frs hx (rel_put hr hb' (o := .loop .exhausted pend fn' envL N' ps x y D) ⟨tmps, asC, bdC, Db, d1, d2, d3, d4, rfl⟩) ⟨h1.put (Ext.refl _) h1.env ?_ h1.defs, h2⟩)
    cases pend with
    | none => exact hk
    | some j => cases j <;> exact ⟨rfl, hk⟩
  | _ => exact hi.elim
end
end Go.Pv
