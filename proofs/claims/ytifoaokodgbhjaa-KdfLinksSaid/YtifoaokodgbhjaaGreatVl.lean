/- The operations of the machine by tags; calls, rounds, returns. -/
import Derived.Test.YtifoaokodgbhjaaGreatVk
namespace Go.Pv
open Go

/-- Is it to be carried out? -/
def wantG (g : Option (Nat × Bool)) (env : Env) : Option Bool :=
  match g with
  | none => some true
  | some (d, want) => match lk env d with
    | some (.bool b) => some (b == want)
    | some (.tup []) => some false
    | _ => none

theorem wantG_ok {P : Program} {ν : Nu} {N : Nat} {env : Env} {a : Act} (he : EnvOk ν N env a.tmps) {ops : Array Oper} {o : Oper} {x : IOp} (hc : compOper P ops o = some x) {b : Bool} (h : wantG x.g env = some b) :
    Region.wanted o (yielded ops a.tmps) = b := by
  simp only [compOper, Option.pure_def, Option.bind_eq_bind, Option.bind_eq_some_iff, Option.some.injEq] at hc
  obtain ⟨g, hg, rfl⟩ := hc
  unfold slotOf at hg
  unfold Region.wanted
  split at hg
  · rename_i hgd
    cases hg
    cases h
    rw [hgd]
  · rename_i j want hgd
    simp only [Option.map_eq_some_iff] at hg
    obtain ⟨d, hd, rfl⟩ := hg
    rw [hgd]
    simp only [wantG] at h
    unfold yielded
    simp only [hd, Option.bind_some]
    split at h
    · rename_i t hl
      cases h
      obtain ⟨V, h1, h2⟩ := he.at_ _ _ hl
      rw [den_bool h1] at h2
      rw [h2]
      cases t <;> cases want <;> rfl
    · rename_i hl
      cases h
      obtain ⟨V, h1, h2⟩ := he.at_ _ _ hl
      simp [SV.den, dens] at h1
      subst h1
      rw [h2]
      cases want <;> rfl
    · cases h

theorem compOper_inv {P : Program} {ops : Array Oper} {o : Oper} {x : IOp} (hc : compOper P ops o = some x) : x.d = o.dst ∧ (compOp P o.op = some x.o ∨ x.o = .bad) := by
  simp only [compOper, Option.pure_def, Option.bind_eq_bind, Option.bind_eq_some_iff, Option.some.injEq] at hc
  obtain ⟨g, hg, rfl⟩ := hc
  refine ⟨rfl, ?_⟩
  cases h : compOp P o.op with
  | none => right; rfl
  | some y => left; rfl

theorem evR_bad (env : Env) (hs : List SO) : evR .bad env hs = .no := rfl

theorem op_not_defer {P : Program} {o : Oper} {x : O} (h : compOp P o.op = some x) (c : Call) : o.op ≠ .defer c := by
  intro e
  rw [e] at h
  simp [compOp] at h

/-- `d` gets `x`; on with `.ops l :: k`. -/
def NextOk (C : Ctx) (fn : Nat) (ro : Option Nat) (N : Nat) (rs : List RP) (env : Env) (l : List IOp) (k : List It) (defs : List Nat) (r : List FS) (d : Option Nat) (x : SV) (hs : List SO) : Prop :=
  match putE N d x env with
  | some env' => Ok C (⟨fn, ro, N, rs, env', .ops l :: k, defs⟩ :: r) hs
  | none => False

def ResOk (C : Ctx) (fn : Nat) (ro : Option Nat) (N : Nat) (rs : List RP) (env : Env) (l : List IOp) (k : List It) (defs : List Nat) (r : List FS) (d : Option Nat) (hs : List SO) : Res → Prop
  | .v p x => p ∧ NextOk C fn ro N rs env l k defs r d x hs
  | .n p x hs' => p ∧ NextOk C fn ro N rs env l k defs r d x hs'
  | .u p hs' => p ∧ NextOk C fn ro N rs env l k defs r d (.tup []) hs'
  | .ap p need cap x hs' f => p ∧ (need ≤ cap → NextOk C fn ro N rs env l k defs r d x hs') ∧ (cap < need → ∀ c, need ≤ c → NextOk C fn ro N rs env l k defs r d (f c).1 (f c).2)
  | .call _ _ => False
  | .no => False

section
variable {C : Ctx} {fn N : Nat} {ro : Option Nat} {rs : List RP} {env : Env} {k : List It} {defs : List Nat} {r : List FS} {hs : List SO} {op : IOp} {l : List IOp}

/-- The head of a region: an operation and the rest. -/
theorem todo_ops {P : Program} {ν : Nu} {K : List Item} (h : todoOk P ν (.ops (op :: l) :: k) K) :
    ∃ ops i rest K' o, K = .inRegion ops (i :: rest) :: K' ∧ ops[i]? = some o ∧ compOper P ops o = some op ∧ restOk P ops rest l ∧ todoOk P ν k K' := by
  obtain ⟨y, K', rfl, h1, h2⟩ := todoOk_cons h
  cases y with
  | inRegion ops l' =>
    cases l' with
    | nil => exact h1.elim
    | cons i rest =>
      obtain ⟨⟨o, h3, h4⟩, h5⟩ := h1
      exact ⟨ops, i, rest, K', o, rfl, h3, h4, h5, h2⟩
  | _ => exact h1.elim

/-- The caller goes on with a value. -/
theorem finish_ops {P : Program} {ν ν' : Nu} {fr : Frame} (hx : Ext ν ν') (h : FS.Ok P ν ⟨fn, ro, N, rs, env, .ops (op :: l) :: k, defs⟩ fr) {env' : Env} {x : SV} {V : Value} (hp : putE N op.d x env = some env') (hV : x.den ν' = some V) :
    FS.Ok P ν' ⟨fn, ro, N, rs, env', .ops l :: k, defs⟩ (fr.finish V) := by
  obtain ⟨ops, i, rest, K', o, hK, h1, h2, h3, h4⟩ := todo_ops h.todo
  have hat := h.atR
  rw [hK] at hat
  rw [hat, Frame.finish_atR, h1]
  have hd := (compOper_inv h2).1
  have h' := h.ext hx
  refine h.put (env := env') (l := .ops l :: k) (ds := defs) hx ?_ ⟨h3, todoOk_ext hx h4⟩ ?_
  · rw [hd] at hp
    exact putE_ok (a := ⟨fr.tmps, fr.defers⟩) h'.env hp hV
  · rw [put_defers]; exact h'.defs

theorem stepR_op {P : Program} {b : Frame} {a : Act} {K : List Item} {cs : List Frame} {w : World} {ops : Array Oper} {i : Nat} {rest : List Nat} {o : Oper} (ho : ops[i]? = some o) (hw : Region.wanted o (yielded ops a.tmps) = true) (hnd : ∀ c, o.op ≠ .defer c)
    {n : Next} {w' : World} (hr : (execOp a.eval o).run P w = .ok n w') {V : Value} (hn : n = .value V ∨ (n = .skip ∧ V = undef)) :
    step P (lone (b.atR a (.inRegion ops (i :: rest) :: K)) cs w) = .next (lone ((b.atR a (.inRegion ops (i :: rest) :: K)).finish V) cs w') :=
  step_lone_go (by
    rw [stepGR_op ho hw, Oper.semAt_eq _ _ _ hnd]
    rcases hn with rfl | ⟨rfl, rfl⟩ <;> simp [stepG.apply, Sem.runT_eq, hr, GStep.bare_after])

theorem ok_op_skip (hg : wantG op.g env = some false) : NextOk C fn ro N rs env l k defs r op.d (.tup []) hs → Ok C (⟨fn, ro, N, rs, env, .ops (op :: l) :: k, defs⟩ :: r) hs := by
  intro H ν w fr frs hx hr hf
  obtain ⟨h1, h2⟩ := hf
  obtain ⟨ops, i, rest, K', o, hK, g1, g2, g3, g4⟩ := todo_ops h1.todo
  have hat := h1.atR
  rw [hK] at hat
  have hs' := stepR_op_skip (P := C.P) (b := fr) (a := ⟨fr.tmps, fr.defers⟩) (k := K') (cs := frs ++ C.cs) (w := w) (ops := ops) (i := i) (rest := rest) (by rw [g1]; simp [wantG_ok (a := ⟨fr.tmps, fr.defers⟩) h1.env g2 hg])
  rw [← Frame.finish_atR, ← hat] at hs'
  unfold NextOk at H
  split at H
  · rename_i env' hp
    exact C.back _ _ hs' (H ν w _ frs hx hr ⟨finish_ops (Ext.refl _) h1 hp rfl, h2⟩)
  · exact H.elim

theorem ok_op (hg : wantG op.g env = some true) : ResOk C fn ro N rs env l k defs r op.d hs (evR op.o env hs) → Ok C (⟨fn, ro, N, rs, env, .ops (op :: l) :: k, defs⟩ :: r) hs := by
  intro H ν w fr frs hx hr hf
  obtain ⟨h1, h2⟩ := hf
  obtain ⟨ops, i, rest, K', o, hK, g1, g2, g3, g4⟩ := todo_ops h1.todo
  have hat := h1.atR
  rw [hK] at hat
  obtain ⟨hd, hcb⟩ := compOper_inv g2
  rcases hcb with hc | hbad
  rotate_left
  · rw [hbad, evR_bad] at H; exact H.elim
  have hdo := op_ok (a := ⟨fr.tmps, fr.defers⟩) hr h1.env hc
  have hw := wantG_ok (a := ⟨fr.tmps, fr.defers⟩) h1.env g2 hg
  -- with a value
  have fin : ∀ x hs', NextOk C fn ro N rs env l k defs r op.d x hs' → DoesN C.P C.w0 C.ν0 ν x hs' ((execOp (Act.eval ⟨fr.tmps, fr.defers⟩) o).run C.P w) → C.G (lone fr (frs ++ C.cs) w) := by
    intro x hs' hn ⟨V, w', ν', e1, e2, e3, e4⟩
    unfold NextOk at hn
    split at hn
    · rename_i env' hp
      have hst := stepR_op (b := fr) (K := K') (cs := frs ++ C.cs) (rest := rest) g1 hw (op_not_defer hc) e4 (.inl rfl)
      rw [← hat] at hst
      exact C.back _ _ hst (hn ν' w' _ frs (hx.trans e1) e2 ⟨finish_ops e1 h1 hp e3, fsOk_ext e1 h2⟩)
    · exact hn.elim
  have finU : ∀ hs', NextOk C fn ro N rs env l k defs r op.d (.tup []) hs' → DoesU C.P C.w0 C.ν0 ν hs' ((execOp (Act.eval ⟨fr.tmps, fr.defers⟩) o).run C.P w) → C.G (lone fr (frs ++ C.cs) w) := by
    intro hs' hn ⟨w', e2, e4⟩
    unfold NextOk at hn
    split at hn
    · rename_i env' hp
      have hst := stepR_op (V := undef) (b := fr) (K := K') (cs := frs ++ C.cs) (rest := rest) g1 hw (op_not_defer hc) e4 (.inr ⟨rfl, rfl⟩)
      rw [← hat] at hst
      exact C.back _ _ hst (hn ν w' _ frs hx e2 ⟨finish_ops (Ext.refl _) h1 hp rfl, h2⟩)
    · exact hn.elim
  cases hv : evR op.o env hs with
  | v p x => rw [hv] at H hdo; exact fin x hs H.2 (hdo H.1)
  | n p x hs' => rw [hv] at H hdo; exact fin x hs' H.2 (hdo H.1)
  | u p hs' => rw [hv] at H hdo; exact finU hs' H.2 (hdo H.1)
  | ap p need cap x hs' f =>
    rw [hv] at H hdo
    obtain ⟨hp, ha, hb⟩ := H
    rcases hdo hp with ⟨hle, h⟩ | ⟨hlt, c, hc', h⟩
    · exact fin x hs' (ha hle) h
    · exact fin _ _ (hb hlt c hc') h
  | call f as => rw [hv] at H; exact H.elim
  | no => rw [hv] at H; exact H.elim
end
end Go.Pv
