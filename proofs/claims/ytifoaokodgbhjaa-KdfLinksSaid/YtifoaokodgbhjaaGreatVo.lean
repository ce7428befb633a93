/- A range over a function, and the return, by tags. -/
import Derived.Test.YtifoaokodgbhjaaGreatVn
namespace Go.Pv
open Go

/-- The deferred blocks are taken. -/
def unD : List Nat → List SO → Option (List SO)
  | [], hs => some hs
  | t :: r, hs => match hs[t]? with
    | some (.defd true) => unD r (hs.set t (.defd false))
    | _ => none

def retV1 (env : Env) (hs : List SO) : RP → Res
  | .t n => match lk env n with
    | some v => if v.one = true then .v True v else .no
    | none => .no
  | .c n => match lk env n with
    | some (.ptr t off) => match hs[t]? with
      | some (.cells cs _ _ _) => ldR cs off
      | _ => .no
    | _ => .no
  | .a n sz => match lk env n with
    | some (.ptr t off) => match hs[t]? with
      | some (.cells cs _ _ _) => ldaR cs off sz
      | _ => .no
    | _ => .no

def retVs (env : Env) (hs : List SO) : List RP → Option (Prop × List SV)
  | [] => some (True, [])
  | x :: r => match retV1 env hs x, retVs env hs r with
    | .v p v, some (q, vs) => some (p ∧ q, v :: vs)
    | _, _ => none

def tupV : List SV → SV
  | [v] => v
  | vs => .tup vs

/-- One result, as the machine reads it. -/
def resOne (tmps : Array Value) : ResultVar → Sem Value
  | .tmp t => pure (tmps.getD t undef)
  | .cell a t => do loadVar t (← asAddr (tmps.getD a undef))

theorem results_eq (F : Func) (tmps : Array Value) : results F tmps = (do
    let vs ← F.results.mapM (resOne tmps)
    pure (if h : vs.size = 1 then vs[0] else .tuple vs)) := rfl

theorem one_of_den {ν : Nu} {x : SV} {V : Value} (h : x.den ν = some V) : x.one = true := by
  cases x <;> simp_all [SV.one, SV.den]

section
variable {C : Ctx} {fn N : Nat} {ro : Option Nat} {rs : List RP} {env : Env} {k : List It} {defs : List Nat} {r : List FS} {hs : List SO} {op : IOp} {l : List IOp}
variable {P : Program} {w0 w : World} {ν0 ν : Nu} {tmps : Array Value}

theorem retV1_ok (rel : Rel P w0 ν0 ν hs w) (he : EnvOk ν N env tmps) {x : ResultVar} {y : RP} (hc : compRP P x = some y) {p : Prop} {v : SV} (h : retV1 env hs y = .v p v) (hp : p) :
    v.one = true ∧ ∃ V, v.den ν = some V ∧ (resOne tmps x).run P w = .ok V w := by
  cases x with
  | tmp t =>
    cases hc
    simp only [retV1] at h
    split at h
    · rename_i u hu
      split at h
      · rename_i h1
        cases h
        obtain ⟨V, h2, h3⟩ := he.at_ _ _ hu
        exact ⟨h1, V, h2, by simp [resOne, h3]⟩
      · cases h
    · cases h
  | cell a ty =>
    simp only [compRP] at hc
    split at hc
    · rename_i hag
      simp only [Option.map_eq_some_iff] at hc
      obtain ⟨sz, hsz, rfl⟩ := hc
      simp only [retV1] at h
      split at h
      · rename_i t off hu
        obtain ⟨V, h2, h3⟩ := he.at_ _ _ hu
        obtain ⟨b, hb, rfl⟩ := den_ptr h2
        split at h
        · rename_i cs ty' f g hh
          obtain ⟨Cl, hC, hw⟩ := rel_at rel hb hh
          obtain ⟨d, rfl, hl, hdd⟩ := ldaR_ok hC h hp
          refine ⟨rfl, .agg ((Cl.drop off).take sz).toArray, by simp [SV.den, hdd], ?_⟩
          have := run_loadVar_agg (P := P) (b := b) hag hsz (fun j _ => cell_at hw _) hl
          simp [resOne, h3, asAddr]
          exact this
        · cases h
      · cases h
    · rename_i hag
      simp only [Option.map_eq_some_iff] at hc
      obtain ⟨d, hd, rfl⟩ := hc
      simp only [retV1] at h
      split at h
      · rename_i t off hu
        obtain ⟨V, h2, h3⟩ := he.at_ _ _ hu
        obtain ⟨b, hb, rfl⟩ := den_ptr h2
        split at h
        · rename_i cs ty' f g hh
          obtain ⟨Cl, hC, hw⟩ := rel_at rel hb hh
          obtain ⟨V, hV, hg⟩ := ldR_ok hC h hp
          refine ⟨one_of_den hV, V, hV, ?_⟩
          have := run_loadVar_one (P := P) hd (by simpa using hag) (w := w) (ad := ⟨b, off, none⟩) (V := V) (by rw [cell_at hw]; exact hg)
          simp [resOne, h3, asAddr]
          exact this
        · cases h
      · cases h

theorem retVs_ok (rel : Rel P w0 ν0 ν hs w) (he : EnvOk ν N env tmps) : ∀ (xs : List ResultVar) (ys : List RP), compRs P xs = some ys → ∀ (p : Prop) (vs : List SV), retVs env hs ys = some (p, vs) → p →
    vs.all SV.one = true ∧ ∃ Vs, dens ν vs = some Vs ∧ vs.length = Vs.length ∧ (∀ v, vs = [v] → ∃ V, Vs = [V] ∧ v.den ν = some V) ∧ (xs.mapM (resOne tmps)).run P w = .ok Vs w
  | [], ys, hc, p, vs, h, hp => by
    cases hc; cases h
    exact ⟨rfl, [], by simp [dens], rfl, fun v hv => (by cases hv), rfl⟩
  | x :: xs, ys, hc, p, vs, h, hp => by
    simp only [compRs, Option.bind_eq_some_iff, Option.map_eq_some_iff] at hc
    obtain ⟨y, hy, ys', hys, rfl⟩ := hc
    simp only [retVs] at h
    split at h
    · rename_i q v q' vs' h1 h2
      cases h
      obtain ⟨a1, V, a2, a3⟩ := retV1_ok rel he hy h1 hp.1
      obtain ⟨b1, Vs, b2, b3, b4, b5⟩ := retVs_ok rel he xs ys' hys _ _ h2 hp.2
      refine ⟨by simp [a1, b1], V :: Vs, dens_one_mk a1 a2 b2, by simp [b3], fun u hu => ?_, ?_⟩
      · cases hu
        cases Vs with
        | nil => exact ⟨V, rfl, a2⟩
        | cons _ _ => simp at b3
      · rw [List.mapM_cons, Sem.run_bind, a3]
        simp only [Result.andThen_ok, Sem.run_bind]
        rw [b5]
        rfl
    · cases h

theorem results_ok (rel : Rel P w0 ν0 ν hs w) (he : EnvOk ν N env tmps) {F : Func} (hc : compRs P F.results.toList = some rs) {p : Prop} {vs : List SV} (h : retVs env hs rs = some (p, vs)) (hp : p) :
    ∃ V, (tupV vs).den ν = some V ∧ (results F tmps).run P w = .ok V w := by
  obtain ⟨h1, Vs, h2, h3, h4, h5⟩ := retVs_ok rel he _ _ hc p vs h hp
  have hm : (F.results.mapM (resOne tmps)).run P w = .ok Vs.toArray w := by
    rw [Array.mapM_eq_mapM_toList, ← bind_pure_comp, Sem.run_bind, h5]
    rfl
  have hmap := map_of_dens vs Vs h1 h2
  refine ⟨if h : Vs.toArray.size = 1 then Vs.toArray[0] else .tuple Vs.toArray, ?_, ?_⟩
  · match vs, Vs, h3, h4 with
    | [], [], _, _ => simp [tupV, SV.den, dens]
    | [v], [V], _, h4 =>
      obtain ⟨V', e1, e2⟩ := h4 v rfl
      cases e1
      simpa [tupV] using e2
    | v :: v2 :: vs, V :: V2 :: Vs, _, _ =>
      have : (v :: v2 :: vs).length ≠ 1 := by simp
      simp [tupV, SV.den, h2]
  · rw [results_eq, Sem.run_bind, hm]
    rfl

theorem unD_ok : ∀ (ds : List Nat) (hs hs' : List SO) (w : World), Rel P w0 ν0 ν hs w → unD ds hs = some hs' → ∀ (fr : Frame) (cs : List Frame) (ds' : List Deferred), defsOk ν ds ds' → fr.defers = ds' → fr.mode ≠ .run →
    ∃ w', Rel P w0 ν0 ν hs' w' ∧ Steps P (lone fr cs w) (lone { fr with defers := [] } cs w')
  | [], hs, hs', w, rel, h, fr, cs, ds', hd, hf, hm => by
    cases h
    cases ds' with
    | nil =>
      refine ⟨w, rel, ?_⟩
      have : ({ fr with defers := [] } : Frame) = fr := by cases fr; simp only at hf; subst hf; rfl
      rw [this]
      exact .refl _ _
    | cons _ _ => exact hd.elim
  | t :: ds, hs, hs', w, rel, h, fr, cs, ds', hd, hf, hm => by
    cases ds' with
    | nil => exact hd.elim
    | cons d ds' =>
      obtain ⟨⟨b, hb, ht⟩, hd'⟩ := hd
      simp only [unD] at h
      split at h
      · rename_i hh
        obtain ⟨b', O, hb', hO, hw⟩ := rel.at_ hh
        rw [hb] at hb'; cases hb'
        have hO' : O = .deferred (some []) := by simpa [SO.Den] using hO
        subst hO'
        have hst := step_collected (P := P) (cs := cs) hm hf ht (run_takeDeferred hw)
        have rel' := rel_put rel hb (o := .defd false) (O := .deferred none) (by simp [SO.Den])
        obtain ⟨w', r1, r2⟩ := unD_ok ds _ hs' _ rel' h { fr with defers := [] ++ ds' } cs ds' hd' rfl hm
        exact ⟨w', r1, .head hst r2⟩
      · cases h
end

section
variable {C : Ctx} {fn N : Nat} {ro : Option Nat} {rs : List RP} {env : Env} {k : List It} {defs : List Nat} {r : List FS} {hs : List SO} {op : IOp} {l : List IOp}

theorem back_steps (C : Ctx) {m m' : Machine} (h : Steps C.P m m') : C.G m' → C.G m := by
  obtain ⟨n, hn⟩ := h
  intro g
  induction n generalizing m with
  | zero => simp [runN] at hn; exact hn ▸ g
  | succ n ih =>
    simp only [runN] at hn
    cases hs : step C.P m with
    | next m1 => rw [hs] at hn; exact C.back _ _ hs (ih hn)
    | _ => rw [hs] at hn; cases hn

/-- What is to be shown of a return. -/
def RetOk (C : Ctx) (fn : Nat) (rs : List RP) (env : Env) (defs : List Nat) (r : List FS) (hs : List SO) : Prop :=
  match unD defs hs with
  | none => False
  | some hs' => match retVs env hs' rs with
    | none => False
    | some (p, vs) => p ∧ (match r with
      | [] => fn = C.f ∧ C.Q (tupV vs) hs'
      | c :: r => match finishS c (tupV vs) with
        | some c' => Ok C (c' :: r) hs'
        | none => False)

theorem ret_aux (h : RetOk C fn rs env defs r hs) {ν : Nu} {w : World} {fr : Frame} {frs : List Frame} (hx : Ext C.ν0 ν) (hr : Rel C.P C.w0 C.ν0 ν hs w) (hfn : fr.fn = fn) (he : EnvOk ν N env fr.tmps) (hd : defsOk ν defs fr.defers) (hm : fr.mode = .returning)
    (hk : fr.kind = .normal) (hrs : ∃ F, C.P.funcs[fn]? = some F ∧ compRs C.P F.results.toList = some rs) (hf : fsOk C.P ν r frs) : C.G (lone fr (frs ++ C.cs) w) := by
  unfold RetOk at h
  split at h
  · exact h.elim
  rename_i hs' hu
  split at h
  · exact h.elim
  rename_i p vs hv
  obtain ⟨hp, h⟩ := h
  obtain ⟨w', r1, r2⟩ := unD_ok defs hs hs' w hr hu fr (frs ++ C.cs) fr.defers hd rfl (by rw [hm]; simp)
  refine back_steps C r2 ?_
  obtain ⟨F, hF, hcr⟩ := hrs
  obtain ⟨V, e1, e2⟩ := results_ok r1 he hcr hv hp
  have hleave : ({ fr with defers := [] } : Frame).leaving C.P w' (.returned V) := ⟨hm, rfl, hk, F, by rw [show ({ fr with defers := [] } : Frame).fn = fn from hfn]; exact hF, e2⟩
  cases r with
  | nil =>
    cases frs with
    | nil => exact C.fin _ w' V ν _ _ (hfn.trans h.1) hleave hx r1 e1 h.2
    | cons _ _ => exact hf.elim
  | cons c r =>
    cases frs with
    | nil => exact hf.elim
    | cons fc frs =>
      simp only at h
      split at h
      · rename_i c' hc
        exact C.back _ _ (step_leave_returned hleave) (h ν w' _ frs hx r1 ⟨finishS_ok (Ext.refl _) hf.1 hc e1, hf.2⟩)
      · exact h.elim

theorem ok_ret (h : RetOk C fn rs env defs r hs) : Ok C (⟨fn, none, N, rs, env, .c .ret :: k, defs⟩ :: r) hs := by
  intro ν w fr frs hx hr hf
  obtain ⟨h1, h2⟩ := hf
  obtain ⟨co, K', hK, hcc, hk⟩ := todo_code h1.todo
  have hi := comp_inv hcc
  cases co <;> simp only at hi
  have hat := h1.atR
  rw [hK] at hat
  have hst := stepR_ret (P := C.P) (b := fr) (a := ⟨fr.tmps, fr.defers⟩) (k := K') (cs := frs ++ C.cs) (w := w) h1.ro
  rw [← hat] at hst
  exact C.back _ _ hst (ret_aux (fr := { fr with mode := .returning }) h hx hr h1.fn h1.env h1.defs rfl h1.kind (h1.rs rfl) h2)

theorem ok_end (h : RetOk C fn rs env defs r hs) : Ok C (⟨fn, none, N, rs, env, [], defs⟩ :: r) hs := by
  intro ν w fr frs hx hr hf
  obtain ⟨h1, h2⟩ := hf
  have hat := h1.atR
  rw [todoOk_nil h1.todo] at hat
  have hst := stepR_end (P := C.P) (b := fr) (a := ⟨fr.tmps, fr.defers⟩) (cs := frs ++ C.cs) (w := w) h1.ro
  rw [← hat] at hst
  exact C.back _ _ hst (ret_aux (fr := { fr with mode := .returning }) h hx hr h1.fn h1.env h1.defs rfl h1.kind (h1.rs rfl) h2)

theorem run_rangeCall {P : Program} {f : Nat} {c : FnC} (hF : FnOk P f c) {ρ : Operand → Value} {g : Operand} {Cs : Array Value} (hg : ρ g = .func (.func f) #[] Cs) (hk : ∀ v, ρ (.const v) = v) (L : Nat) (w : World) :
    ∃ d, (resolve ρ (rangeCall g L) 0).run P w = .ok d w ∧ (invoke d.target d.args).run P w = .ok (.enter f (#[.func (.yield L) #[] #[]] ++ Cs)) w := by
  obtain ⟨F, code, g1, g2, g3, g4, g5, g6⟩ := hF.ok
  refine ⟨{ target := .fn (.func f) Cs, args := #[.func (.yield L) #[] #[]] }, by simp [resolve, hg, hk, Deferred.ofValue], ?_⟩
  simp only [invoke]
  exact run_callFunc hF _ w

/-- A range over a function, in a frame of a function's own. -/
theorem ok_rf {e : Ex} {ps : List Nat} {x y : IC} {f : Nat} {caps : List SV} (he : ev env e = some (.fn f caps)) {c : FnC} (hF : FnOk C.P f c) (hc1 : caps.all SV.one = true) (hn : caps.length + 1 ≤ c.N) :
    Ok C (FS.start f c (.yld (hs.length + 1) :: caps) :: ⟨fn, none, N, rs, env, .irf (hs.length + 1) :: k, hs.length :: defs⟩ :: r) (hs ++ [.defd true] ++ [.loop .ready none fn env N ps x y hs.length]) →
    Ok C (⟨fn, none, N, rs, env, .c (.rf e ps x y) :: k, defs⟩ :: r) hs := by
  intro H ν w fr frs hx hr hf
  obtain ⟨h1, h2⟩ := hf
  obtain ⟨co, K', hK, hcc, hk⟩ := todo_code h1.todo
  have hi := comp_inv hcc
  cases co <;> simp only at hi
  rename_i g ps asC bdC
  obtain ⟨i1, rfl, i3, i4⟩ := hi
  have hat := h1.atR
  rw [hK] at hat
  have hV := ev_ok (a := ⟨fr.tmps, fr.defers⟩) h1.env i1 he
  simp only [SV.den, Option.map_eq_some_iff] at hV
  obtain ⟨Cs, hCs, hV⟩ := hV
  have rel1 := hr.alloc (o := .defd true) (O := .deferred (some [])) (by simp [SO.Den])
  have hD : (ν ++ [w.heap.size])[hs.length]? = some w.heap.size := by simp [← hr.len]
  have hx1 : Ext ν (ν ++ [w.heap.size]) := Ext.app _ _
  have hx2 : Ext ν (ν ++ [w.heap.size] ++ [w.heap.size + 1]) := hx1.trans (Ext.app _ _)
  have hsz : ({ w with heap := w.heap.push (.deferred (some [])) } : World).heap.size = w.heap.size + 1 := by simp
  have rel2 := rel1.alloc (o := .loop .ready none fn env N ps.toList x y hs.length) (O := .loop { state := .ready, pending := none, fn := fn, tmps := fr.tmps, params := ps, assign := asC, body := bdC, defers := w.heap.size })
    ⟨fr.tmps, asC, bdC, w.heap.size, by rw [List.getElem?_append_left (by simp [← hr.len])]; exact hD, h1.env.ext (by rw [hsz]; exact hx2), i3, i4, by simp⟩
  rw [hsz] at rel2
  obtain ⟨d, q1, q2⟩ := run_rangeCall hF (ρ := Act.eval ⟨fr.tmps, fr.defers⟩) (g := g) (Cs := Cs.toArray) hV.symm (fun _ => rfl) (w.heap.size + 1)
    ((w.alloc (.deferred (some []))).alloc (.loop { state := .ready, pending := none, fn := fr.fn, tmps := fr.tmps, params := ps, assign := asC, body := bdC, defers := w.heap.size }))
  have hro : fr.roundOf = none := h1.ro
  have hst := stepR_rangeFunc (P := C.P) (b := fr) (a := ⟨fr.tmps, fr.defers⟩) (k := K') (cs := frs ++ C.cs) (ps := ps) (assign := asC) (body := bdC) (by rw [hro]; exact run_enterLoop_outer (P := C.P) (w := w) fr.fn fr.tmps ps asC bdC) q1 q2
  rw [← hat] at hst
  have hL : (ν ++ [w.heap.size] ++ [w.heap.size + 1])[hs.length + 1]? = some (w.heap.size + 1) := by simp [← hr.len]
  refine C.back _ _ hst (H _ _ _ (_ :: frs) (hx.trans hx2) ?_ ⟨?_, ?_, fsOk_ext hx2 h2⟩)
  · rw [show fr.fn = fn from h1.fn]
    exact rel2
  · have := start_ok (ν := ν ++ [w.heap.size] ++ [w.heap.size + 1]) hF (as := .yld (hs.length + 1) :: caps) (As := .func (.yield (w.heap.size + 1)) #[] #[] :: Cs) (by simp [SV.one, hc1]) (dens_one_mk rfl (by simp only [SV.den, hL, Option.map_some]) (dens_ext hx2 _ _ hCs)) (by simpa using hn)
    simpa using this
  · exact h1.put (env := env) (l := .irf (hs.length + 1) :: k) (ds := hs.length :: defs) hx2 (h1.env.ext hx2) ⟨hL, todoOk_ext hx2 hk⟩ ⟨⟨w.heap.size, by rw [List.getElem?_append_left (by simp [← hr.len])]; exact hD, rfl⟩, defsOk_ext hx2 h1.defs⟩

/-- A range over a function within a round: the rounds' deferred calls go where the outer loop's go. -/
theorem ok_rf_in {t : Nat} {e : Ex} {ps : List Nat} {x y : IC} {f : Nat} {caps : List SV} (he : ev env e = some (.fn f caps)) {c : FnC} (hF : FnOk C.P f c) (hc1 : caps.all SV.one = true) (hn : caps.length + 1 ≤ c.N)
    {st : LoopState} {pend : Option Jmp} {fn' : Nat} {envL : Env} {N' : Nat} {ps' : List Nat} {x' y' : IC} {D : Nat} (hl : hs[t]? = some (.loop st pend fn' envL N' ps' x' y' D)) :
    Ok C (FS.start f c (.yld hs.length :: caps) :: ⟨fn, some t, N, rs, env, .irf hs.length :: k, defs⟩ :: r) (hs ++ [.loop .ready none fn env N ps x y D]) →
    Ok C (⟨fn, some t, N, rs, env, .c (.rf e ps x y) :: k, defs⟩ :: r) hs := by
  intro H ν w fr frs hx hr hf
  obtain ⟨h1, h2⟩ := hf
  obtain ⟨co, K', hK, hcc, hk⟩ := todo_code h1.todo
  have hi := comp_inv hcc
  cases co <;> simp only at hi
  rename_i g ps asC bdC
  obtain ⟨i1, rfl, i3, i4⟩ := hi
  have hat := h1.atR
  rw [hK] at hat
  have hV := ev_ok (a := ⟨fr.tmps, fr.defers⟩) h1.env i1 he
  simp only [SV.den, Option.map_eq_some_iff] at hV
  obtain ⟨Cs, hCs, hV⟩ := hV
  obtain ⟨b, O, hb, ⟨tmps, asC', bdC', Db, d1, d2, d3, d4, rfl⟩, hw2⟩ := hr.at_ hl
  obtain ⟨b', hb', hro⟩ := h1.ro
  rw [hb] at hb'; cases hb'
  have hx1 : Ext ν (ν ++ [w.heap.size]) := Ext.app _ _
  have rel2 := hr.alloc (o := .loop .ready none fn env N ps.toList x y D) (O := .loop { state := .ready, pending := none, fn := fn, tmps := fr.tmps, params := ps, assign := asC, body := bdC, defers := Db })
    ⟨fr.tmps, asC, bdC, Db, hx1 _ _ d1, h1.env.ext hx1, i3, i4, by simp⟩
  obtain ⟨d, q1, q2⟩ := run_rangeCall hF (ρ := Act.eval ⟨fr.tmps, fr.defers⟩) (g := g) (Cs := Cs.toArray) hV.symm (fun _ => rfl) w.heap.size
    (w.alloc (.loop { state := .ready, pending := none, fn := fr.fn, tmps := fr.tmps, params := ps, assign := asC, body := bdC, defers := Db }))
  have hst := stepR_rangeFunc (P := C.P) (b := fr) (a := ⟨fr.tmps, fr.defers⟩) (k := K') (cs := frs ++ C.cs) (ps := ps) (assign := asC) (body := bdC) (mark := []) (w := w)
    (by rw [hro]; simp only [Instr.enterLoop, Sem.run_bind, run_getLoop hw2, run_newObj_alloc, Result.andThen, Sem.run_pure]) q1 q2
  rw [← hat] at hst
  have hL : (ν ++ [w.heap.size])[hs.length]? = some w.heap.size := by simp [← hr.len]
  refine C.back _ _ hst (H _ _ _ (_ :: frs) (hx.trans hx1) ?_ ⟨?_, ?_, fsOk_ext hx1 h2⟩)
  · rw [show fr.fn = fn from h1.fn]
    exact rel2
  · have := start_ok (ν := ν ++ [w.heap.size]) hF (as := .yld hs.length :: caps) (As := .func (.yield w.heap.size) #[] #[] :: Cs) (by simp [SV.one, hc1]) (dens_one_mk rfl (by simp only [SV.den, hL, Option.map_some]) (dens_ext hx1 _ _ hCs)) (by simpa using hn)
    simpa using this
  · exact h1.put (env := env) (l := .irf hs.length :: k) (ds := defs) hx1 (h1.env.ext hx1) ⟨hL, todoOk_ext hx1 hk⟩ (defsOk_ext hx1 h1.defs)
end
end Go.Pv
