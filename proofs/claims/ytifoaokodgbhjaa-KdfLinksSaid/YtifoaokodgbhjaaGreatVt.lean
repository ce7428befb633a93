/- Handy forms: what is forgotten at a return, loops, small facts on numbers. -/
import Derived.Test.YtifoaokodgbhjaaGreatVr
namespace Go.Pv
open Go

mutual
theorem ren_id {n : Nat} : ∀ (v : SV), v.bnd n = true → v.ren (List.range n) = v
  | .int _ _, _ => rfl
  | .bool _, _ => rfl
  | .str _, _ => rfl
  | .ptr t off, e => by
    simp only [SV.bnd, decide_eq_true_eq] at e
    simp [SV.ren, e]
  | .nilp, _ => rfl
  | .sl t off len cap, e => by
    simp only [SV.bnd, decide_eq_true_eq] at e
    simp [SV.ren, e]
  | .nils, _ => rfl
  | .fn f caps, e => by
    simp only [SV.bnd] at e
    simp only [SV.ren, rens_id caps e]
  | .yld t, e => by
    simp only [SV.bnd, decide_eq_true_eq] at e
    simp [SV.ren, e]
  | .nilf, _ => rfl
  | .mp t, e => by
    simp only [SV.bnd, decide_eq_true_eq] at e
    simp [SV.ren, e]
  | .nilm, _ => rfl
  | .agg cs, e => by
    simp only [SV.bnd] at e
    simp only [SV.ren, rens_id cs e]
  | .tup vs, e => by
    simp only [SV.bnd] at e
    simp only [SV.ren, rens_id vs e]
  | .run _ _ _, _ => rfl
  | .raw _, _ => rfl
theorem rens_id {n : Nat} : ∀ (l : List SV), bnds n l = true → rens (List.range n) l = l
  | [], _ => rfl
  | v :: r, e => by
    simp only [bnds, Bool.and_eq_true] at e
    simp only [rens, ren_id v e.1, rens_id r e.2]
end

theorem renE_id {n : Nat} : ∀ (e : Env), bndE n e = true → renE (List.range n) e = e
  | [], _ => rfl
  | (s, v) :: r, h => by
    simp only [bndE, Bool.and_eq_true] at h
    simp only [renE, ren_id v h.1, renE_id r h.2]
theorem renM_id {n : Nat} : ∀ (e : List (IntKind × Int × SV × Nat)), bndM n e = true → renM (List.range n) e = e
  | [], _ => rfl
  | (s, i, v, b) :: r, h => by
    simp only [bndM, Bool.and_eq_true] at h
    simp only [renM, ren_id v h.1, renM_id r h.2]
theorem soRen_id {n : Nat} (o : SO) (h : o.bnd n = true) : o.ren (List.range n) = o := by
  cases o with
  | cells cs ty a b => simp only [SO.ren, rens_id cs h]
  | loop st pend fn env N ps x y D =>
    simp only [SO.bnd, Bool.and_eq_true, decide_eq_true_eq] at h
    simp [SO.ren, renE_id env h.1, h.2]
  | defd on => rfl
  | map es c => simp only [SO.ren, renM_id es h]

/-- What comes out, but for what nothing points to any more: the first `n` tags stay. -/
def GC (n : Nat) (Q : SV → List SO → Prop) (x : SV) (hs : List SO) : Prop :=
  ∃ (σ : List Nat) (x' : SV) (hs' : List SO), hsLe σ hs σ hs' ∧ hs'.all (SO.bnd hs'.length) = true ∧ σ.Nodup ∧ (∀ i, i < n → σ[i]? = some i) ∧ x = x'.ren σ ∧ x'.bnd hs'.length = true ∧ Q x' hs'

theorem post_gc {P : Program} {w : World} {ν : Nu} {Q : SV → List SO → Prop} {e : Ending} {w' : World} (h : Post P w ν (GC ν.length Q) e w') : Post P w ν Q e w' := by
  obtain ⟨v, rfl, ν', x, hs', h2, h3, h4, σ, x', hs'', g1, g2, g3, g4, rfl, g6, g7⟩ := h
  refine ⟨v, rfl, pickN ν' σ, x', hs'', ?_, rel_pick h3 g1 g2 g3, ?_, g7⟩
  · intro t b ht
    have h1 := h2 t b ht
    have h5 := g4 t (List.getElem?_eq_some_iff.1 ht).1
    simp [pickN, h5, List.getD, h1]
  · rw [← den_back (fun i hi => (pickN_at h3 g1 i hi).1) x' g6]
    exact h4

theorem spec_gc {P : Program} {f : Nat} {as : List SV} {hs : List SO} {Q : SV → List SO → Prop} (h : Spec P f as hs (GC hs.length Q)) : Spec P f as hs Q :=
  ⟨h.one, fun ν w As hr hd => Calls.mono (h.ok ν w As hr hd) fun _ _ h' => post_gc (by rw [hr.len]; exact h')⟩

/-- A contract from the walk; what nothing points to is forgotten. -/
theorem spec_mk {P : Program} {f : Nat} {c : FnC} (hF : FnOk P f c) {as : List SV} {hs : List SO} {Q : SV → List SO → Prop} (h1 : as.all SV.one = true) (hn : as.length ≤ c.N)
    (h : ∀ C : Ctx, C.P = P → C.f = f → C.Q = GC hs.length Q → C.ν0.length = hs.length → Ok C [FS.start f c as] hs) : Spec P f as hs Q :=
  spec_gc (spec_of_ok hF h1 hn h)

/-- All but the first ones go. -/
theorem gc_drop {n : Nat} {Q : SV → List SO → Prop} {x : SV} (A G : List SO) (hA : Nat.ble n A.length = true) (hb : A.all (SO.bnd A.length) = true) (hx : x.bnd A.length = true) (hQ : Q x A) : GC n Q x (A ++ G) := by
  have hA := Nat.le_of_ble_eq_true hA
  refine ⟨List.range A.length, x, A, ?_, hb, List.nodup_range, fun i hi => List.getElem?_range (by omega), (ren_id x hx).symm, hx, hQ⟩
  have gen : ∀ (B A0 : List SO), B.all (SO.bnd A.length) = true → A0 ++ B = A → hsLe (List.range A.length) (A ++ G) (List.range' A0.length B.length) B := by
    intro B
    induction B with
    | nil => intro A0 _ _; trivial
    | cons o B ih =>
      intro A0 hB he
      simp only [List.all_cons, Bool.and_eq_true] at hB
      have ih' := ih (A0 ++ [o]) hB.2 (by simpa using he)
      refine ⟨?_, by simpa using ih'⟩
      rw [soRen_id o hB.1, ← he]
      simp
  have := gen A [] hb (by simp)
  simpa [List.range_eq_range'] using this

/-- Fewer slots. -/
def envSub : Env → Env → Prop
  | [], _ => True
  | (s, v) :: r, b => lk b s = some v ∧ envSub r b
theorem envSub_ok {b : Env} : ∀ (a : Env), envSub a b → ∀ (s : Nat) (v : SV), lk a s = some v → lk b s = some v
  | [], _, s, v, h => by simp [lk] at h
  | (t, u) :: r, ⟨h1, h2⟩, s, v, h => by
    simp only [lk] at h
    split at h
    · rename_i e; subst e; cases h; exact h1
    · exact envSub_ok r h2 s v h
theorem ok_less {C : Ctx} {fn N : Nat} {ro : Option Nat} {rs : List RP} {env env' : Env} {k : List It} {defs : List Nat} {r : List FS} {hs : List SO} (H : Ok C (⟨fn, ro, N, rs, env', k, defs⟩ :: r) hs) (h : envSub env' env) : Ok C (⟨fn, ro, N, rs, env, k, defs⟩ :: r) hs := by
  intro ν w fr frs hx hr hf
  exact H ν w fr frs hx hr ⟨⟨hf.1.fn, hf.1.env.weaken (envSub_ok _ h), hf.1.todo, hf.1.defs, hf.1.mode, hf.1.kind, hf.1.ro, hf.1.rs⟩, hf.2⟩

/-- `n` rounds. -/
def it {α : Type} (f : Nat → α → α) : Nat → α → α
  | 0, s => s
  | n + 1, s => f n (it f n s)

theorem w64 {x : Int} (h0 : -9223372036854775808 ≤ x) (h1 : x < 9223372036854775808) : IntKind.i64.wrap x = x := by
  have hb : IntKind.i64.bits = 64 := rfl
  have hs : IntKind.i64.signed = true := rfl
  simp only [IntKind.wrap, hb, hs]
  simp
  omega

/-- The code at the head, spelled out. -/
theorem ok_head {C : Ctx} {fn N : Nat} {ro : Option Nat} {rs : List RP} {env : Env} {k : List It} {defs : List Nat} {r : List FS} {hs : List SO} {a b : IC} (h : a = b) (H : Ok C (⟨fn, ro, N, rs, env, .c b :: k, defs⟩ :: r) hs) : Ok C (⟨fn, ro, N, rs, env, .c a :: k, defs⟩ :: r) hs := h ▸ H

theorem w64n {n : Nat} (h : n < 9223372036854775808) : IntKind.i64.wrap (n : Int) = n := w64 (by omega) (by omega)
theorem w64s {n : Nat} (h : n + 1 < 9223372036854775808) : IntKind.i64.wrap ((n : Int) + 1) = ((n + 1 : Nat) : Int) := by rw [w64 (by omega) (by omega)]; omega

theorem free_none (o n : Nat) : free 0 0 o n = True := by simp [free]
theorem of_ble {a b : Nat} (h : Nat.ble a b = true) : a ≤ b := Nat.le_of_ble_eq_true h

end Go.Pv
