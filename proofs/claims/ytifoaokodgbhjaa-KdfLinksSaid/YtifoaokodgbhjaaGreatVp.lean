/- Other tags for the same things; contracts. -/
import Derived.Test.YtifoaokodgbhjaaGreatVo
namespace Go.Pv
open Go

mutual
def SV.bnd (n : Nat) : SV → Bool
  | .ptr t _ => t < n
  | .sl t _ _ _ => t < n
  | .fn _ caps => bnds n caps
  | .yld t => t < n
  | .mp t => t < n
  | .agg cs => bnds n cs
  | .tup vs => bnds n vs
  | _ => true
def bnds (n : Nat) : List SV → Bool
  | [] => true
  | v :: r => SV.bnd n v && bnds n r
end

mutual
theorem den_back {σ : List Nat} {ν ν' : Nu} {n : Nat} (h : ∀ i, i < n → ν'[i]? = ν[σ.getD i 0]?) : ∀ (v : SV), v.bnd n = true → (v.ren σ).den ν = v.den ν'
  | .int _ _, _ => rfl
  | .bool _, _ => rfl
  | .str _, _ => rfl
  | .ptr t off, e => by
    simp only [SV.bnd, decide_eq_true_eq] at e
    simp only [SV.ren, SV.den, h t e]
  | .nilp, _ => rfl
  | .sl t off len cap, e => by
    simp only [SV.bnd, decide_eq_true_eq] at e
    simp only [SV.ren, SV.den, h t e]
  | .nils, _ => rfl
  | .fn f caps, e => by
    simp only [SV.bnd] at e
    simp only [SV.ren, SV.den, dens_back h caps e]
  | .yld t, e => by
    simp only [SV.bnd, decide_eq_true_eq] at e
    simp only [SV.ren, SV.den, h t e]
  | .nilf, _ => rfl
  | .mp t, e => by
    simp only [SV.bnd, decide_eq_true_eq] at e
    simp only [SV.ren, SV.den, h t e]
  | .nilm, _ => rfl
  | .agg cs, e => by
    simp only [SV.bnd] at e
    simp only [SV.ren, SV.den, dens_back h cs e]
  | .tup vs, e => by
    simp only [SV.bnd] at e
    simp only [SV.ren, SV.den, dens_back h vs e]
  | .run _ _ _, _ => rfl
  | .raw _, _ => rfl
theorem dens_back {σ : List Nat} {ν ν' : Nu} {n : Nat} (h : ∀ i, i < n → ν'[i]? = ν[σ.getD i 0]?) : ∀ (l : List SV), bnds n l = true → dens ν (rens σ l) = dens ν' l
  | [], _ => rfl
  | v :: r, e => by
    simp only [bnds, Bool.and_eq_true] at e
    have ih := dens_back h r e.2
    cases hv : v.one with
    | false =>
      cases v with
      | run k n l => simp only [rens, SV.ren, dens_run, ih]
      | _ => simp [SV.one] at hv
    | true =>
      have hr : (v.ren σ).one = true := by cases v <;> simp_all [SV.ren, SV.one]
      simp only [rens]
      rw [dens_one _ _ _ hv, dens_one _ _ _ hr, den_back h v e.1, ih]
end

def renE (σ : List Nat) : Env → Env
  | [] => []
  | (s, v) :: r => (s, v.ren σ) :: renE σ r
def bndE (n : Nat) : Env → Bool
  | [] => true
  | (_, v) :: r => v.bnd n && bndE n r
theorem lk_renE (σ : List Nat) : ∀ (env : Env) (s : Nat), lk (renE σ env) s = (lk env s).map (SV.ren σ)
  | [], s => rfl
  | (a, v) :: r, s => by
    simp only [renE, lk]
    split
    · rfl
    · exact lk_renE σ r s
theorem lk_bnd {n : Nat} : ∀ (env : Env) (s : Nat) (v : SV), bndE n env = true → lk env s = some v → v.bnd n = true
  | [], s, v, _, h => by simp [lk] at h
  | (a, u) :: r, s, v, hb, h => by
    simp only [bndE, Bool.and_eq_true] at hb
    simp only [lk] at h
    split at h
    · cases h; exact hb.1
    · exact lk_bnd r s v hb.2 h

def renM (σ : List Nat) : List (IntKind × Int × SV × Nat) → List (IntKind × Int × SV × Nat)
  | [] => []
  | (k, n, v, b) :: r => (k, n, v.ren σ, b) :: renM σ r
def bndM (n : Nat) : List (IntKind × Int × SV × Nat) → Bool
  | [] => true
  | (_, _, v, _) :: r => v.bnd n && bndM n r

def SO.ren (σ : List Nat) : SO → SO
  | .cells cs ty a b => .cells (rens σ cs) ty a b
  | .loop st pend fn env N ps x y D => .loop st pend fn (renE σ env) N ps x y (σ.getD D 0)
  | .defd on => .defd on
  | .map es c => .map (renM σ es) c
def SO.bnd (n : Nat) : SO → Bool
  | .cells cs _ _ _ => bnds n cs
  | .loop _ _ _ env _ _ _ _ D => bndE n env && decide (D < n)
  | .defd _ => true
  | .map es _ => bndM n es

section
variable {P : Program} {σ : List Nat} {ν ν' : Nu}

theorem envOk_ren (h : Maps σ ν ν') {N : Nat} {env : Env} {tmps : Array Value} (e : EnvOk ν N env tmps) : EnvOk ν' N (renE σ env) tmps :=
  ⟨e.size, fun s v hs => by
    rw [lk_renE] at hs
    simp only [Option.map_eq_some_iff] at hs
    obtain ⟨u, hu, rfl⟩ := hs
    obtain ⟨V, h1, h2⟩ := e.at_ s u hu
    exact ⟨V, den_ren h _ _ h1, h2⟩⟩
theorem envOk_back {n : Nat} (h : ∀ i, i < n → ν'[i]? = ν[σ.getD i 0]?) {N : Nat} {env : Env} {tmps : Array Value} (hb : bndE n env = true) (e : EnvOk ν N (renE σ env) tmps) : EnvOk ν' N env tmps :=
  ⟨e.size, fun s v hs => by
    obtain ⟨V, h1, h2⟩ := e.at_ s (v.ren σ) (by rw [lk_renE, hs]; rfl)
    exact ⟨V, by rw [← den_back h v (lk_bnd _ _ _ hb hs)]; exact h1, h2⟩⟩
theorem entOk_ren (h : Maps σ ν ν') : ∀ (l : List (IntKind × Int × SV × Nat)) (E : List MapEntry), entOk ν l E → entOk ν' (renM σ l) E
  | [], [], _ => trivial
  | [], _ :: _, e => e.elim
  | (_, _, _, _) :: _, [], e => e.elim
  | (_, _, v, _) :: r, _ :: es, ⟨h1, h2, h3, h4, h5⟩ => ⟨h1, h2, by cases v <;> simp_all [SV.ren, SV.one], den_ren h _ _ h4, entOk_ren h r es h5⟩
theorem entOk_back {n : Nat} (h : ∀ i, i < n → ν'[i]? = ν[σ.getD i 0]?) : ∀ (l : List (IntKind × Int × SV × Nat)) (E : List MapEntry), bndM n l = true → entOk ν (renM σ l) E → entOk ν' l E
  | [], [], _, _ => trivial
  | [], _ :: _, _, e => e.elim
  | (_, _, _, _) :: _, [], _, e => e.elim
  | (_, _, v, _) :: r, _ :: es, hb, ⟨h1, h2, h3, h4, h5⟩ => by
    simp only [bndM, Bool.and_eq_true] at hb
    exact ⟨h1, h2, by cases v <;> simp_all [SV.ren, SV.one], by rw [← den_back h v hb.1]; exact h4, entOk_back h r es hb.2 h5⟩

theorem soDen_ren (h : Maps σ ν ν') {o : SO} {O : Obj} (e : o.Den P ν O) : (o.ren σ).Den P ν' O := by
  cases o with
  | cells cs ty a b => obtain ⟨C, h1, h2⟩ := e; exact ⟨C, dens_ren h _ _ h1, h2⟩
  | loop st pend fn env N ps x y D =>
    obtain ⟨tmps, asC, bdC, Db, h1, h2, h3⟩ := e
    exact ⟨tmps, asC, bdC, Db, h _ _ h1, envOk_ren h h2, h3⟩
  | defd on => exact e
  | map es c => obtain ⟨E, h1, h2⟩ := e; exact ⟨E, entOk_ren h _ _ h1, h2⟩
theorem soDen_back {n : Nat} (h : ∀ i, i < n → ν'[i]? = ν[σ.getD i 0]?) {o : SO} {O : Obj} (hb : o.bnd n = true) (e : (o.ren σ).Den P ν O) : o.Den P ν' O := by
  cases o with
  | cells cs ty a b => obtain ⟨C, h1, h2⟩ := e; exact ⟨C, by rw [← dens_back h cs hb]; exact h1, h2⟩
  | loop st pend fn env N ps x y D =>
    simp only [SO.bnd, Bool.and_eq_true, decide_eq_true_eq] at hb
    obtain ⟨tmps, asC, bdC, Db, h1, h2, h3⟩ := e
    exact ⟨tmps, asC, bdC, Db, by rw [h D hb.2]; exact h1, envOk_back h hb.1 h2, h3⟩
  | defd on => exact e
  | map es c => obtain ⟨E, h1, h2⟩ := e; exact ⟨E, entOk_back h _ _ hb h1, h2⟩
end

def It.ren (σ : List Nat) : It → It
  | .irf t => .irf (σ.getD t 0)
  | .erf t => .erf (σ.getD t 0)
  | x => x
def It.bnd (n : Nat) : It → Bool
  | .irf t => t < n
  | .erf t => t < n
  | _ => true
def FS.bnd (n : Nat) (s : FS) : Bool :=
  (match s.ro with | none => true | some t => decide (t < n)) && bndE n s.env && s.todo.all (It.bnd n) && s.defs.all (· < n)

/-- Each slot of `a` is one of `b`'s, with that value (but for the tags). -/
def envLe (σ : List Nat) : Env → Env → Prop
  | [], _ => True
  | (s, v) :: r, b => lk b s = some (v.ren σ) ∧ envLe σ r b
def FS.le (σ : List Nat) (a b : FS) : Prop :=
  a.fn = b.fn ∧ b.ro = a.ro.map (σ.getD · 0) ∧ a.N = b.N ∧ a.rs = b.rs ∧ b.todo = a.todo.map (It.ren σ) ∧ b.defs = a.defs.map (σ.getD · 0) ∧ envLe σ a.env b.env
def fsLe (σ : List Nat) : List FS → List FS → Prop
  | [], [] => True
  | a :: r, b :: s => FS.le σ a b ∧ fsLe σ r s
  | _, _ => False

section
variable {P : Program} {σ : List Nat} {ν ν' : Nu}

theorem envLe_ok {b : Env} : ∀ (a : Env), envLe σ a b → ∀ (s : Nat) (v : SV), lk (renE σ a) s = some v → lk b s = some v
  | [], _, s, v, h => by simp [renE, lk] at h
  | (t, u) :: r, ⟨h1, h2⟩, s, v, h => by
    simp only [renE, lk] at h
    split at h
    · rename_i e; subst e; cases h; exact h1
    · exact envLe_ok r h2 s v h

theorem todoOk_back {n : Nat} (h : ∀ i, i < n → ν'[i]? = ν[σ.getD i 0]?) : ∀ (l : List It) (k : List Item), l.all (It.bnd n) = true → todoOk P ν (l.map (It.ren σ)) k → todoOk P ν' l k
  | [], [], _, _ => trivial
  | [], _ :: _, _, e => e.elim
  | _ :: _, [], _, e => e.elim
  | x :: l, y :: k, hb, ⟨h1, h2⟩ => by
    simp only [List.all_cons, Bool.and_eq_true] at hb
    refine ⟨?_, todoOk_back h l k hb.2 h2⟩
    cases x with
    | irf t =>
      cases y with
      | inRangeFunc b => show ν'[t]? = some b; rw [h t (by simpa [It.bnd] using hb.1)]; exact h1
      | _ => exact h1.elim
    | erf t =>
      cases y with
      | endRangeFunc b => show ν'[t]? = some b; rw [h t (by simpa [It.bnd] using hb.1)]; exact h1
      | _ => exact h1.elim
    | _ => cases y <;> exact h1
theorem defsOk_back {n : Nat} (h : ∀ i, i < n → ν'[i]? = ν[σ.getD i 0]?) : ∀ (l : List Nat) (k : List Deferred), l.all (· < n) = true → defsOk ν (l.map (σ.getD · 0)) k → defsOk ν' l k
  | [], [], _, _ => trivial
  | [], _ :: _, _, e => e.elim
  | _ :: _, [], _, e => e.elim
  | t :: l, d :: k, hb, ⟨⟨b, h1, h1'⟩, h2⟩ => by
    simp only [List.all_cons, Bool.and_eq_true, decide_eq_true_eq] at hb
    exact ⟨⟨b, by rw [h t hb.1]; exact h1, h1'⟩, defsOk_back h l k hb.2 h2⟩
theorem fs_back {n : Nat} (h : ∀ i, i < n → ν'[i]? = ν[σ.getD i 0]?) {a b : FS} {fr : Frame} (hb : a.bnd n = true) (hl : FS.le σ a b) (e : b.Ok P ν fr) : a.Ok P ν' fr := by
  obtain ⟨fn, ro, N, rs, env, todo, defs⟩ := a
  obtain ⟨fn', ro', N', rs', env', todo', defs'⟩ := b
  obtain ⟨h1, h2, h3, h4, h5, h6, h7⟩ := hl
  simp only at h1 h2 h3 h4 h5 h6 h7
  subst h1 h2 h3 h4 h5 h6
  simp only [FS.bnd, Bool.and_eq_true] at hb
  obtain ⟨⟨⟨b1, b2⟩, b3⟩, b4⟩ := hb
  refine ⟨e.fn, envOk_back h b2 (e.env.weaken (envLe_ok _ h7)), todoOk_back h _ _ b3 e.todo, defsOk_back h _ _ b4 e.defs, e.mode, e.kind, ?_, fun hn => e.rs (by simp only at hn; subst hn; rfl)⟩
  cases ro with
  | none => exact e.ro
  | some t =>
    obtain ⟨l, h1, h2⟩ := e.ro
    exact ⟨l, by simp only at b1; rw [h t (by simpa using b1)]; exact h1, h2⟩
theorem fss_back {n : Nat} (h : ∀ i, i < n → ν'[i]? = ν[σ.getD i 0]?) : ∀ (a b : List FS) (frs : List Frame), a.all (FS.bnd n) = true → fsLe σ a b → fsOk P ν b frs → fsOk P ν' a frs
  | [], [], [], _, _, _ => trivial
  | [], [], _ :: _, _, _, e => e.elim
  | [], _ :: _, _, _, e, _ => e.elim
  | _ :: _, [], _, _, e, _ => e.elim
  | _ :: _, _ :: _, [], _, _, e => e.elim
  | x :: a, y :: b, fr :: frs, hb, ⟨h1, h2⟩, ⟨e1, e2⟩ => by
    simp only [List.all_cons, Bool.and_eq_true] at hb
    exact ⟨fs_back h hb.1 h1 e1, fss_back h a b frs hb.2 h2 e2⟩
end

/-- `hs'[i]` is `hs[σ i]`. -/
def hsLe (σ : List Nat) (hs : List SO) : List Nat → List SO → Prop
  | [], [] => True
  | s :: r, o :: hs' => hs[s]? = some (o.ren σ) ∧ hsLe σ hs r hs'
  | _, _ => False

theorem hsLe_len {σ : List Nat} {hs : List SO} : ∀ (τ : List Nat) (hs' : List SO), hsLe σ hs τ hs' → τ.length = hs'.length
  | [], [], _ => rfl
  | [], _ :: _, e => e.elim
  | _ :: _, [], e => e.elim
  | _ :: r, _ :: hs', ⟨_, h⟩ => by simp [hsLe_len r hs' h]
theorem hsLe_at {σ : List Nat} {hs : List SO} : ∀ (τ : List Nat) (hs' : List SO), hsLe σ hs τ hs' → ∀ (i : Nat) (o : SO), hs'[i]? = some o → ∃ s, τ[i]? = some s ∧ hs[s]? = some (o.ren σ)
  | [], [], _, i, o, h => by simp at h
  | [], _ :: _, e, _, _, _ => e.elim
  | _ :: _, [], e, _, _, _ => e.elim
  | s :: r, o' :: hs', ⟨h1, h⟩, i, o, ho => by
    cases i with
    | zero => simp at ho; subst ho; exact ⟨s, rfl, h1⟩
    | succ i => obtain ⟨s', h2, h3⟩ := hsLe_at r hs' h i o (by simpa using ho); exact ⟨s', by simpa using h2, h3⟩

theorem nodup_inj : ∀ {l : List Nat}, l.Nodup → ∀ {i j : Nat} (hi : i < l.length) (hj : j < l.length), l[i] = l[j] → i = j
  | [], _, i, _, hi, _, _ => by simp at hi
  | a :: l, h, 0, 0, _, _, _ => rfl
  | a :: l, h, 0, j + 1, _, hj, e => by
    simp only [List.getElem_cons_zero, List.getElem_cons_succ] at e
    exact absurd (e ▸ List.getElem_mem _) (List.nodup_cons.1 h).1
  | a :: l, h, i + 1, 0, hi, _, e => by
    simp only [List.getElem_cons_zero, List.getElem_cons_succ] at e
    exact absurd (e ▸ List.getElem_mem _) (List.nodup_cons.1 h).1
  | a :: l, h, i + 1, j + 1, hi, hj, e => by
    simp only [List.getElem_cons_succ] at e
    rw [nodup_inj (List.nodup_cons.1 h).2 _ _ e]

/-- The blocks of some of the tags. -/
def pickN (ν : Nu) (σ : List Nat) : Nu := σ.map (ν.getD · 0)

theorem pickN_at {P : Program} {w0 w : World} {ν0 ν : Nu} {hs hs' : List SO} {σ : List Nat} (rel : Rel P w0 ν0 ν hs w) (h : hsLe σ hs σ hs') (i : Nat) (hi : i < hs'.length) : (pickN ν σ)[i]? = ν[σ.getD i 0]? ∧ ∃ s b, σ[i]? = some s ∧ ν[s]? = some b ∧ (pickN ν σ)[i]? = some b := by
  obtain ⟨s, h1, h2⟩ := hsLe_at σ hs' h i hs'[i] (List.getElem?_eq_getElem hi)
  obtain ⟨b, O, h3, _, _⟩ := rel.at_ h2
  have h4 : (pickN ν σ)[i]? = some b := by simp [pickN, h1, List.getD, h3]
  refine ⟨?_, s, b, h1, h3, h4⟩
  rw [h4]
  simp [List.getD, h1, h3]

theorem rel_pick {P : Program} {w0 w : World} {ν0 ν : Nu} {hs hs' : List SO} {σ : List Nat} (rel : Rel P w0 ν0 ν hs w) (h : hsLe σ hs σ hs') (hb : hs'.all (SO.bnd hs'.length) = true) (hnd : σ.Nodup) :
    Rel P w0 ν0 (pickN ν σ) hs' w := by
  have hlen := hsLe_len σ hs' h
  have hlt : ∀ i b, (pickN ν σ)[i]? = some b → i < hs'.length := by
    intro i b hib
    have := (List.getElem?_eq_some_iff.1 hib).1
    simp [pickN] at this; omega
  refine ⟨rel.os, rel.tape, rel.output, rel.size, rel.frame, ?_, ?_, by simp [pickN, hlen], ?_⟩
  · intro i j b hi hj
    obtain ⟨_, s, b1, q1, q2, q3⟩ := pickN_at rel h i (hlt i b hi)
    obtain ⟨_, s', b1', q1', q2', q3'⟩ := pickN_at rel h j (hlt j b hj)
    rw [hi] at q3; cases q3
    rw [hj] at q3'; cases q3'
    have := rel.nodup s s' b q2 q2'
    subst this
    obtain ⟨a1, a2⟩ := List.getElem?_eq_some_iff.1 q1
    obtain ⟨a1', a2'⟩ := List.getElem?_eq_some_iff.1 q1'
    exact nodup_inj hnd a1 a1' (a2.trans a2'.symm)
  · intro t b ht
    obtain ⟨_, s, b1, q1, q2, q3⟩ := pickN_at rel h t (hlt t b ht)
    rw [ht] at q3; cases q3
    exact rel.new s b q2
  · intro t b o ht ho
    obtain ⟨s, h1, h2⟩ := hsLe_at σ hs' h t o ho
    obtain ⟨b', O, h3, h4, h5⟩ := rel.at_ h2
    have hpt := pickN_at rel h t (hlt t b ht)
    obtain ⟨_, s', b1, q1, q2, q3⟩ := hpt
    rw [h1] at q1; cases q1
    rw [ht] at q3; cases q3
    rw [h3] at q2; cases q2
    exact ⟨O, soDen_back (fun i hi => (pickN_at rel h i hi).1) (List.all_eq_true.1 hb o (List.mem_of_getElem? ho)) h4, h5⟩

/-- **Fewer tags, or others.** -/
theorem ok_sub {C : Ctx} (σ : List Nat) {fs fs' : List FS} {hs hs' : List SO} (H : Ok C fs' hs') (h : hsLe σ hs σ hs') (hb : hs'.all (SO.bnd hs'.length) = true) (hnd : σ.Nodup) (hpre : ∀ i, i < C.ν0.length → σ[i]? = some i)
    (hfb : fs'.all (FS.bnd hs'.length) = true) (hf : fsLe σ fs' fs) : Ok C fs hs := by
  intro ν w fr frs hx hr hfo
  refine H (pickN ν σ) w fr frs ?_ (rel_pick hr h hb hnd) (fss_back (fun i hi => (pickN_at hr h i hi).1) _ _ _ hfb hf hfo)
  intro t b ht
  have h1 := hx t b ht
  have h2 := hpre t (List.getElem?_eq_some_iff.1 ht).1
  simp [pickN, h2, List.getD, h1]

end Go.Pv
