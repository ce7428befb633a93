/- slices.Clone, Grow, Concat on bytes, over any memory. -/
import Derived.Test.YtifoaokodgbhjaaSd
namespace Go.Pv
open Go Go.Proofs

theorem Own.byt {H G : List SO} {l : List Int} {x : SV} {o : SO} {j : Nat} (h : Own (H.length + j) l x o) (hg : G[j]? = some o) : Byt (H ++ G) x l := by
  obtain ⟨cap, L, h1, h2, h3, rfl, rfl⟩ := h
  exact .inr ⟨_, _, _, _, 5, 0, 0, rfl, h1, by rw [get_app]; exact hg, rowB_run h2 (by omega) (by simpa [part] using h3)⟩
theorem Own.byt0 {H : List SO} {l : List Int} {x : SV} {o : SO} (h : Own H.length l x o) : Byt (H ++ [o]) x l := Own.byt (j := 0) (G := [o]) h rfl

theorem fin1 {C : Ctx} {f : Nat} {H G : List SO} {Q : SV → List SO → Prop} {l L : List Int} {cap ty j : Nat} (hf : C.f = f) (hQ : C.Q = GQ H.length Q) (hw : Wf H) (hg : G[j]? = some (.cells [.run .u8 cap L] ty 0 0))
    (h : Q (.sl H.length 0 l.length cap) (H ++ [.cells [.run .u8 cap L] ty 0 0])) : f = C.f ∧ C.Q (.sl (H.length + j) 0 l.length cap) (H ++ G) :=
  ⟨hf.symm, by rw [hQ]; exact gq1 hw hg rfl (fun σ => rfl) rfl h⟩

theorem spCloneN (H : List SO) : Spec Try.prog 40 [.nils] H fun v hs => v = .nils ∧ hs = H := spec_val spClonen rfl rfl H

theorem spCloneH (H : List SO) (x : SV) (c : List Int) (hx : Byt H x c) (hb : c.length ≤ 140737488355328) : Spec Try.prog 40 [x] H fun v hs => (x = .nils ∧ c = [] ∧ v = .nils ∧ hs = H) ∨ ∃ o, hs = H ++ [o] ∧ Own H.length c v o := by
  rcases hx with ⟨rfl, rfl⟩ | ⟨t, off, cap, cs, ty, a, b, rfl, h2, h3, h4⟩
  · exact (spCloneN H).mono fun v hs ⟨h1, h2⟩ => .inl ⟨rfl, rfl, h1, h2⟩
  refine spec_h okClone rfl (of_ble rfl) fun C hP hf hQ h0 hw hbd => ?_
  apply vc_ok 100
  simp only [FS.start, cClone, paramsE, go_sem, reduceCtorEq, Nat.reduceLT, ↓reduceIte]
  have hy : Byt (H ++ [.cells [] 5 0 0]) (.sl t off c.length cap) c := .inr ⟨t, off, cap, cs, ty, a, b, rfl, h2, at_old h3 _, h4⟩
  rcases hy.src with ⟨h, _⟩ | hs2
  · cases h
  refine app_empty (n := c.length) (l' := c) (t := H.length) (p2 := True) rfl (get_app0 _ _) hs2 trivial rfl hb fun t' cap' L' hs' hc' hl' hL' hcase => ?_
  rcases hcase with ⟨rfl, rfl⟩ | ⟨rfl, rfl⟩
  · simp only [go_sem, Nat.reduceLT, ↓reduceIte]
    refine fin1 (j := 0) hf hQ hw rfl (.inr ⟨_, rfl, cap', L', hc', hl', hL', rfl, rfl⟩)
  · simp only [go_sem, Nat.reduceLT, ↓reduceIte]
    refine fin1 (j := 1) hf hQ hw rfl (.inr ⟨_, rfl, cap', L', hc', hl', hL', rfl, rfl⟩)

theorem spGrowH (H : List SO) (n : Nat) (h0 : 0 < n) (hb : n ≤ 140737488355328) : Spec Try.prog 42 [.nils, .int .i64 n] H fun x hs => ∃ cap L, n ≤ cap ∧ L.length = cap ∧ x = .sl H.length 0 0 cap ∧ hs = H ++ [.cells [.run .u8 cap L] 5 0 0] := by
  refine (spec_frame (spGrow n h0 hb) rfl H).mono ?_
  intro x hs ⟨x', hs', ⟨cap, L, h1, h2, h3, h4⟩, h5, h6⟩
  subst h3 h4 h5 h6
  exact ⟨cap, L, h1, h2, rfl, rfl⟩
theorem spGrowZ (H : List SO) : Spec Try.prog 42 [.nils, .int .i64 (0 : Nat)] H fun x hs => x = .nils ∧ hs = H := spec_val spGrowz rfl rfl H

theorem Byt.keep {H H' : List SO} {x : SV} {c : List Int} (h : Byt H x c) (hk : ∀ u, u < H.length → H'[u]? = H[u]?) : Byt H' x c := by
  rcases h with h | ⟨t, off, cap, cs, ty, a, b, h1, h2, h3, h4⟩
  · exact .inl h
  · exact .inr ⟨t, off, cap, cs, ty, a, b, h1, h2, by rw [hk t (List.getElem?_eq_some_iff.1 h3).1]; exact h3, h4⟩

/-- Slices of bytes, one by one. -/
def Parts (H : List SO) : List SV → List (List Int) → Prop
  | [], [] => True
  | x :: xs, c :: cs => Byt H x c ∧ Parts H xs cs
  | _, _ => False
theorem Parts.len {H : List SO} : ∀ {xs : List SV} {cs : List (List Int)}, Parts H xs cs → xs.length = cs.length
  | [], [], _ => rfl
  | [], _ :: _, h => h.elim
  | _ :: _, [], h => h.elim
  | _ :: _, _ :: _, ⟨_, h⟩ => by simp [Parts.len h]
theorem Parts.at_ {H : List SO} : ∀ {xs : List SV} {cs : List (List Int)}, Parts H xs cs → ∀ i (h : i < xs.length), Byt H xs[i] (cs.getD i [])
  | [], [], _, i, h => by simp at h
  | [], _ :: _, h, _, _ => h.elim
  | _ :: _, [], h, _, _ => h.elim
  | x :: xs, c :: cs, ⟨h1, h2⟩, i, h => by
    cases i with
    | zero => exact h1
    | succ i => simpa using Parts.at_ h2 i (by simpa using h)
theorem Parts.app {H : List SO} : ∀ {xs : List SV} {cs : List (List Int)}, Parts H xs cs → ∀ (l : List SO), Parts (H ++ l) xs cs
  | [], [], _, _ => trivial
  | [], _ :: _, h, _ => h.elim
  | _ :: _, [], h, _ => h.elim
  | _ :: _, _ :: _, ⟨h1, h2⟩, l => ⟨h1.app l, h2.app l⟩
theorem Parts.keep {H H' : List SO} : ∀ {xs : List SV} {cs : List (List Int)}, Parts H xs cs → (∀ u, u < H.length → H'[u]? = H[u]?) → Parts H' xs cs
  | [], [], _, _ => trivial
  | [], _ :: _, h, _ => h.elim
  | _ :: _, [], h, _ => h.elim
  | _ :: _, _ :: _, ⟨h1, h2⟩, l => ⟨h1.keep l, h2.keep l⟩
theorem rdC_ones : ∀ (xs : List SV) (i : Nat) (h : i < xs.length), (∀ x ∈ xs, x.one = true) → rdC xs i = some xs[i]
  | [], i, h, _ => by simp at h
  | x :: xs, i, h, ho => by
    have hx : x.one = true := ho x (by simp)
    cases i with
    | zero => cases x <;> simp_all [SV.one, rdC]
    | succ i =>
      have := rdC_ones xs i (by simpa using h) fun y hy => ho y (by simp [hy])
      cases x <;> simp_all [SV.one, rdC]
theorem Parts.ones {H : List SO} : ∀ {xs : List SV} {cs : List (List Int)}, Parts H xs cs → ∀ x ∈ xs, x.one = true
  | [], [], _, x, h => by simp at h
  | [], _ :: _, h, _, _ => h.elim
  | _ :: _, [], h, _, _ => h.elim
  | y :: ys, c :: cs, ⟨h1, h2⟩, x, h => by
    rcases List.mem_cons.1 h with rfl | h
    · exact h1.one
    · exact Parts.ones h2 x h
theorem ldR_ones {xs : List SV} {i : Nat} (h : i < xs.length) (ho : ∀ x ∈ xs, x.one = true) : ldR xs i = .v True xs[i] := by
  unfold ldR
  split
  · have := ho _ List.mem_cons_self
    simp [SV.one] at this
  · rw [rdC_ones xs i h ho]
theorem tot_succ (cs : List (List Int)) (i : Nat) (h : i < cs.length) : (cs.take (i + 1)).flatten = (cs.take i).flatten ++ cs.getD i [] := by
  rw [List.take_add_one, List.flatten_append]
  simp [h]
theorem tot_le (cs : List (List Int)) (i : Nat) : (cs.take i).flatten.length ≤ cs.flatten.length := by
  conv => rhs; rw [← List.take_append_drop i cs, List.flatten_append]
  simp

/-- What the walk is to know of a slice that it does not see. -/
theorem Byt.facts {H : List SO} {x : SV} {c : List Int} (h : Byt H x c) : x.one = true ∧ x.c1 = true ∧ (∀ k n l, (x = .run k n l) = False) ∧ (∀ l, (x = .agg l) = False) := ⟨h.one, h.c1, h.nr, h.na⟩

theorem spConcat (H : List SO) (t : Nat) (xs : List SV) (cs : List (List Int)) (ty a b : Nat) (ht : H[t]? = some (.cells xs ty a b)) (hp : Parts H xs cs) (hn : xs.length ≤ 1000000) (hb : cs.flatten.length ≤ 1000000000) :
    Spec Try.prog 27 [.sl t 0 xs.length xs.length] H fun v hs => (cs.flatten = [] ∧ v = .nils ∧ hs = H) ∨ ∃ o, hs = H ++ [o] ∧ Own H.length cs.flatten v o := by
  refine spec_h okConcat rfl (of_ble rfl) fun C hP hf hQ h0 hw hbd => ?_
  have hl := hp.len
  have ho := hp.ones
  apply vc_ok 100
  simp only [FS.start, cConcat, paramsE, go_sem, reduceCtorEq, Nat.reduceLT, ↓reduceIte]
  refine ok_less (env' := [(11, .int .i64 (0 : Nat)), (10, .int .i64 xs.length), (9, .sl t 0 xs.length xs.length), (3, .int .i64 ((cs.take 0).flatten.length : Nat)), (0, .sl t 0 xs.length xs.length)]) ?_ (by simp only [envSub, go_sem, reduceCtorEq, Nat.reduceEqDiff, ↓reduceIte] <;> rfl)
  refine up (p := fun i => Ok C [⟨27, none, 36, [.t 2], [(11, .int .i64 i), (10, .int .i64 xs.length), (9, .sl t 0 xs.length xs.length), (3, .int .i64 ((cs.take i).flatten.length : Nat)), (0, .sl t 0 xs.length xs.length)], [.c lConcatn0, .lp lConcatn0, .blk 0, .c tConcatn3], []⟩] H) xs.length ?_ ?_
  · intro i hi ih
    have h1 : decide ((i : Int) < (xs.length : Int)) = true := by simp; omega
    have h2 := ldR_ones hi ho
    have h3 := (hp.at_ i hi).len
    have h4 := tot_succ cs i (by omega)
    have h5 := tot_le cs (i + 1)
    rw [h4] at h5 ih
    rw [List.length_append] at h5
    have h6 : IntKind.i64.wrap (((cs.take i).flatten.length : Nat) + ((cs.getD i []).length : Nat)) = (((cs.take i).flatten ++ cs.getD i []).length : Nat) := by
      rw [w64 (by omega) (by omega), List.length_append]; rfl
    have h7 : decide (((((cs.take i).flatten ++ cs.getD i []).length : Nat) : Int) < 0) = false := by simp; omega
    refine ok_head lConcatn0.eq_1 (vc_ok 100 _ _ ?_)
    simp only [h1, ht, h2, h3, h6, h7, go_sem, Nat.reduceEqDiff, Nat.reduceLT, ↓reduceIte]
    refine ⟨⟨by omega, by omega⟩, ok_less ih ?_⟩
    simp only [envSub, w64s (show i + 1 < 9223372036854775808 by omega), go_sem, reduceCtorEq, Nat.reduceEqDiff, ↓reduceIte]
  · have h1 : decide ((xs.length : Int) < (xs.length : Int)) = false := by simp
    refine ok_head lConcatn0.eq_1 (vc_ok 100 _ _ ?_)
    rw [hl, List.take_length]
    simp only [← hl, h1, tConcatn3, go_sem, Nat.reduceEqDiff, Nat.reduceLT, ↓reduceIte]
    by_cases hz : cs.flatten.length = 0
    · rw [hz]
      refine ok_ch hP 100 (spGrowZ H) okGrow rfl rfl fun v hs' hq => ?_
      obtain ⟨rfl, rfl⟩ := hq
      simp only [go_sem, reduceCtorEq, Nat.reduceLT, ↓reduceIte]
      have hall : ∀ i, i < cs.length → cs.getD i [] = [] := by
        intro i hi
        have h4 := tot_succ cs i hi
        have h5 := tot_le cs (i + 1)
        rw [h4, List.length_append] at h5
        exact List.eq_nil_of_length_eq_zero (by omega)
      refine ok_less (env' := [(27, .int .i64 (0 : Nat)), (26, .int .i64 xs.length), (25, .sl t 0 xs.length xs.length), (6, .nils)]) ?_ (by simp only [envSub, go_sem, Nat.reduceEqDiff, ↓reduceIte] <;> rfl)
      refine up (p := fun i => Ok C [⟨27, none, 36, [.t 2], [(27, .int .i64 i), (26, .int .i64 xs.length), (25, .sl t 0 xs.length xs.length), (6, .nils)], [.c lConcatn1, .lp lConcatn1, .blk 2, .c tConcatn2], []⟩] hs') xs.length ?_ ?_
      · intro i hi ih
        have h1 : decide ((i : Int) < (xs.length : Int)) = true := by simp; omega
        have h2 := ldR_ones hi ho
        have hz0 := congrArg List.length (hall i (by omega))
        simp only [List.length_nil] at hz0
        refine ok_head lConcatn1.eq_1 (vc_ok 100 _ _ ?_)
        simp only [h1, ht, h2, go_sem, Nat.reduceEqDiff, Nat.reduceLT, ↓reduceIte]
        refine ⟨⟨by omega, by omega⟩, app_byt_nil rfl rfl (hp.at_ i hi) (by omega) (fun _ => ?_) (fun h => absurd (hall i (by omega)) h)⟩
        simp only [go_sem, Nat.reduceEqDiff, Nat.reduceLT, ↓reduceIte]
        refine ok_less ih ?_
        simp only [envSub, w64s (show i + 1 < 9223372036854775808 by omega), go_sem, Nat.reduceEqDiff, ↓reduceIte]
      · refine ok_head lConcatn1.eq_1 (vc_ok 100 _ _ ?_)
        simp only [h1, tConcatn2, go_sem, Nat.reduceEqDiff, Nat.reduceLT, ↓reduceIte]
        exact fin00 hf hQ hw rfl (.inl ⟨List.eq_nil_of_length_eq_zero hz, rfl, rfl⟩)
    · refine ok_ch hP 100 (spGrowH H cs.flatten.length (by omega) (by omega)) okGrow rfl rfl fun v hs' hq => ?_
      obtain ⟨cap, L0, hc1, hL0, rfl, rfl⟩ := hq
      simp only [go_sem, reduceCtorEq, Nat.reduceLT, ↓reduceIte]
      refine ok_less (env' := [(27, .int .i64 (0 : Nat)), (26, .int .i64 xs.length), (25, .sl t 0 xs.length xs.length), (6, .sl H.length 0 (cs.take 0).flatten.length cap)]) ?_ (by simp only [envSub, go_sem, Nat.reduceEqDiff, ↓reduceIte] <;> rfl)
      refine up (p := fun i => ∀ L, L.length = cap → L.take (cs.take i).flatten.length = (cs.take i).flatten → Ok C [⟨27, none, 36, [.t 2], [(27, .int .i64 i), (26, .int .i64 xs.length), (25, .sl t 0 xs.length xs.length), (6, .sl H.length 0 (cs.take i).flatten.length cap)], [.c lConcatn1, .lp lConcatn1, .blk 2, .c tConcatn2], []⟩] (H ++ [.cells [.run .u8 cap L] 5 0 0])) xs.length ?_ ?_ L0 hL0 (by simp)
      · intro i hi ih L hL hLt
        have h1 : decide ((i : Int) < (xs.length : Int)) = true := by simp; omega
        have h2 := ldR_ones hi ho
        have ht' := at_old ht [.cells [.run .u8 cap L] 5 0 0]
        have h4 := tot_succ cs i (by omega)
        have h5 := tot_le cs (i + 1)
        rw [h4] at h5 ih
        simp only [List.length_append] at h5 ih
        refine ok_head lConcatn1.eq_1 (vc_ok 100 _ _ ?_)
        simp only [h1, ht', h2, go_sem, Nat.reduceEqDiff, Nat.reduceLT, ↓reduceIte]
        refine ⟨⟨by omega, by omega⟩, app_byt rfl (get_app0 _ _) rfl ((hp.at_ i hi).app _) (by omega) hL (by omega) fun t' cap' L' hs' hc' hl' hL' hcase => ?_⟩
        rcases hcase with ⟨rfl, rfl, rfl⟩ | ⟨_, hbad, _⟩
        · simp only [go_sem, Nat.reduceEqDiff, Nat.reduceLT, ↓reduceIte]
          refine ok_less (ih L' hl' ?_) ?_
          · rw [hL', hLt]
          · simp only [envSub, w64s (show i + 1 < 9223372036854775808 by omega), go_sem, Nat.reduceEqDiff, ↓reduceIte]
        · omega
      · intro L hL hLt
        refine ok_head lConcatn1.eq_1 (vc_ok 100 _ _ ?_)
        rw [hl, List.take_length] at hLt ⊢
        simp only [← hl, h1, tConcatn2, go_sem, Nat.reduceEqDiff, Nat.reduceLT, ↓reduceIte]
        exact fin1 (j := 0) hf hQ hw rfl (.inr ⟨_, rfl, cap, L, hc1, hL, hLt, rfl, rfl⟩)

/-- Behind `k` of the bytes of a slice of capacity `cap`. -/
theorem RowB.step {cs : List SV} {off cap k : Nat} {c : List Int} (h : RowB cs off c) (hc : c.length ≤ cap) (hk : k ≤ c.length) : RowB cs (if cap = k then off else off + k) (c.drop k) := by
  split
  · have : c.drop k = [] := List.drop_of_length_le (by omega)
    rw [this]
    have h0 := h.lda 0 0 (by omega)
    refine ⟨fun i hi => by simp at hi, fun i n hn => ?_⟩
    simp at hn
    obtain ⟨rfl, rfl⟩ := hn
    simpa using h0
  · have := h.sub k (c.length - k) (by omega)
    rwa [List.take_of_length_le (by simp)] at this

/-! ### Memory that is known by facts -/
theorem hx_old {X l : List SO} {t : Nat} (h : t < X.length) : (X ++ l)[t]? = X[t]? := List.getElem?_append_left h
theorem hx_new {X l : List SO} {n k : Nat} (h : X.length = n) : (X ++ l)[n + k]? = l[k]? := by subst h; exact get_app _ _ _
theorem hx_new0 {X l : List SO} {n : Nat} (h : X.length = n) : (X ++ l)[n]? = l[0]? := by subst h; exact get_app0 _ _
theorem hx_sold {X l : List SO} {t : Nat} {o : SO} (h : t < X.length) : (X ++ l).set t o = X.set t o ++ l := List.set_append_left _ _ h
theorem hx_snew {X l : List SO} {n k : Nat} {o : SO} (h : X.length = n) : (X ++ l).set (n + k) o = X ++ l.set k o := by subst h; exact set_app _ _ _ _
theorem hx_snew0 {X l : List SO} {n : Nat} {o : SO} (h : X.length = n) : (X ++ l).set n o = X ++ l.set 0 o := by subst h; exact set_app0 _ _ _
theorem hx_ne {X : List SO} {t u : Nat} {o : SO} (h : t ≠ u) : (X.set t o)[u]? = X[u]? := List.getElem?_set_ne h
theorem hx_eq {X : List SO} {t : Nat} {o : SO} (h : t < X.length) : (X.set t o)[t]? = some o := List.getElem?_set_self h
theorem lt_of_at {X : List SO} {t : Nat} {o : SO} (h : X[t]? = some o) : t < X.length := (List.getElem?_eq_some_iff.1 h).1

end Go.Pv
