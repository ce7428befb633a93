/- sha1.Tail: what stands behind so many bytes. -/
import Derived.Test.YtifoaokodgbhjaaSb
import Derived.Test.YtifoaokodgbhjaaGreatVw
namespace Go.Pv
open Go Go.Proofs
def lsTailn0 : IC := (.seq (.reg [(.mk (some 19) none (.bin .lss (.t 18) (.c (.int .i64 8))))]) (.seq (.cond (.t 19) .skip (.exit 0)) (.seq (.block 1 (.seq (.reg [(.mk (some 20) none (.mv (.t 18))), (.mk (some 5) none (.mv (.t 20)))]) (.reg [(.mk (some 21) none (.mv (.t 4))), (.mk (some 22) none (.mv (.t 0))), (.mk (some 23) none (.cvi .u64 (.t 22))), (.mk (some 24) none (.bin .mul (.t 23) (.c (.int .u64 8)))), (.mk (some 25) none (.mv (.t 5))), (.mk (some 26) none (.bin .mul (.c (.int .i64 8)) (.t 25))), (.mk (some 27) none (.bin .sub (.c (.int .i64 56)) (.t 26))), (.mk (some 28) none (.bin .shr (.t 24) (.t 27))), (.mk (some 29) none (.cvi .u8 (.t 28))), (.mk (some 30) none (.bsl 5 1 [(.run .u8 1 [0])] [(0, (1, (.t 29)))])), (.mk (some 31) none (.app 5 1 1 [(.int .u8 0)] false (.t 21) (.t 30))), (.mk (some 4) none (.mv (.t 31)))]))) (.reg [(.mk (some 32) none (.bin .add (.t 18) (.c (.int .i64 1)))), (.mk (some 18) none (.mv (.t 32)))]))))
def tsTailn1 : IC := (.seq (.reg [(.mk (some 33) none (.mv (.t 4))), (.mk (some 2) none (.mv (.t 33))), (.mk (some 3) none (.mv (.c (.int .i64 0))))]) .ret)
def csTail : FnC := ⟨34, [(.t 2), (.t 3)], (.seq (.reg [(.mk (some 2) none (.mv (.c .nils))), (.mk (some 3) none (.mv (.c (.int .i64 0))))]) (.seq (.seq (.reg [(.mk (some 6) none (.mv (.t 0))), (.mk (some 7) none (.bin .lss (.t 6) (.c (.int .i64 0)))), (.mk (some 8) none (.mv (.t 7))), (.mk (some 9) (some (8, false)) (.mv (.t 0))), (.mk (some 10) (some (8, false)) (.bin .gtr (.t 9) (.c (.int .i64 1152921504606846976)))), (.mk (some 11) none (.pick (.t 8) (.c (.bool true)) (.t 10)))]) (.cond (.t 11) (.seq (.reg [(.mk (some 2) none (.mv (.c .nils))), (.mk (some 3) none (.mv (.c (.int .i64 2))))]) .ret) .skip)) (.seq (.reg [(.mk (some 12) none (.bsl 5 1 [(.run .u8 1 [0])] [(0, (1, (.c (.int .u8 128))))])), (.mk (some 13) none (.mv (.t 0))), (.mk (some 14) none (.bin .rem (.t 13) (.c (.int .i64 64)))), (.mk (some 15) none (.bin .sub (.c (.int .i64 119)) (.t 14))), (.mk (some 16) none (.bin .rem (.t 15) (.c (.int .i64 64)))), (.mk (some 17) none (.app 5 1 1 [(.int .u8 0)] true (.t 12) (.t 16))), (.mk (some 4) none (.mv (.t 17)))]) (.seq (.seq (.reg [(.mk (some 18) none (.mv (.c (.int .i64 0))))]) (.block 0 (.loop lsTailn0))) tsTailn1))))⟩
theorem oksTail : FnOk Try.prog 88 csTail := fnOk_mk Try.f88 (by kernel_rfl) (by kernel_rfl) (by kernel_rfl) (by kernel_rfl) (by kernel_rfl)


/-- How many zeros stand there. -/
def padN (n : Nat) : Nat := (119 - n % 64) % 64
def tailB (n i : Nat) : Int := IntKind.u8.wrap ((IntKind.u64.wrap (IntKind.u64.wrap (n : Int) * 8)).fdiv (2 ^ min (56 - 8 * i) 64))
def tailL (n : Nat) : Nat → List Int
  | 0 => 128 :: List.replicate (padN n) 0
  | i + 1 => tailL n i ++ [tailB n i]
/-- What stands behind `n` bytes. -/
def tailF (n : Nat) : List Int := tailL n 8
theorem tailL_len (n : Nat) : ∀ i, (tailL n i).length = 1 + padN n + i
  | 0 => by simp [tailL]; omega
  | i + 1 => by simp [tailL, tailL_len n i]; omega

/-- A row of one's own that holds `l`. -/
def Own (t : Nat) (l : List Int) (x : SV) (o : SO) : Prop := ∃ cap L, l.length ≤ cap ∧ L.length = cap ∧ L.take l.length = l ∧ x = .sl t 0 l.length cap ∧ o = .cells [.run .u8 cap L] 5 0 0

theorem lpsTail {C : Ctx} (hf : C.f = 88) (h0 : C.ν0.length = 0) (n : Nat) (hn : n < 2 ^ 61) (hQ : C.Q = GC 0 fun x hs => ∃ y o, x = .tup [y, .int .i64 0] ∧ hs = [o] ∧ Own 0 (tailF n) y o) : ∀ (m i cap len : Nat) (L : List Int), i + m = 8 → len = 1 + padN n + i → len ≤ cap → L.length = cap → L.take len = tailL n i →
    Ok C [⟨88, none, 34, [.t 2, .t 3], [(18, .int .i64 i), (4, .sl 0 0 len cap), (0, .int .i64 n)], [.c lsTailn0, .lp lsTailn0, .blk 0, .c tsTailn1], []⟩] [.cells [.run .u8 cap L] 5 0 0] := by
  intro m
  induction m with
  | zero =>
    intro i cap len L hi hl hc hLl hL
    have h1 : decide ((i : Int) < 8) = false := by simp; omega
    have : i = 8 := by omega
    refine ok_head lsTailn0.eq_1 (vc_ok 100 _ _ ?_)
    simp only [h1, tsTailn1, go_sem, Nat.reduceEqDiff, Nat.reduceLT, ↓reduceIte]
    subst this
    refine ⟨hf.symm, ?_⟩
    rw [hQ]
    have hlen : (tailF n).length = len := by rw [tailF, tailL_len]; omega
    refine gc_drop [.cells [.run .u8 cap L] 5 0 0] [] rfl rfl rfl ⟨.sl 0 0 len cap, _, rfl, rfl, cap, L, ?_, hLl, ?_, ?_, rfl⟩
    · omega
    · rw [hlen]; exact hL
    · rw [hlen]
  | succ m ih =>
    intro i cap len L hi hl hc hLl hL
    have hp : padN n < 64 := Nat.mod_lt _ (by decide)
    have h1 : decide ((i : Int) < 8) = true := by simp; omega
    have h2 : IntKind.i64.wrap (8 * (i : Int)) = ((8 * i : Nat) : Int) := by rw [w64 (by omega) (by omega)]; omega
    have h3 : IntKind.i64.wrap (56 - ((8 * i : Nat) : Int)) = ((56 - 8 * i : Nat) : Int) := by rw [w64 (by omega) (by omega)]; omega
    have hs : IntKind.i64.wrap ((i : Int) + 1) = ((i + 1 : Nat) : Int) := by rw [w64 (by omega) (by omega)]; omega
    refine ok_head lsTailn0.eq_1 (vc_ok 100 _ _ ?_)
    simp only [h1, h2, h3, go_sem, reduceCtorEq, Nat.reduceEqDiff, Nat.reduceLT, ↓reduceIte]
    refine ⟨by omega, app_own (len := len) (cap := cap) (n := 1) (L := L) (l' := [tailB n i]) rfl rfl rfl trivial hc hLl rfl (by omega) fun t' cap' L' hs' hc' hl' hL' hcase => ?_⟩
    have hL2 : L'.take (len + 1) = tailL n (i + 1) := by rw [hL', hL]; rfl
    rcases hcase with ⟨rfl, rfl, rfl⟩ | ⟨rfl, _, rfl⟩
    · simp only [go_sem, Nat.reduceEqDiff, Nat.reduceLT, ↓reduceIte]
      exact ok_sub [0] (ih (i + 1) cap' (len + 1) L' (by omega) (by omega) hc' hl' hL2) ⟨rfl, trivial⟩ rfl (by decide) (fun i hi => by omega) rfl ⟨⟨rfl, rfl, rfl, rfl, rfl, rfl, by simp only [envLe, hs, go_sem, reduceCtorEq, Nat.reduceEqDiff, ↓reduceIte]⟩, trivial⟩
    · simp only [go_sem, Nat.reduceEqDiff, Nat.reduceLT, Nat.reduceAdd, ↓reduceIte]
      exact ok_sub [2] (ih (i + 1) cap' (len + 1) L' (by omega) (by omega) hc' hl' hL2) ⟨rfl, trivial⟩ rfl (by decide) (fun i hi => by omega) rfl ⟨⟨rfl, rfl, rfl, rfl, rfl, rfl, by simp only [envLe, hs, go_sem, reduceCtorEq, Nat.reduceEqDiff, ↓reduceIte]⟩, trivial⟩

theorem spsTail (n : Nat) (hn : n < 2 ^ 60) : Spec Try.prog 88 [.int .i64 n] [] fun x hs => ∃ y o, x = .tup [y, .int .i64 0] ∧ hs = [o] ∧ Own 0 (tailF n) y o := by
  refine spec_mk oksTail rfl (of_ble rfl) fun C hP hf hQ h0 => ?_
  have h1 : decide ((n : Int) < 0) = false := by simp
  have h2 : decide ((1152921504606846976 : Int) < (n : Int)) = false := by simp; omega
  have h3 : IntKind.i64.wrap (119 - Int.tmod (n : Int) 64) = ((119 - n % 64 : Nat) : Int) := by
    rw [Int.tmod_eq_emod_of_nonneg (by omega), w64 (by omega) (by omega)]; omega
  have h4 : Int.tmod ((119 - n % 64 : Nat) : Int) 64 = ((padN n : Nat) : Int) := by
    rw [Int.tmod_eq_emod_of_nonneg (by omega)]; unfold padN; omega
  apply vc_ok 100
  simp only [FS.start, csTail, paramsE, h1, h2, h3, h4, go_sem, reduceCtorEq, Nat.reduceEqDiff, Nat.reduceLT, ↓reduceIte]
  have hp : padN n < 64 := Nat.mod_lt _ (by decide)
  refine ⟨by decide, by decide, app_own (len := 1) (cap := 1) (n := padN n) (L := [128]) (l' := List.replicate (padN n) 0) (p2 := (0 : Int) ≤ ((padN n : Nat) : Int)) rfl rfl rfl (by omega) (by omega) rfl (by simp) (by omega) fun t' cap' L' hs' hc' hl' hL' hcase => ?_⟩
  have hL2 : L'.take (1 + padN n) = tailL n 0 := by rw [hL']; rfl
  rcases hcase with ⟨rfl, rfl, rfl⟩ | ⟨rfl, _, rfl⟩
  · simp only [go_sem, Nat.reduceLT, ↓reduceIte]
    exact ok_less (lpsTail hf h0 n (by omega) hQ 8 0 _ (1 + padN n) L' rfl rfl hc' hl' hL2) (by simp only [envSub, go_sem, reduceCtorEq, Nat.reduceEqDiff, ↓reduceIte])
  · simp only [go_sem, Nat.reduceLT, ↓reduceIte]
    exact ok_sub [1] (lpsTail hf h0 n (by omega) hQ 8 0 cap' (1 + padN n) L' rfl rfl hc' hl' hL2) ⟨rfl, trivial⟩ rfl (by decide) (fun i hi => by rw [h0] at hi; cases hi) rfl ⟨⟨rfl, rfl, rfl, rfl, rfl, rfl, by simp only [envLe, go_sem, reduceCtorEq, Nat.reduceEqDiff, ↓reduceIte]⟩, trivial⟩
#print axioms spsTail
end Go.Pv
