/- sha1, first part: rotation, word, the rounds' functions. -/
import Derived.Test.YtifoaokodgbhjaaGreatVz
import Derived.Test.YtifoaokodgbhjaaProg
namespace Go.Pv
open Go Go.Proofs
def cRotL : FnC := ⟨17, [(.t 4)], (.seq (.reg [(.mk (some 4) none (.mv (.c (.int .u32 0))))]) (.seq (.reg [(.mk (some 6) none (.mv (.t 1))), (.mk (some 7) none (.cvi .u64 (.t 6))), (.mk (some 8) none (.bin .and (.t 7) (.c (.int .u64 31)))), (.mk (some 5) none (.mv (.t 8)))]) (.seq (.reg [(.mk (some 9) none (.mv (.t 0))), (.mk (some 10) none (.mv (.t 5))), (.mk (some 11) none (.bin .shl (.t 9) (.t 10))), (.mk (some 12) none (.mv (.t 0))), (.mk (some 13) none (.mv (.t 5))), (.mk (some 14) none (.bin .sub (.c (.int .u64 32)) (.t 13))), (.mk (some 15) none (.bin .shr (.t 12) (.t 14))), (.mk (some 16) none (.bin .or (.t 11) (.t 15))), (.mk (some 4) none (.mv (.t 16)))]) .ret)))⟩
theorem okRotL : FnOk Try.prog 96 cRotL := fnOk_mk Try.f96 (by kernel_rfl) (by kernel_rfl) (by kernel_rfl) (by kernel_rfl) (by kernel_rfl)
def lsWordn0 : IC := (.seq (.reg [(.mk (some 9) none (.bin .lss (.t 8) (.t 7)))]) (.seq (.cond (.t 9) .skip (.exit 0)) (.seq (.block 1 (.seq (.reg [(.mk (some 10) none (.ias 1 (.t 6) (.t 8))), (.mk (some 11) none (.ld (.t 10))), (.mk (some 4) none (.mv (.t 11)))]) (.reg [(.mk (some 12) none (.mv (.t 2))), (.mk (some 13) none (.bin .shl (.t 12) (.c (.int .u64 8)))), (.mk (some 14) none (.mv (.t 4))), (.mk (some 15) none (.cvi .u32 (.t 14))), (.mk (some 16) none (.bin .or (.t 13) (.t 15))), (.mk (some 2) none (.mv (.t 16)))]))) (.reg [(.mk (some 17) none (.bin .add (.t 8) (.c (.int .i64 1)))), (.mk (some 8) none (.mv (.t 17)))]))))
def tsWordn1 : IC := (.seq (.reg [(.mk (some 18) none (.mv (.t 2))), (.mk (some 2) none (.mv (.t 18)))]) .ret)
def csWord : FnC := ⟨19, [(.t 2)], (.seq (.reg [(.mk (some 2) none (.mv (.c (.int .u32 0))))]) (.seq (.seq (.reg [(.mk (some 5) none (.mv (.t 0))), (.mk (some 6) none (.slc 1 (.t 5) none (some (.c (.int .i64 4))))), (.mk (some 7) none (.len (.t 6))), (.mk (some 8) none (.mv (.c (.int .i64 0))))]) (.block 0 (.loop lsWordn0))) tsWordn1))⟩
theorem oksWord : FnOk Try.prog 95 csWord := fnOk_mk Try.f95 (by kernel_rfl) (by kernel_rfl) (by kernel_rfl) (by kernel_rfl) (by kernel_rfl)
def csPartsA : FnC := ⟨12, [(.t 6)], (.seq (.reg [(.mk (some 6) none (.mv (.c (.int .u32 0))))]) (.seq (.reg [(.mk (some 7) none (.mv (.t 0))), (.mk (some 8) none (.mv (.t 1))), (.mk (some 9) none (.bin .xor (.t 7) (.t 8))), (.mk (some 10) none (.mv (.t 2))), (.mk (some 11) none (.bin .xor (.t 9) (.t 10))), (.mk (some 6) none (.mv (.t 11)))]) .ret))⟩
theorem oksPartsA : FnOk Try.prog 104 csPartsA := fnOk_mk Try.f104 (by kernel_rfl) (by kernel_rfl) (by kernel_rfl) (by kernel_rfl) (by kernel_rfl)
def csPartsB : FnC := ⟨15, [(.t 6)], (.seq (.reg [(.mk (some 6) none (.mv (.c (.int .u32 0))))]) (.seq (.reg [(.mk (some 7) none (.mv (.t 0))), (.mk (some 8) none (.mv (.t 1))), (.mk (some 9) none (.bin .and (.t 7) (.t 8))), (.mk (some 10) none (.mv (.t 0))), (.mk (some 11) none (.un .xor (.t 10))), (.mk (some 12) none (.mv (.t 2))), (.mk (some 13) none (.bin .and (.t 11) (.t 12))), (.mk (some 14) none (.bin .or (.t 9) (.t 13))), (.mk (some 6) none (.mv (.t 14)))]) .ret))⟩
theorem oksPartsB : FnOk Try.prog 105 csPartsB := fnOk_mk Try.f105 (by kernel_rfl) (by kernel_rfl) (by kernel_rfl) (by kernel_rfl) (by kernel_rfl)
def csPartsC : FnC := ⟨18, [(.t 6)], (.seq (.reg [(.mk (some 6) none (.mv (.c (.int .u32 0))))]) (.seq (.reg [(.mk (some 7) none (.mv (.t 0))), (.mk (some 8) none (.mv (.t 1))), (.mk (some 9) none (.bin .and (.t 7) (.t 8))), (.mk (some 10) none (.mv (.t 0))), (.mk (some 11) none (.mv (.t 2))), (.mk (some 12) none (.bin .and (.t 10) (.t 11))), (.mk (some 13) none (.bin .or (.t 9) (.t 12))), (.mk (some 14) none (.mv (.t 1))), (.mk (some 15) none (.mv (.t 2))), (.mk (some 16) none (.bin .and (.t 14) (.t 15))), (.mk (some 17) none (.bin .or (.t 13) (.t 16))), (.mk (some 6) none (.mv (.t 17)))]) .ret))⟩
theorem oksPartsC : FnOk Try.prog 106 csPartsC := fnOk_mk Try.f106 (by kernel_rfl) (by kernel_rfl) (by kernel_rfl) (by kernel_rfl) (by kernel_rfl)
def csParts : FnC := ⟨9, [(.t 0)], (.seq (.reg [(.mk (some 0) none (.mv (.c .nils)))]) (.seq (.reg [(.mk (some 1) none (.mv (.c (.fn 104 []))))]) (.seq (.reg [(.mk (some 2) none (.bld [(.int .i64 0), .nilf, (.int .u32 0)] [(0, (1, (.c (.int .i64 20)))), (1, (1, (.c (.fn 105 [])))), (2, (1, (.c (.int .u32 1518500249))))])), (.mk (some 3) none (.mv (.t 1))), (.mk (some 4) none (.bld [(.int .i64 0), .nilf, (.int .u32 0)] [(0, (1, (.c (.int .i64 40)))), (1, (1, (.t 3))), (2, (1, (.c (.int .u32 1859775393))))])), (.mk (some 5) none (.bld [(.int .i64 0), .nilf, (.int .u32 0)] [(0, (1, (.c (.int .i64 60)))), (1, (1, (.c (.fn 106 [])))), (2, (1, (.c (.int .u32 2400959708))))])), (.mk (some 6) none (.mv (.t 1))), (.mk (some 7) none (.bld [(.int .i64 0), .nilf, (.int .u32 0)] [(0, (1, (.c (.int .i64 80)))), (1, (1, (.t 6))), (2, (1, (.c (.int .u32 3395469782))))])), (.mk (some 8) none (.bsl 182 4 [(.int .i64 0), .nilf, (.int .u32 0), (.int .i64 0), .nilf, (.int .u32 0), (.int .i64 0), .nilf, (.int .u32 0), (.int .i64 0), .nilf, (.int .u32 0)] [(0, (3, (.t 2))), (3, (3, (.t 4))), (6, (3, (.t 5))), (9, (3, (.t 7)))])), (.mk (some 0) none (.mv (.t 8)))]) .ret)))⟩
theorem oksParts : FnOk Try.prog 97 csParts := fnOk_mk Try.f97 (by kernel_rfl) (by kernel_rfl) (by kernel_rfl) (by kernel_rfl) (by kernel_rfl)
def csFirst : FnC := ⟨2, [(.a 0 5)], (.seq (.reg [(.mk (some 0) none (.al 153 [(.run .u32 5 [0, 0, 0, 0, 0])]))]) (.seq (.reg [(.mk (some 1) none (.bld [(.run .u32 5 [0, 0, 0, 0, 0])] [(0, (1, (.c (.int .u32 1732584193)))), (1, (1, (.c (.int .u32 4023233417)))), (2, (1, (.c (.int .u32 2562383102)))), (3, (1, (.c (.int .u32 271733878)))), (4, (1, (.c (.int .u32 3285377520))))])), (.mk none none (.sta (.t 0) (.t 1) 5))]) .ret))⟩
theorem oksFirst : FnOk Try.prog 80 csFirst := fnOk_mk Try.f80 (by kernel_rfl) (by kernel_rfl) (by kernel_rfl) (by kernel_rfl) (by kernel_rfl)


/-- `RotateLeft32` as the code has it. -/
def rotF (x k : Int) : Int :=
  bw .or .u32 (IntKind.u32.wrap (x * 2 ^ min (bw .and .u64 (IntKind.u64.wrap k) 31).toNat IntKind.u32.bits)) (x.fdiv (2 ^ min (IntKind.u64.wrap (32 - bw .and .u64 (IntKind.u64.wrap k) 31)).toNat IntKind.u32.bits))

theorem wrap_u64_nonneg (x : Int) : 0 ≤ IntKind.u64.wrap x := by
  have e : IntKind.u64.wrap x = x % 18446744073709551616 := by simp [IntKind.wrap, IntKind.bits, IntKind.signed]
  rw [e]; omega

theorem spRotL (x k : Int) : Spec Try.prog 96 [.int .u32 x, .int .i64 k] [] fun v hs => v = .int .u32 (rotF x k) ∧ hs = [] := by
  refine spec_mk okRotL rfl (of_ble rfl) fun C hP hf hQ h0 => ?_
  apply vc_ok 100
  simp only [FS.start, cRotL, paramsE, go_sem, reduceCtorEq, Nat.reduceEqDiff, Nat.reduceLT, ↓reduceIte]
  refine ⟨wrap_u64_nonneg _, hf.symm, ?_⟩
  rw [hQ]
  exact gc_drop [] _ rfl rfl rfl ⟨rfl, rfl⟩

/-- The rounds' functions. -/
def oddF (b c d : Int) : Int := bw .xor .u32 (bw .xor .u32 b c) d
def chF (b c d : Int) : Int := bw .or .u32 (bw .and .u32 b c) (bw .and .u32 (bw .xor .u32 IntKind.u32.max b) d)
def majF (b c d : Int) : Int := bw .or .u32 (bw .or .u32 (bw .and .u32 b c) (bw .and .u32 b d)) (bw .and .u32 c d)

theorem spsPartsA (b c d : Int) : Spec Try.prog 104 [.int .u32 b, .int .u32 c, .int .u32 d] [] fun v hs => v = .int .u32 (oddF b c d) ∧ hs = [] := by
  refine spec_mk oksPartsA rfl (of_ble rfl) fun C hP hf hQ h0 => ?_
  apply vc_ok 100
  simp only [FS.start, csPartsA, paramsE, go_sem, reduceCtorEq, Nat.reduceEqDiff, Nat.reduceLT, Nat.reduceAdd, ↓reduceIte]
  refine ⟨hf.symm, ?_⟩
  rw [hQ]
  exact gc_drop [] _ rfl rfl rfl ⟨rfl, rfl⟩

theorem spsPartsB (b c d : Int) : Spec Try.prog 105 [.int .u32 b, .int .u32 c, .int .u32 d] [] fun v hs => v = .int .u32 (chF b c d) ∧ hs = [] := by
  refine spec_mk oksPartsB rfl (of_ble rfl) fun C hP hf hQ h0 => ?_
  apply vc_ok 100
  simp only [FS.start, csPartsB, paramsE, go_sem, reduceCtorEq, Nat.reduceEqDiff, Nat.reduceLT, Nat.reduceAdd, ↓reduceIte]
  refine ⟨hf.symm, ?_⟩
  rw [hQ]
  exact gc_drop [] _ rfl rfl rfl ⟨rfl, rfl⟩

theorem spsPartsC (b c d : Int) : Spec Try.prog 106 [.int .u32 b, .int .u32 c, .int .u32 d] [] fun v hs => v = .int .u32 (majF b c d) ∧ hs = [] := by
  refine spec_mk oksPartsC rfl (of_ble rfl) fun C hP hf hQ h0 => ?_
  apply vc_ok 100
  simp only [FS.start, csPartsC, paramsE, go_sem, reduceCtorEq, Nat.reduceEqDiff, Nat.reduceLT, Nat.reduceAdd, ↓reduceIte]
  refine ⟨hf.symm, ?_⟩
  rw [hQ]
  exact gc_drop [] _ rfl rfl rfl ⟨rfl, rfl⟩

theorem spsFirst : Spec Try.prog 80 [] [] fun v hs => v = .agg [.run .u32 5 [1732584193, 4023233417, 2562383102, 271733878, 3285377520]] ∧ hs = [] := by
  refine spec_mk oksFirst rfl (of_ble rfl) fun C hP hf hQ h0 => ?_
  apply vc_ok 100
  simp only [FS.start, csFirst, paramsE, go_sem, reduceCtorEq, Nat.reduceLT, ↓reduceIte]
  refine ⟨hf.symm, ?_⟩
  rw [hQ]
  exact gc_drop [] _ rfl rfl rfl ⟨rfl, rfl⟩

/-- A part of the rounds: up to which one, its function, its word. -/
def partsV : List SV := [.int .i64 20, .fn 105 [], .int .u32 1518500249, .int .i64 40, .fn 104 [], .int .u32 1859775393, .int .i64 60, .fn 106 [], .int .u32 2400959708, .int .i64 80, .fn 104 [], .int .u32 3395469782]

theorem spsParts : Spec Try.prog 97 [] [] fun v hs => v = .sl 0 0 4 4 ∧ hs = [.cells partsV 182 0 0] := by
  refine spec_mk oksParts rfl (of_ble rfl) fun C hP hf hQ h0 => ?_
  apply vc_ok 100
  simp only [FS.start, csParts, paramsE, go_sem, reduceCtorEq, Nat.reduceEqDiff, Nat.reduceLT, Nat.reduceAdd, Nat.reduceSub, ↓reduceIte]
  refine ⟨hf.symm, ?_⟩
  rw [hQ]
  exact gc_drop [.cells partsV 182 0 0] [] rfl rfl rfl ⟨rfl, rfl⟩

/-- A word: four bytes, the highest ahead. -/
def wordS (l : List Int) (off i : Nat) (w : Int) : Int := bw .or .u32 (IntKind.u32.wrap (w * 2 ^ 8)) (IntKind.u32.wrap (l.getD (i + off) 0))
def wordF (l : List Int) (off : Nat) : Int := it (wordS l off) 4 0

theorem lpsWord {C : Ctx} (hf : C.f = 95) (l : List Int) (n off len cap ty : Nat) (hl : off + 4 ≤ n) (hQ : C.Q = GC 1 fun x hs => x = .int .u32 (wordF l off) ∧ hs = [.cells [.run .u8 n l] ty 0 0]) :
    ∀ (m i : Nat), i + m = 4 → Ok C [⟨95, none, 19, [.t 2], [(8, .int .i64 i), (7, .int .i64 4), (6, .sl 0 off 4 cap), (2, .int .u32 (it (wordS l off) i 0))], [.c lsWordn0, .lp lsWordn0, .blk 0, .c tsWordn1], []⟩]
      [.cells [.run .u8 n l] ty 0 0] := by
  intro m
  induction m with
  | zero =>
    intro i hi
    have h1 : decide ((i : Int) < 4) = false := by simp; omega
    refine ok_head lsWordn0.eq_1 (vc_ok 100 _ _ ?_)
    simp only [h1, tsWordn1, go_sem, Nat.reduceEqDiff, Nat.reduceLT, ↓reduceIte]
    have : i = 4 := by omega
    subst this
    refine ⟨hf.symm, ?_⟩
    rw [hQ]
    exact gc_drop [.cells [.run .u8 n l] ty 0 0] [] rfl rfl rfl ⟨rfl, rfl⟩
  | succ m ih =>
    intro i hi
    have h1 : decide ((i : Int) < 4) = true := by simp; omega
    refine ok_head lsWordn0.eq_1 (vc_ok 100 _ _ ?_)
    simp only [h1, go_sem, Nat.reduceEqDiff, Nat.reduceLT, Int.reduceToNat, Int.reduceLE, ↓reduceIte]
    refine ⟨⟨by omega, by omega⟩, by omega, ok_less (ih (i + 1) (by omega)) ?_⟩
    simp only [envSub, w64s (show i + 1 < 9223372036854775808 by omega), go_sem, Nat.reduceEqDiff, ↓reduceIte]
    rfl

theorem spsWord (l : List Int) (n off len cap ty : Nat) (hl : off + 4 ≤ n) (hc : 4 ≤ cap) : Spec Try.prog 95 [.sl 0 off len cap] [.cells [.run .u8 n l] ty 0 0] fun v hs => v = .int .u32 (wordF l off) ∧ hs = [.cells [.run .u8 n l] ty 0 0] := by
  refine spec_mk oksWord rfl (of_ble rfl) fun C hP hf hQ h0 => ?_
  apply vc_ok 100
  simp only [FS.start, csWord, paramsE, go_sem, reduceCtorEq, Nat.reduceLT, Int.reduceToNat, Int.reduceLE, ↓reduceIte]
  refine ⟨by omega, ok_less (lpsWord hf l n off len cap ty hl hQ 4 0 rfl) ?_⟩
  simp only [envSub, go_sem, Nat.reduceEqDiff, ↓reduceIte]
  rfl

end Go.Pv
