/- mac: the ways, Size, Tag, Same, Check. -/
import Derived.Test.YtifoaokodgbhjaaSi
namespace Go.Pv
open Go Go.Proofs
def cmWays : FnC := ⟨5, [(.t 0)], (.seq (.reg [(.mk (some 0) none (.mv (.c .nilm)))]) (.seq (.reg [(.mk (some 1) none .mkm), (.mk (some 2) none (.bld [(.str ⟨#[]⟩), (.int .i64 0), .nilf] [(0, (1, (.c (.str ⟨#[104, 109, 97, 99]⟩)))), (1, (1, (.c (.int .i64 20)))), (2, (1, (.c (.fn 54 []))))])), (.mk none none (.ins (.t 1) (.c (.int .i64 1)) (.t 2))), (.mk (some 3) none (.bld [(.str ⟨#[]⟩), (.int .i64 0), .nilf] [(0, (1, (.c (.str ⟨#[99, 109, 97, 99]⟩)))), (1, (1, (.c (.int .i64 16)))), (2, (1, (.c (.fn 55 []))))])), (.mk none none (.ins (.t 1) (.c (.int .i64 2)) (.t 3))), (.mk (some 4) none (.mv (.t 1))), (.mk (some 0) none (.mv (.t 4)))]) .ret))⟩
theorem okmWays : FnOk Try.prog 46 cmWays := fnOk_mk Try.f46 (by kernel_rfl) (by kernel_rfl) (by kernel_rfl) (by kernel_rfl) (by kernel_rfl)
def cmOfI : FnC := ⟨23, [(.t 4), (.t 5)], (.seq (.reg [(.mk (some 4) none (.mv (.c (.int .i64 0)))), (.mk (some 5) none (.mv (.c (.int .i64 0))))]) (.seq (.reg [(.mk (some 10) none (.call (.c (.fn 46 [])) [])), (.mk (some 11) none (.mv (.t 0))), (.mk (some 12) none (.lkp (.agg [(.str ⟨#[]⟩), (.int .i64 0), .nilf]) true (.t 10) (.t 11))), (.mk (some 9) none (.mv (.t 12))), (.mk (some 13) none (.ext (.t 9) 0)), (.mk (some 14) none (.ext (.t 9) 1)), (.mk (some 6) none (.al 79 [(.str ⟨#[]⟩), (.int .i64 0), .nilf])), (.mk none none (.sta (.t 6) (.t 13) 3)), (.mk (some 7) none (.mv (.t 14)))]) (.seq (.seq (.reg [(.mk (some 15) none (.mv (.t 7))), (.mk (some 16) none (.un .not (.t 15)))]) (.cond (.t 16) (.seq (.reg [(.mk (some 8) none (.mv (.c (.int .i64 0))))]) (.seq (.reg [(.mk (some 17) none (.mv (.t 8))), (.mk (some 4) none (.mv (.t 17))), (.mk (some 5) none (.mv (.c (.int .i64 2))))]) .ret)) .skip)) (.seq (.reg [(.mk (some 18) none (.mv (.t 1))), (.mk (some 19) none (.lda (.t 6) 3)), (.mk (some 20) none (.call (.t 18) [(.t 19)])), (.mk (some 21) none (.ext (.t 20) 0)), (.mk (some 22) none (.ext (.t 20) 1)), (.mk (some 4) none (.mv (.t 21))), (.mk (some 5) none (.mv (.t 22)))]) .ret))))⟩
theorem okmOfI : FnOk Try.prog 34 cmOfI := fnOk_mk Try.f34 (by kernel_rfl) (by kernel_rfl) (by kernel_rfl) (by kernel_rfl) (by kernel_rfl)
def cmOfT : FnC := ⟨23, [(.a 4 12), (.t 5)], (.seq (.reg [(.mk (some 4) none (.al 22 [(.run .u8 12 (List.replicate 12 0))])), (.mk (some 5) none (.mv (.c (.int .i64 0))))]) (.seq (.reg [(.mk (some 10) none (.call (.c (.fn 46 [])) [])), (.mk (some 11) none (.mv (.t 0))), (.mk (some 12) none (.lkp (.agg [(.str ⟨#[]⟩), (.int .i64 0), .nilf]) true (.t 10) (.t 11))), (.mk (some 9) none (.mv (.t 12))), (.mk (some 13) none (.ext (.t 9) 0)), (.mk (some 14) none (.ext (.t 9) 1)), (.mk (some 6) none (.al 79 [(.str ⟨#[]⟩), (.int .i64 0), .nilf])), (.mk none none (.sta (.t 6) (.t 13) 3)), (.mk (some 7) none (.mv (.t 14)))]) (.seq (.seq (.reg [(.mk (some 15) none (.mv (.t 7))), (.mk (some 16) none (.un .not (.t 15)))]) (.cond (.t 16) (.seq (.reg [(.mk (some 8) none (.al 22 [(.run .u8 12 (List.replicate 12 0))]))]) (.seq (.reg [(.mk (some 17) none (.lda (.t 8) 12)), (.mk none none (.sta (.t 4) (.t 17) 12)), (.mk (some 5) none (.mv (.c (.int .i64 2))))]) .ret)) .skip)) (.seq (.reg [(.mk (some 18) none (.mv (.t 1))), (.mk (some 19) none (.lda (.t 6) 3)), (.mk (some 20) none (.call (.t 18) [(.t 19)])), (.mk (some 21) none (.ext (.t 20) 0)), (.mk (some 22) none (.ext (.t 20) 1)), (.mk none none (.sta (.t 4) (.t 21) 12)), (.mk (some 5) none (.mv (.t 22)))]) .ret))))⟩
theorem okmOfT : FnOk Try.prog 36 cmOfT := fnOk_mk Try.f36 (by kernel_rfl) (by kernel_rfl) (by kernel_rfl) (by kernel_rfl) (by kernel_rfl)
def cmSize : FnC := ⟨8, [(.t 2), (.t 3)], (.seq (.reg [(.mk (some 2) none (.mv (.c (.int .i64 0)))), (.mk (some 3) none (.mv (.c (.int .i64 0))))]) (.seq (.reg [(.mk (some 4) none (.mv (.t 0))), (.mk (some 5) none (.call (.c (.fn 34 [])) [(.t 4), (.c (.fn 35 []))])), (.mk (some 6) none (.ext (.t 5) 0)), (.mk (some 7) none (.ext (.t 5) 1)), (.mk (some 2) none (.mv (.t 6))), (.mk (some 3) none (.mv (.t 7)))]) .ret))⟩
theorem okmSize : FnOk Try.prog 20 cmSize := fnOk_mk Try.f20 (by kernel_rfl) (by kernel_rfl) (by kernel_rfl) (by kernel_rfl) (by kernel_rfl)
def cmSizeC : FnC := ⟨6, [(.t 2), (.t 3)], (.seq (.reg [(.mk (some 1) none (.bx 79 (.t 0))), (.mk (some 2) none (.mv (.c (.int .i64 0)))), (.mk (some 3) none (.mv (.c (.int .i64 0))))]) (.seq (.reg [(.mk (some 4) none (.fa 1 (.t 1))), (.mk (some 5) none (.ld (.t 4))), (.mk (some 2) none (.mv (.t 5))), (.mk (some 3) none (.mv (.c (.int .i64 0))))]) .ret))⟩
theorem okmSizeC : FnOk Try.prog 35 cmSizeC := fnOk_mk Try.f35 (by kernel_rfl) (by kernel_rfl) (by kernel_rfl) (by kernel_rfl) (by kernel_rfl)
def cmTag : FnC := ⟨13, [(.a 6 12), (.t 7)], (.seq (.reg [(.mk (some 4) none (.bx 27 (.t 1))), (.mk (some 5) none (.bx 56 (.t 2))), (.mk (some 6) none (.al 22 [(.run .u8 12 (List.replicate 12 0))])), (.mk (some 7) none (.mv (.c (.int .i64 0))))]) (.seq (.reg [(.mk (some 8) none (.mv (.t 0))), (.mk (some 9) none (.mkf 37 [(.t 4), (.t 5)])), (.mk (some 10) none (.call (.c (.fn 36 [])) [(.t 8), (.t 9)])), (.mk (some 11) none (.ext (.t 10) 0)), (.mk (some 12) none (.ext (.t 10) 1)), (.mk none none (.sta (.t 6) (.t 11) 12)), (.mk (some 7) none (.mv (.t 12)))]) .ret))⟩
theorem okmTag : FnOk Try.prog 22 cmTag := fnOk_mk Try.f22 (by kernel_rfl) (by kernel_rfl) (by kernel_rfl) (by kernel_rfl) (by kernel_rfl)
def cmTagC : FnC := ⟨19, [(.a 4 12), (.t 5)], (.seq (.reg [(.mk (some 3) none (.bx 79 (.t 0))), (.mk (some 4) none (.al 22 [(.run .u8 12 (List.replicate 12 0))])), (.mk (some 5) none (.mv (.c (.int .i64 0))))]) (.seq (.seq (.reg [(.mk (some 6) none (.ld (.t 1))), (.mk (some 7) none (.len (.t 6))), (.mk (some 8) none (.fa 1 (.t 3))), (.mk (some 9) none (.ld (.t 8))), (.mk (some 10) none (.bin .neq (.t 7) (.t 9)))]) (.cond (.t 10) (.seq (.reg [(.mk (some 11) none (.bld [(.run .u8 12 (List.replicate 12 0))] [])), (.mk none none (.sta (.t 4) (.t 11) 12)), (.mk (some 5) none (.mv (.c (.int .i64 2))))]) .ret) .skip)) (.seq (.reg [(.mk (some 12) none (.fa 2 (.t 3))), (.mk (some 13) none (.ld (.t 12))), (.mk (some 14) none (.ld (.t 1))), (.mk (some 15) none (.ld (.t 2))), (.mk (some 16) none (.call (.t 13) [(.t 14), (.t 15)])), (.mk (some 17) none (.ext (.t 16) 0)), (.mk (some 18) none (.ext (.t 16) 1)), (.mk none none (.sta (.t 4) (.t 17) 12)), (.mk (some 5) none (.mv (.t 18)))]) .ret)))⟩
theorem okmTagC : FnOk Try.prog 37 cmTagC := fnOk_mk Try.f37 (by kernel_rfl) (by kernel_rfl) (by kernel_rfl) (by kernel_rfl) (by kernel_rfl)
def lmSamen0 : IC := (.seq (.reg [(.mk (some 10) none (.bin .lss (.t 9) (.c (.int .i64 12))))]) (.seq (.cond (.t 10) .skip (.exit 0)) (.seq (.block 1 (.seq (.reg [(.mk (some 11) none (.mv (.t 9))), (.mk (some 7) none (.mv (.t 11)))]) (.reg [(.mk (some 12) none (.mv (.t 6))), (.mk (some 13) none (.mv (.t 7))), (.mk (some 14) none (.call (.t 12) [(.t 13)]))]))) (.reg [(.mk (some 15) none (.bin .add (.t 9) (.c (.int .i64 1)))), (.mk (some 9) none (.mv (.t 15)))]))))
def tmSamen1 : IC := (.seq (.reg [(.mk (some 16) none (.ld (.t 5))), (.mk (some 17) none (.bin .eql (.t 16) (.c (.int .u8 0)))), (.mk (some 4) none (.mv (.t 17)))]) .ret)
def cmSame : FnC := ⟨18, [(.t 4)], (.seq (.reg [(.mk (some 2) none (.bx 22 (.t 0))), (.mk (some 3) none (.bx 22 (.t 1))), (.mk (some 4) none (.mv (.c (.bool false))))]) (.seq (.reg [(.mk (some 5) none (.al 5 [(.int .u8 0)])), (.mk none none (.st (.t 5) (.c (.int .u8 0))))]) (.seq (.reg [(.mk (some 8) none (.mkf 21 [(.t 5), (.t 2), (.t 3)])), (.mk (some 6) none (.mv (.t 8)))]) (.seq (.seq (.reg [(.mk (some 9) none (.mv (.c (.int .i64 0))))]) (.block 0 (.loop lmSamen0))) tmSamen1))))⟩
theorem okmSame : FnOk Try.prog 7 cmSame := fnOk_mk Try.f7 (by kernel_rfl) (by kernel_rfl) (by kernel_rfl) (by kernel_rfl) (by kernel_rfl)
def cmSameC : FnC := ⟨14, [], (.dreg (.tk 0 (.mk (some 5) none (.ld (.t 1))) (.tk 1 (.mk (some 6) none (.mv (.t 0))) (.tk 2 (.mk (some 7) none (.iaa 12 1 (.t 2) (.t 6))) (.tk 3 (.mk (some 8) none (.ld (.t 7))) (.one 4 (.mk (some 9) none (.mv (.t 0))) [] (.one 5 (.mk (some 10) none (.iaa 12 1 (.t 3) (.t 9))) [] (.one 6 (.mk (some 11) none (.ld (.t 10))) [] (.one 7 (.mk (some 12) none (.bin .xor (.t 8) (.t 11))) [] (.one 8 (.mk (some 13) none (.bin .or (.t 5) (.t 12))) [] (.one 9 (.mk none none (.st (.t 1) (.t 13))) [8, 0, 1, 2, 3, 4, 5, 6, 7] .fin)))))))))))⟩
theorem okmSameC : FnOk Try.prog 21 cmSameC := fnOk_mk Try.f21 (by kernel_rfl) (by kernel_rfl) (by kernel_rfl) (by kernel_rfl) (by kernel_rfl)
def cmCheck : FnC := ⟨27, [(.t 8), (.t 9)], (.seq (.reg [(.mk (some 6) none (.bx 22 (.t 2))), (.mk (some 8) none (.mv (.c (.bool false)))), (.mk (some 9) none (.mv (.c (.int .i64 0))))]) (.seq (.reg [(.mk (some 13) none (.mv (.t 0))), (.mk (some 14) none (.mv (.t 1))), (.mk (some 15) none (.mv (.t 3))), (.mk (some 16) none (.call (.c (.fn 22 [])) [(.t 13), (.t 14), (.t 15)])), (.mk (some 12) none (.mv (.t 16))), (.mk (some 17) none (.ext (.t 12) 0)), (.mk (some 18) none (.ext (.t 12) 1)), (.mk (some 10) none (.al 22 [(.run .u8 12 (List.replicate 12 0))])), (.mk none none (.sta (.t 10) (.t 17) 12)), (.mk (some 11) none (.mv (.t 18)))]) (.seq (.reg [(.mk (some 19) none (.mv (.t 11))), (.mk (some 20) none (.bin .eql (.t 19) (.c (.int .i64 0)))), (.mk (some 21) none (.mv (.t 20))), (.mk (some 22) (some (21, true)) (.lda (.t 10) 12)), (.mk (some 23) (some (21, true)) (.lda (.t 6) 12)), (.mk (some 24) (some (21, true)) (.call (.c (.fn 7 [])) [(.t 22), (.t 23)])), (.mk (some 25) none (.pick (.t 21) (.t 24) (.c (.bool false)))), (.mk (some 26) none (.mv (.t 11))), (.mk (some 8) none (.mv (.t 25))), (.mk (some 9) none (.mv (.t 26)))]) .ret)))⟩
theorem okmCheck : FnOk Try.prog 23 cmCheck := fnOk_mk Try.f23 (by kernel_rfl) (by kernel_rfl) (by kernel_rfl) (by kernel_rfl) (by kernel_rfl)


def wayA : SV := .agg [.str ⟨#[104, 109, 97, 99]⟩, .int .i64 20, .fn 54 []]
def wayB : SV := .agg [.str ⟨#[99, 109, 97, 99]⟩, .int .i64 16, .fn 55 []]
def waysC : SO := .map [(.i64, 1, wayA, 0), (.i64, 2, wayB, 1)] 2

theorem spmWays (H : List SO) : Spec Try.prog 46 [] H fun v hs => v = .mp H.length ∧ hs = H ++ [waysC] := by
  refine spec_h okmWays rfl (of_ble rfl) fun C hP hf hQ hn hw hbd => ?_
  apply vc_ok 100
  simp only [FS.start, cmWays, paramsE, go_sem, Nat.reduceEqDiff, Nat.reduceLT, Nat.reduceAdd, ↓reduceIte, Int.reduceBEq]
  refine ⟨hf.symm, ?_⟩
  rw [hQ]
  exact gq_all hw rfl (by simp [SV.bnd]) ⟨rfl, rfl⟩

theorem spmSizeC (H : List SO) (s f : SV) (n : Int) (hs1 : ∃ x, s = .str x) (hf1 : ∃ x, f = .fn x []) : Spec Try.prog 35 [.agg [s, .int .i64 n, f]] H fun v hs => v = .tup [.int .i64 n, .int .i64 0] ∧ hs = H := by
  obtain ⟨x, rfl⟩ := hs1
  obtain ⟨y, rfl⟩ := hf1
  refine spec_h okmSizeC rfl (of_ble rfl) fun C hP hf hQ hn hw hbd => ?_
  apply vc_ok 100
  simp only [FS.start, cmSizeC, paramsE, go_sem, Nat.reduceEqDiff, Nat.reduceLT, ↓reduceIte]
  exact fin0 hf hQ hw rfl ⟨rfl, rfl⟩

/-- How many bytes a way's keys have; 0: it is none. -/
def sizeF (alg : Int) : Int := if alg = 1 then 20 else if alg = 2 then 16 else 0
def errF (alg : Int) : Int := if alg = 1 then 0 else if alg = 2 then 0 else 2

theorem spmSize (H : List SO) (alg : Int) : Spec Try.prog 20 [.int .i64 alg] H fun v hs => v = .tup [.int .i64 (sizeF alg), .int .i64 (errF alg)] ∧ hs = H := by
  refine spec_h okmSize rfl (of_ble rfl) fun C hP hf hQ hn hw hbd => ?_
  apply vc_ok 100
  simp only [FS.start, cmSize, paramsE, go_sem, reduceCtorEq, Nat.reduceLT, ↓reduceIte]
  refine ok_in hP 100 rfl (call_ev rfl rfl rfl) okmOfI rfl (of_ble rfl) ?_
  simp only [FS.start, cmOfI, paramsE, go_sem, Nat.reduceLT, ↓reduceIte]
  refine ok_ch hP 100 (spmWays H) okmWays rfl rfl fun v hs' hq => ?_
  obtain ⟨rfl, rfl⟩ := hq
  by_cases h1 : alg = 1
  · subst h1
    simp only [waysC, wayA, wayB, go_sem, reduceCtorEq, Nat.reduceEqDiff, Nat.reduceLT, Nat.reduceAdd, Nat.reduceSub, ↓reduceIte, Int.reduceBEq]
    refine ok_ch hP 100 (spmSizeC _ _ _ _ ⟨_, rfl⟩ ⟨_, rfl⟩) okmSizeC rfl rfl fun v hs' hq => ?_
    obtain ⟨rfl, rfl⟩ := hq
    simp only [go_sem, Nat.reduceEqDiff, Nat.reduceLT, ↓reduceIte]
    exact fin0 hf hQ hw rfl ⟨rfl, rfl⟩
  by_cases h2 : alg = 2
  · subst h2
    simp only [waysC, wayA, wayB, go_sem, reduceCtorEq, Nat.reduceEqDiff, Nat.reduceLT, Nat.reduceAdd, Nat.reduceSub, ↓reduceIte, Int.reduceBEq]
    refine ok_ch hP 100 (spmSizeC _ _ _ _ ⟨_, rfl⟩ ⟨_, rfl⟩) okmSizeC rfl rfl fun v hs' hq => ?_
    obtain ⟨rfl, rfl⟩ := hq
    simp only [go_sem, Nat.reduceEqDiff, Nat.reduceLT, ↓reduceIte]
    exact fin0 hf hQ hw rfl ⟨rfl, rfl⟩
  have e1 : (alg == 1) = false := by simpa using h1
  have e2 : (alg == 2) = false := by simpa using h2
  simp only [waysC, wayA, wayB, e1, e2, go_sem, reduceCtorEq, Nat.reduceEqDiff, Nat.reduceLT, Nat.reduceAdd, Nat.reduceSub, ↓reduceIte]
  exact fin0 hf hQ hw rfl ⟨by simp [sizeF, errF, h1, h2], rfl⟩

def sameS (a b : List Int) (i : Nat) (s : Int) : Int := bw .or .u8 s (bw .xor .u8 (a.getD i 0) (b.getD i 0))
/-- Are two tags the same, as it is gone through. -/
def sameF (a b : List Int) : Bool := it (sameS a b) 12 0 == 0

theorem spmSameC (H : List SO) (L0 L1 L2 i : Nat) (a b : List Int) (s : Int) (t0 t1 t2 : Nat) (hi : i < 12) (h0 : H[L0]? = some (.cells [.int .u8 s] t0 0 0)) (h1 : H[L1]? = some (.cells [.run .u8 12 a] t1 0 0)) (h2 : H[L2]? = some (.cells [.run .u8 12 b] t2 0 0))
    (n1 : L0 ≠ L1) (n2 : L0 ≠ L2) : Spec Try.prog 21 [.int .i64 i, .ptr L0 0, .ptr L1 0, .ptr L2 0] H fun v hs => v = .tup [] ∧ hs = H.set L0 (.cells [.int .u8 (sameS a b i s)] t0 0 0) := by
  have lt := lt_of_at h0
  refine spec_h okmSameC rfl (of_ble rfl) fun C hP hf hQ hn hw hbd => ?_
  apply vc_ok 100
  simp only [FS.start, cmSameC, paramsE, h0, h1, h2, hi, go_sem, reduceCtorEq, Nat.reduceEqDiff, Nat.reduceLT, Nat.reduceAdd, Nat.reduceBEq, ↓reduceIte]
  refine ⟨⟨by omega, by omega⟩, ⟨by omega, by omega⟩, hf.symm, ?_⟩
  rw [hQ]
  refine gq_set0 hw lt (fun u hu hut => ?_) (hx_eq lt) rfl rfl ⟨rfl, rfl⟩
  rw [hx_ne (fun h => hut h.symm)]

theorem spmSame (H : List SO) (a b : List Int) : Spec Try.prog 7 [.agg [.run .u8 12 a], .agg [.run .u8 12 b]] H fun v hs => v = .bool (sameF a b) ∧ hs = H := by
  refine spec_h okmSame rfl (of_ble rfl) fun C hP hf hQ hn hw hbd => ?_
  apply vc_ok 100
  simp only [FS.start, cmSame, paramsE, go_sem, reduceCtorEq, Nat.reduceEqDiff, Nat.reduceLT, Nat.reduceAdd, ↓reduceIte]
  refine ok_less (env' := [(9, .int .i64 (0 : Nat)), (6, .fn 21 [.ptr (H.length + 2) 0, .ptr H.length 0, .ptr (H.length + 1) 0]), (5, .ptr (H.length + 2) 0)]) ?_ (by simp only [envSub, go_sem, Nat.reduceEqDiff, ↓reduceIte] <;> rfl)
  refine up (p := fun i => Ok C [⟨7, none, 18, [.t 4], [(9, .int .i64 i), (6, .fn 21 [.ptr (H.length + 2) 0, .ptr H.length 0, .ptr (H.length + 1) 0]), (5, .ptr (H.length + 2) 0)], [.c lmSamen0, .lp lmSamen0, .blk 0, .c tmSamen1], []⟩]
    (H ++ [.cells [.run .u8 12 a] 22 0 0, .cells [.run .u8 12 b] 22 0 0, .cells [.int .u8 (it (sameS a b) i 0)] 5 0 0])) 12 ?_ ?_
  · intro i hi ih
    have h1 : decide ((i : Int) < 12) = true := by simp; omega
    refine ok_head lmSamen0.eq_1 (vc_ok 100 _ _ ?_)
    simp only [h1, go_sem, Nat.reduceEqDiff, Nat.reduceLT, ↓reduceIte]
    refine ok_ch hP 100 (spmSameC _ (H.length + 2) H.length (H.length + 1) i a b _ _ _ _ hi (get_app _ _ _) (get_app0 _ _) (get_app _ _ _) (by omega) (by omega)) okmSameC rfl (call_ev rfl rfl rfl) fun v hs' hq => ?_
    obtain ⟨rfl, rfl⟩ := hq
    simp only [go_sem, Nat.reduceEqDiff, Nat.reduceLT, ↓reduceIte]
    refine ok_less ih ?_
    simp only [envSub, w64s (show i + 1 < 9223372036854775808 by omega), go_sem, Nat.reduceEqDiff, ↓reduceIte]
  · have h1 : decide (((12 : Nat) : Int) < 12) = false := by simp
    refine ok_head lmSamen0.eq_1 (vc_ok 100 _ _ ?_)
    simp only [hd tmSamen1.eq_1, go_sem, Nat.reduceEqDiff, Nat.reduceLT, Int.reduceLT, ↓reduceIte]
    exact fin0 hf hQ hw rfl ⟨rfl, rfl⟩

/-- A way's tag, out of a function that keeps its contract. -/
theorem spmTagC (H : List SO) (L0 L1 : Nat) (x p : SV) (key : List Int) (s : ByteArray) (n : Nat) (g : Nat) {cg : FnC} (okg : FnOk Try.prog g cg) (t0 t1 : Nat) (d : List Int) (hd : d.length = 12) (h0 : H[L0]? = some (.cells [x] t0 0 0)) (h1 : H[L1]? = some (.cells [p] t1 0 0)) (hx : Byt H x key) (hp : Opq p)
    (hg : key.length = n → ∀ l, Spec Try.prog g [x, p] (H ++ l) fun v hs => v = .tup [.agg [.run .u8 12 d], .int .i64 0] ∧ hs = H ++ l) :
    Spec Try.prog 37 [.agg [.str s, .int .i64 n, .fn g []], .ptr L0 0, .ptr L1 0] H fun v hs => v = .tup [.agg [.run .u8 12 (if key.length = n then d else List.replicate 12 0)], .int .i64 (if key.length = n then 0 else 2)] ∧ hs = H := by
  obtain ⟨x1, x2, x3, x4⟩ := hx.facts
  obtain ⟨p1, p2, p3, p4⟩ := hp
  have hlen := hx.len
  have l0 := lt_of_at h0
  have l1 := lt_of_at h1
  refine spec_h okmTagC rfl (of_ble rfl) fun C hP hf hQ hn hw hbd => ?_
  apply vc_ok 100
  by_cases hk : key.length = n
  · have e : ((key.length : Int) != (n : Int)) = false := by simp; omega
    simp only [FS.start, cmTagC, paramsE, x1, x3, p1, p3, h0, h1, l0, l1, hlen, e, hx_old, hx_new0, eq_self, go_sem, reduceCtorEq, Nat.reduceEqDiff, Nat.reduceLT, Nat.reduceAdd, ↓reduceIte]
    refine ok_ch hP 100 (hg hk _) okg rfl (call_ev rfl rfl (by simp only [x1, p1, go_sem])) fun v hs' hq => ?_
    obtain ⟨rfl, rfl⟩ := hq
    simp only [go_sem, Nat.reduceEqDiff, Nat.reduceLT, ↓reduceIte]
    refine fin0 hf hQ hw rfl ⟨?_, rfl⟩
    simp only [hk, if_true]
  · have e : ((key.length : Int) != (n : Int)) = true := by simp; omega
    simp only [FS.start, cmTagC, paramsE, x3, h0, l0, hlen, e, hx_old, hx_new, hx_new0, hx_snew, eq_self, go_sem, reduceCtorEq, Nat.reduceEqDiff, Nat.reduceLT, Nat.reduceAdd, ↓reduceIte]
    refine fin0 hf hQ hw rfl ⟨?_, rfl⟩
    simp only [hk, if_false]

/-- The tag of a way that may be none, and the error. -/
def tagF (alg : Int) (key : List Int) (dh dc : List Int) : List Int := if alg = 1 then (if key.length = 20 then dh else List.replicate 12 0) else if alg = 2 then (if key.length = 16 then dc else List.replicate 12 0) else List.replicate 12 0
def tagE (alg : Int) (key : List Int) : Int := if alg = 1 then (if key.length = 20 then 0 else 2) else if alg = 2 then (if key.length = 16 then 0 else 2) else 2

theorem spmTag (H : List SO) (alg : Int) (x p : SV) (key dh dc : List Int) {cg : FnC} (okg : FnOk Try.prog 55 cg) (hdh : dh.length = 12) (hdc : dc.length = 12) (hx : Byt H x key) (hp : Opq p)
    (hh : alg = 1 → key.length = 20 → ∀ l, Spec Try.prog 54 [x, p] (H ++ l) fun v hs => v = .tup [.agg [.run .u8 12 dh], .int .i64 0] ∧ hs = H ++ l)
    (hc : alg = 2 → key.length = 16 → ∀ l, Spec Try.prog 55 [x, p] (H ++ l) fun v hs => v = .tup [.agg [.run .u8 12 dc], .int .i64 0] ∧ hs = H ++ l) :
    Spec Try.prog 22 [.int .i64 alg, x, p] H fun v hs => v = .tup [.agg [.run .u8 12 (tagF alg key dh dc)], .int .i64 (tagE alg key)] ∧ hs = H := by
  obtain ⟨x1, x2, x3, x4⟩ := hx.facts
  obtain ⟨p1, p2, p3, p4⟩ := hp
  refine spec_h okmTag (by simp only [x1, p1, go_sem]) (of_ble rfl) fun C hP hf hQ hn hw hbd => ?_
  apply vc_ok 100
  simp only [FS.start, cmTag, paramsE, x2, x4, p2, p4, go_sem, reduceCtorEq, Nat.reduceEqDiff, Nat.reduceLT, Nat.reduceAdd, ↓reduceIte]
  refine ok_in hP 100 rfl (call_ev rfl rfl rfl) okmOfT rfl (of_ble rfl) ?_
  simp only [FS.start, cmOfT, paramsE, go_sem, Nat.reduceLT, Nat.reduceAdd, ↓reduceIte]
  refine ok_ch hP 100 (spmWays _) okmWays rfl rfl fun v hs' hq => ?_
  obtain ⟨rfl, rfl⟩ := hq
  by_cases h1 : alg = 1
  · subst h1
    simp only [waysC, wayA, wayB, go_sem, reduceCtorEq, Nat.reduceEqDiff, Nat.reduceLT, Nat.reduceAdd, Nat.reduceSub, ↓reduceIte, Int.reduceBEq]
    refine ok_ch hP 100 (spmTagC _ H.length (H.length + 1) x p key _ 20 54 okhShort _ _ dh hdh (get_app0 _ _) (get_app _ _ _) (hx.app _) ⟨p1, p2, p3, p4⟩ (fun h l => by rw [List.append_assoc]; exact hh rfl h _)) okmTagC rfl (call_ev rfl rfl rfl) fun v hs' hq => ?_
    obtain ⟨rfl, rfl⟩ := hq
    simp only [go_sem, Nat.reduceEqDiff, Nat.reduceLT, ↓reduceIte]
    refine fin0 hf hQ hw rfl ⟨?_, rfl⟩
    simp only [tagF, tagE, if_true]
  by_cases h2 : alg = 2
  · subst h2
    simp only [waysC, wayA, wayB, go_sem, reduceCtorEq, Nat.reduceEqDiff, Nat.reduceLT, Nat.reduceAdd, Nat.reduceSub, ↓reduceIte, Int.reduceBEq]
    refine ok_ch hP 100 (spmTagC _ H.length (H.length + 1) x p key _ 16 55 okg _ _ dc hdc (get_app0 _ _) (get_app _ _ _) (hx.app _) ⟨p1, p2, p3, p4⟩ (fun h l => by rw [List.append_assoc]; exact hc rfl h _)) okmTagC rfl (call_ev rfl rfl rfl) fun v hs' hq => ?_
    obtain ⟨rfl, rfl⟩ := hq
    simp only [go_sem, Nat.reduceEqDiff, Nat.reduceLT, ↓reduceIte]
    refine fin0 hf hQ hw rfl ⟨?_, rfl⟩
    simp [tagF, tagE]
  have e1 : (alg == 1) = false := by simpa using h1
  have e2 : (alg == 2) = false := by simpa using h2
  simp only [waysC, wayA, wayB, e1, e2, go_sem, reduceCtorEq, Nat.reduceEqDiff, Nat.reduceLT, Nat.reduceAdd, Nat.reduceSub, ↓reduceIte]
  refine fin0 hf hQ hw rfl ⟨?_, rfl⟩
  simp only [tagF, tagE, h1, h2, if_false]

theorem spmCheck (H : List SO) (alg : Int) (x p : SV) (key dh dc tg : List Int) {cg : FnC} (okg : FnOk Try.prog 55 cg) (hdh : dh.length = 12) (hdc : dc.length = 12) (hx : Byt H x key) (hp : Opq p)
    (hh : alg = 1 → key.length = 20 → ∀ l, Spec Try.prog 54 [x, p] (H ++ l) fun v hs => v = .tup [.agg [.run .u8 12 dh], .int .i64 0] ∧ hs = H ++ l)
    (hc : alg = 2 → key.length = 16 → ∀ l, Spec Try.prog 55 [x, p] (H ++ l) fun v hs => v = .tup [.agg [.run .u8 12 dc], .int .i64 0] ∧ hs = H ++ l) :
    Spec Try.prog 23 [.int .i64 alg, x, .agg [.run .u8 12 tg], p] H fun v hs => v = .tup [.bool (tagE alg key == 0 && sameF (tagF alg key dh dc) tg), .int .i64 (tagE alg key)] ∧ hs = H := by
  obtain ⟨x1, x2, x3, x4⟩ := hx.facts
  have hp' := hp
  obtain ⟨p1, p2, p3, p4⟩ := hp
  refine spec_h okmCheck (by simp only [x1, p1, go_sem]) (of_ble rfl) fun C hP hf hQ hn hw hbd => ?_
  apply vc_ok 100
  simp only [FS.start, cmCheck, paramsE, x1, p1, go_sem, reduceCtorEq, Nat.reduceEqDiff, Nat.reduceLT, Nat.reduceAdd, ↓reduceIte]
  refine ok_ch hP 100 (spmTag _ alg x p key dh dc okg hdh hdc (hx.app _) hp' (fun h1 h l => by rw [List.append_assoc]; exact hh h1 h _) (fun h1 h l => by rw [List.append_assoc]; exact hc h1 h _)) okmTag rfl (call_ev rfl rfl (by simp only [x1, p1, go_sem])) fun v hs' hq => ?_
  obtain ⟨rfl, rfl⟩ := hq
  by_cases h0 : tagE alg key = 0
  · have e : (tagE alg key == 0) = true := by simpa using h0
    simp only [e, go_sem, Nat.reduceEqDiff, Nat.reduceLT, ↓reduceIte]
    refine ok_ch hP 100 (spmSame _ _ _) okmSame rfl rfl fun v hs' hq => ?_
    obtain ⟨rfl, rfl⟩ := hq
    simp only [go_sem, Nat.reduceEqDiff, Nat.reduceLT, ↓reduceIte]
    exact fin0 hf hQ hw rfl ⟨by rw [e]; rfl, rfl⟩
  · have e : (tagE alg key == 0) = false := by simpa using h0
    simp only [e, go_sem, Nat.reduceEqDiff, Nat.reduceLT, ↓reduceIte]
    exact fin0 hf hQ hw rfl ⟨by rw [e]; rfl, rfl⟩
#print axioms spmCheck
end Go.Pv
