/- kdf: numbers as bytes. -/
import Derived.Test.YtifoaokodgbhjaaSt
namespace Go.Pv
open Go Go.Proofs
def cBackward : FnC := ⟨4, [(.t 2)], (.seq (.reg [(.mk (some 1) none (.bx 27 (.t 0))), (.mk (some 2) none (.mv (.c .nilf)))]) (.seq (.reg [(.mk (some 3) none (.mkf 53 [(.t 1)])), (.mk (some 2) none (.mv (.t 3)))]) .ret))⟩
theorem okBackward : FnOk Try.prog 43 cBackward := fnOk_mk Try.f43 (by kernel_rfl) (by kernel_rfl) (by kernel_rfl) (by kernel_rfl) (by kernel_rfl)
def lBackwardCn0 : IC := (.seq (.seq (.reg [(.mk (some 7) none (.mv (.t 3))), (.mk (some 8) none (.bin .geq (.t 7) (.c (.int .i64 0))))]) (.cond (.t 8) .skip (.exit 0))) (.seq (.block 1 (.seq (.reg [(.mk (some 11) none (.mv (.t 0))), (.mk (some 12) none (.mv (.t 3))), (.mk (some 13) none (.ld (.t 1))), (.mk (some 14) none (.mv (.t 3))), (.mk (some 15) none (.ias 1 (.t 13) (.t 14))), (.mk (some 16) none (.ld (.t 15))), (.mk (some 17) none (.call (.t 11) [(.t 12), (.t 16)])), (.mk (some 18) none (.un .not (.t 17)))]) (.cond (.t 18) .ret .skip))) (.reg [(.mk (some 9) none (.mv (.t 3))), (.mk (some 10) none (.bin .sub (.t 9) (.c (.int .i64 1)))), (.mk (some 3) none (.mv (.t 10)))])))
def cBackwardC : FnC := ⟨19, [], (.seq (.reg [(.mk (some 4) none (.ld (.t 1))), (.mk (some 5) none (.len (.t 4))), (.mk (some 6) none (.bin .sub (.t 5) (.c (.int .i64 1)))), (.mk (some 3) none (.mv (.t 6)))]) (.block 0 (.loop lBackwardCn0)))⟩
theorem okBackwardC : FnOk Try.prog 53 cBackwardC := fnOk_mk Try.f53 (by kernel_rfl) (by kernel_rfl) (by kernel_rfl) (by kernel_rfl) (by kernel_rfl)
def akHighBn0 : IC := (.reg [(.mk (some 6) none (.mv (.t 11)))])
def bkHighBn1 : IC := (.block 1 (.seq (.reg [(.mk (some 13) none (.ld (.t 5))), (.mk (some 14) none (.mv (.t 6))), (.mk (some 15) none (.ld (.t 2))), (.mk (some 16) none (.cvi .u8 (.t 15))), (.mk (some 17) none (.ias 1 (.t 13) (.t 14))), (.mk none none (.st (.t 17) (.t 16)))]) (.reg [(.mk (some 18) none (.ld (.t 2))), (.mk (some 19) none (.cvi .u64 (.t 18))), (.mk (some 20) none (.bin .shr (.t 19) (.c (.int .u64 8)))), (.mk (some 21) none (.cvi .u16 (.t 20))), (.mk none none (.st (.t 2) (.t 21)))])))
def tkHighBn2 : IC := (.seq (.reg [(.mk (some 22) none (.ld (.t 5))), (.mk (some 4) none (.mv (.t 22)))]) .ret)
def ckHighB : FnC := ⟨23, [(.t 4)], (.seq (.reg [(.mk (some 2) none (.bx 28 (.t 0))), (.mk (some 4) none (.mv (.c .nils)))]) (.seq (.reg [(.mk (some 7) none (.mv (.t 1))), (.mk (some 8) none (.mks 5 1 1 [(.int .u8 0)] (.t 7) (.t 7))), (.mk (some 5) none (.al 27 [.nils])), (.mk none none (.st (.t 5) (.t 8)))]) (.seq (.seq (.reg [(.mk (some 9) none (.ld (.t 5))), (.mk (some 10) none (.call (.c (.fn 43 [])) [(.t 9)]))]) (.block 0 (.rf (.t 10) [11, 12] akHighBn0 bkHighBn1))) tkHighBn2)))⟩
theorem okkHighB : FnOk Try.prog 28 ckHighB := fnOk_mk Try.f28 (by kernel_rfl) (by kernel_rfl) (by kernel_rfl) (by kernel_rfl) (by kernel_rfl)
def akHighDn0 : IC := (.reg [(.mk (some 6) none (.mv (.t 11)))])
def bkHighDn1 : IC := (.block 1 (.seq (.reg [(.mk (some 13) none (.ld (.t 5))), (.mk (some 14) none (.mv (.t 6))), (.mk (some 15) none (.ld (.t 2))), (.mk (some 16) none (.cvi .u8 (.t 15))), (.mk (some 17) none (.ias 1 (.t 13) (.t 14))), (.mk none none (.st (.t 17) (.t 16)))]) (.reg [(.mk (some 18) none (.ld (.t 2))), (.mk (some 19) none (.cvi .u64 (.t 18))), (.mk (some 20) none (.bin .shr (.t 19) (.c (.int .u64 8)))), (.mk (some 21) none (.cvi .u32 (.t 20))), (.mk none none (.st (.t 2) (.t 21)))])))
def tkHighDn2 : IC := (.seq (.reg [(.mk (some 22) none (.ld (.t 5))), (.mk (some 4) none (.mv (.t 22)))]) .ret)
def ckHighD : FnC := ⟨23, [(.t 4)], (.seq (.reg [(.mk (some 2) none (.bx 36 (.t 0))), (.mk (some 4) none (.mv (.c .nils)))]) (.seq (.reg [(.mk (some 7) none (.mv (.t 1))), (.mk (some 8) none (.mks 5 1 1 [(.int .u8 0)] (.t 7) (.t 7))), (.mk (some 5) none (.al 27 [.nils])), (.mk none none (.st (.t 5) (.t 8)))]) (.seq (.seq (.reg [(.mk (some 9) none (.ld (.t 5))), (.mk (some 10) none (.call (.c (.fn 43 [])) [(.t 9)]))]) (.block 0 (.rf (.t 10) [11, 12] akHighDn0 bkHighDn1))) tkHighDn2)))⟩
theorem okkHighD : FnOk Try.prog 30 ckHighD := fnOk_mk Try.f30 (by kernel_rfl) (by kernel_rfl) (by kernel_rfl) (by kernel_rfl) (by kernel_rfl)


theorem spBackward (H : List SO) (t n : Nat) : Spec Try.prog 43 [.sl t 0 n n] H fun v hs => v = .fn 53 [.ptr H.length 0] ∧ hs = H ++ [.cells [.sl t 0 n n] 27 0 0] := by
  refine spec_of_ok okBackward rfl (of_ble rfl) fun C hP hf hQ hn => ?_
  apply vc_ok 100
  simp only [FS.start, cBackward, paramsE, go_sem, Nat.reduceEqDiff, Nat.reduceLT, ↓reduceIte]
  exact ⟨hf.symm, by rw [hQ]; exact ⟨rfl, rfl⟩⟩

def nextU (k : IntKind) (n : Int) : Int := k.wrap ((IntKind.u64.wrap n).fdiv (2 ^ min 8 64))
def highB (n : Int) : List Int := [IntKind.u8.wrap (nextU .u16 n), IntKind.u8.wrap n]
def highD (n : Int) : List Int := [IntKind.u8.wrap (nextU .u32 (nextU .u32 (nextU .u32 n))), IntKind.u8.wrap (nextU .u32 (nextU .u32 n)), IntKind.u8.wrap (nextU .u32 n), IntKind.u8.wrap n]

theorem spkHighB (H : List SO) (n : Int) : Spec Try.prog 28 [.int .u16 n, .int .i64 2] H fun v hs => v = .sl H.length 0 2 2 ∧ hs = H ++ [.cells [.run .u8 2 (highB n)] 5 0 0] := by
  refine spec_h okkHighB rfl (of_ble rfl) fun C hP hf hQ h0 hw hbd => ?_
  have w2 : IntKind.i64.wrap (2 - 1) = 1 := rfl
  have w1 : IntKind.i64.wrap (1 - 1) = 0 := rfl
  have w0 : IntKind.i64.wrap (0 - 1) = -1 := rfl
  apply vc_ok 100
  simp only [FS.start, ckHighB, paramsE, go_sem, reduceCtorEq, Nat.reduceEqDiff, Nat.reduceLT, Nat.reduceAdd, Int.reduceToNat, Int.reduceLE, ↓reduceIte]
  refine ⟨⟨by decide, by decide⟩, ?_⟩
  refine ok_ch hP 100 (spBackward _ (H.length + 1) 2) okBackward rfl rfl fun v hs' hq => ?_
  obtain ⟨rfl, rfl⟩ := hq
  simp only [go_sem, Nat.reduceLT, Nat.reduceAdd]
  refine ok_range hP 100 rfl okBackwardC (by rfl) (by exact of_ble rfl) ?_
  simp only [FS.start, cBackwardC, paramsE, go_sem, reduceCtorEq, Nat.reduceLT, Nat.reduceAdd, ↓reduceIte]
  refine ok_head lBackwardCn0.eq_1 (vc_ok 100 _ _ ?_)
  simp only [hd akHighBn0.eq_1, hd bkHighBn1.eq_1, w2, w1, hx_new, hx_new0, hx_snew, hx_snew0, eq_self, go_sem, reduceCtorEq, Nat.reduceEqDiff, Nat.reduceLT, Int.reduceToNat, Int.reduceLT, Int.reduceLE, ↓reduceIte]
  refine ok_head lBackwardCn0.eq_1 (vc_ok 100 _ _ ?_)
  simp only [hd akHighBn0.eq_1, hd bkHighBn1.eq_1, w0, hx_new, hx_new0, hx_snew, hx_snew0, eq_self, go_sem, reduceCtorEq, Nat.reduceEqDiff, Nat.reduceLT, Int.reduceToNat, Int.reduceLT, Int.reduceLE, ↓reduceIte]
  refine ok_head lBackwardCn0.eq_1 (vc_ok 100 _ _ ?_)
  simp only [hd tkHighBn2.eq_1, hx_new, hx_snew, eq_self, go_sem, Nat.reduceEqDiff, Nat.reduceLT, Int.reduceLE, ↓reduceIte]
  refine ⟨hf.symm, ?_⟩
  rw [hQ]
  exact gq1 (j := 1) hw rfl rfl (fun σ => rfl) rfl ⟨rfl, rfl⟩

theorem spkHighD (H : List SO) (n : Int) : Spec Try.prog 30 [.int .u32 n, .int .i64 4] H fun v hs => v = .sl H.length 0 4 4 ∧ hs = H ++ [.cells [.run .u8 4 (highD n)] 5 0 0] := by
  refine spec_h okkHighD rfl (of_ble rfl) fun C hP hf hQ h0 hw hbd => ?_
  have w4 : IntKind.i64.wrap (4 - 1) = 3 := rfl
  have w3 : IntKind.i64.wrap (3 - 1) = 2 := rfl
  have w2 : IntKind.i64.wrap (2 - 1) = 1 := rfl
  have w1 : IntKind.i64.wrap (1 - 1) = 0 := rfl
  have w0 : IntKind.i64.wrap (0 - 1) = -1 := rfl
  apply vc_ok 100
  simp only [FS.start, ckHighD, paramsE, go_sem, reduceCtorEq, Nat.reduceEqDiff, Nat.reduceLT, Nat.reduceAdd, Int.reduceToNat, Int.reduceLE, ↓reduceIte]
  refine ⟨⟨by decide, by decide⟩, ?_⟩
  refine ok_ch hP 100 (spBackward _ (H.length + 1) 4) okBackward rfl rfl fun v hs' hq => ?_
  obtain ⟨rfl, rfl⟩ := hq
  simp only [go_sem, Nat.reduceLT, Nat.reduceAdd]
  refine ok_range hP 100 rfl okBackwardC (by rfl) (by exact of_ble rfl) ?_
  simp only [FS.start, cBackwardC, paramsE, go_sem, reduceCtorEq, Nat.reduceLT, Nat.reduceAdd, ↓reduceIte]
  refine ok_head lBackwardCn0.eq_1 (vc_ok 100 _ _ ?_)
  simp only [hd akHighDn0.eq_1, hd bkHighDn1.eq_1, w4, w3, hx_new, hx_new0, hx_snew, hx_snew0, eq_self, go_sem, reduceCtorEq, Nat.reduceEqDiff, Nat.reduceLT, Int.reduceToNat, Int.reduceLT, Int.reduceLE, ↓reduceIte]
  refine ok_head lBackwardCn0.eq_1 (vc_ok 100 _ _ ?_)
  simp only [hd akHighDn0.eq_1, hd bkHighDn1.eq_1, w2, hx_new, hx_new0, hx_snew, hx_snew0, eq_self, go_sem, reduceCtorEq, Nat.reduceEqDiff, Nat.reduceLT, Int.reduceToNat, Int.reduceLT, Int.reduceLE, ↓reduceIte]
  refine ok_head lBackwardCn0.eq_1 (vc_ok 100 _ _ ?_)
  simp only [hd akHighDn0.eq_1, hd bkHighDn1.eq_1, w1, hx_new, hx_new0, hx_snew, hx_snew0, eq_self, go_sem, reduceCtorEq, Nat.reduceEqDiff, Nat.reduceLT, Int.reduceToNat, Int.reduceLT, Int.reduceLE, ↓reduceIte]
  refine ok_head lBackwardCn0.eq_1 (vc_ok 100 _ _ ?_)
  simp only [hd akHighDn0.eq_1, hd bkHighDn1.eq_1, w0, hx_new, hx_new0, hx_snew, hx_snew0, eq_self, go_sem, reduceCtorEq, Nat.reduceEqDiff, Nat.reduceLT, Int.reduceToNat, Int.reduceLT, Int.reduceLE, ↓reduceIte]
  refine ok_head lBackwardCn0.eq_1 (vc_ok 100 _ _ ?_)
  simp only [hd tkHighDn2.eq_1, hx_new, hx_snew, eq_self, go_sem, Nat.reduceEqDiff, Nat.reduceLT, Int.reduceLE, ↓reduceIte]
  refine ⟨hf.symm, ?_⟩
  rw [hQ]
  exact gq1 (j := 1) hw rfl rfl (fun σ => rfl) rfl ⟨rfl, rfl⟩
end Go.Pv
