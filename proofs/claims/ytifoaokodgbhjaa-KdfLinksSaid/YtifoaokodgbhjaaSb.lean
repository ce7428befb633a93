/- sha1.Block: the state behind a block. -/
import Derived.Test.YtifoaokodgbhjaaSa
namespace Go.Pv
open Go Go.Proofs
def lsBlockn0 : IC := (.seq (.reg [(.mk (some 15) none (.bin .lss (.t 14) (.c (.int .i64 16))))]) (.seq (.cond (.t 15) .skip (.exit 0)) (.seq (.block 1 (.seq (.reg [(.mk (some 16) none (.mv (.t 14))), (.mk (some 6) none (.mv (.t 16)))]) (.reg [(.mk (some 17) none (.mv (.t 6))), (.mk (some 18) none (.mv (.t 6))), (.mk (some 19) none (.bin .mul (.c (.int .i64 4)) (.t 18))), (.mk (some 20) none (.sla 64 1 (.t 3) (some (.t 19)) none)), (.mk (some 21) none (.call (.c (.fn 95 [])) [(.t 20)])), (.mk (some 22) none (.iaa 80 1 (.t 5) (.t 17))), (.mk none none (.st (.t 22) (.t 21)))]))) (.reg [(.mk (some 23) none (.bin .add (.t 14) (.c (.int .i64 1)))), (.mk (some 14) none (.mv (.t 23)))]))))
def dsBlockn1 : DT := (.one 21 (.mk (some 49) none (.iaa 80 1 (.t 5) (.t 28))) [] (.one 22 (.mk none none (.st (.t 49) (.t 48))) [21, 20, 0, 1, 2, 3, 4, 5, 6, 7, 8, 9, 10, 11, 12, 13, 14, 15, 16, 17, 18, 19] .fin))
def lsBlockn2 : IC := (.seq (.seq (.reg [(.mk (some 24) none (.mv (.t 7))), (.mk (some 25) none (.bin .lss (.t 24) (.c (.int .i64 80))))]) (.cond (.t 25) .skip (.exit 2))) (.seq (.block 3 (.dreg (.tk 0 (.mk (some 28) none (.mv (.t 7))) (.tk 1 (.mk (some 29) none (.mv (.t 7))) (.tk 2 (.mk (some 30) none (.bin .sub (.t 29) (.c (.int .i64 3)))) (.tk 3 (.mk (some 31) none (.iaa 80 1 (.t 5) (.t 30))) (.tk 4 (.mk (some 32) none (.ld (.t 31))) (.tk 5 (.mk (some 33) none (.mv (.t 7))) (.tk 6 (.mk (some 34) none (.bin .sub (.t 33) (.c (.int .i64 8)))) (.tk 7 (.mk (some 35) none (.iaa 80 1 (.t 5) (.t 34))) (.tk 8 (.mk (some 36) none (.ld (.t 35))) (.tk 9 (.mk (some 37) none (.bin .xor (.t 32) (.t 36))) (.tk 10 (.mk (some 38) none (.mv (.t 7))) (.tk 11 (.mk (some 39) none (.bin .sub (.t 38) (.c (.int .i64 14)))) (.tk 12 (.mk (some 40) none (.iaa 80 1 (.t 5) (.t 39))) (.tk 13 (.mk (some 41) none (.ld (.t 40))) (.tk 14 (.mk (some 42) none (.bin .xor (.t 37) (.t 41))) (.one 15 (.mk (some 43) none (.mv (.t 7))) [] (.one 16 (.mk (some 44) none (.bin .sub (.t 43) (.c (.int .i64 16)))) [] (.one 17 (.mk (some 45) none (.iaa 80 1 (.t 5) (.t 44))) [] (.one 18 (.mk (some 46) none (.ld (.t 45))) [] (.one 19 (.mk (some 47) none (.bin .xor (.t 42) (.t 46))) [] (.one 20 (.mk (some 48) none (.call (.c (.fn 96 [])) [(.t 47), (.c (.int .i64 1))])) [19, 14, 18, 9, 13, 17, 4, 8, 12, 16, 3, 7, 11, 15, 2, 6, 10, 1, 5] dsBlockn1))))))))))))))))))))))) (.reg [(.mk (some 26) none (.mv (.t 7))), (.mk (some 27) none (.bin .add (.t 26) (.c (.int .i64 1)))), (.mk (some 7) none (.mv (.t 27)))])))
def dsBlockn4 : DT := (.one 12 (.mk (some 75) none (.bin .add (.t 65) (.t 74))) [] (.one 15 (.mk (some 78) none (.bin .add (.t 75) (.t 77))) [] (.one 18 (.mk (some 81) none (.bin .add (.t 78) (.t 80))) [] (.one 22 (.mk (some 85) none (.bin .add (.t 81) (.t 84))) [] (.one 23 (.mk (some 12) none (.mv (.t 85))) [] .fin)))))
def dsBlockn5 : DT := (.one 11 (.mk (some 74) none (.call (.t 67) [(.t 69), (.t 71), (.t 73)])) [4, 6, 8, 10, 2, 3, 5, 7, 9, 1, 0] dsBlockn4)
def dsBlockn6 : DT := (.one 10 (.mk (some 96) none (.bld [(.run .u32 5 [0, 0, 0, 0, 0])] [(0, (1, (.t 86))), (1, (1, (.t 88))), (2, (1, (.t 91))), (3, (1, (.t 93))), (4, (1, (.t 95)))])) [] (.one 11 (.mk none none (.sta (.t 8) (.t 96) 5)) [10, 5, 0, 1, 2, 3, 4, 6, 7, 8, 9] .fin))
def lsBlockn7 : IC := (.seq (.block 7 (.seq (.seq (.reg [(.mk (some 59) none (.mv (.t 9))), (.mk (some 60) none (.fa 0 (.t 11))), (.mk (some 61) none (.ld (.t 60))), (.mk (some 62) none (.bin .geq (.t 59) (.t 61)))]) (.cond (.t 62) (.exit 6) .skip)) (.seq (.dreg (.tk 0 (.mk (some 63) none (.iaa 5 1 (.t 8) (.c (.int .i64 0)))) (.tk 1 (.mk (some 64) none (.ld (.t 63))) (.tk 3 (.mk (some 66) none (.fa 1 (.t 11))) (.tk 4 (.mk (some 67) none (.ld (.t 66))) (.tk 5 (.mk (some 68) none (.iaa 5 1 (.t 8) (.c (.int .i64 1)))) (.tk 6 (.mk (some 69) none (.ld (.t 68))) (.tk 7 (.mk (some 70) none (.iaa 5 1 (.t 8) (.c (.int .i64 2)))) (.tk 8 (.mk (some 71) none (.ld (.t 70))) (.tk 9 (.mk (some 72) none (.iaa 5 1 (.t 8) (.c (.int .i64 3)))) (.tk 10 (.mk (some 73) none (.ld (.t 72))) (.tk 13 (.mk (some 76) none (.iaa 5 1 (.t 8) (.c (.int .i64 4)))) (.tk 14 (.mk (some 77) none (.ld (.t 76))) (.tk 16 (.mk (some 79) none (.fa 2 (.t 11))) (.tk 17 (.mk (some 80) none (.ld (.t 79))) (.tk 19 (.mk (some 82) none (.mv (.t 9))) (.tk 20 (.mk (some 83) none (.iaa 80 1 (.t 5) (.t 82))) (.tk 21 (.mk (some 84) none (.ld (.t 83))) (.one 2 (.mk (some 65) none (.call (.c (.fn 96 [])) [(.t 64), (.c (.int .i64 5))])) [1, 0] dsBlockn5))))))))))))))))))) (.dreg (.tk 0 (.mk (some 86) none (.mv (.t 12))) (.tk 1 (.mk (some 87) none (.iaa 5 1 (.t 8) (.c (.int .i64 0)))) (.tk 2 (.mk (some 88) none (.ld (.t 87))) (.tk 3 (.mk (some 89) none (.iaa 5 1 (.t 8) (.c (.int .i64 1)))) (.tk 4 (.mk (some 90) none (.ld (.t 89))) (.tk 6 (.mk (some 92) none (.iaa 5 1 (.t 8) (.c (.int .i64 2)))) (.tk 7 (.mk (some 93) none (.ld (.t 92))) (.tk 8 (.mk (some 94) none (.iaa 5 1 (.t 8) (.c (.int .i64 3)))) (.tk 9 (.mk (some 95) none (.ld (.t 94))) (.one 5 (.mk (some 91) none (.call (.c (.fn 96 [])) [(.t 90), (.c (.int .i64 30))])) [4, 3] dsBlockn6)))))))))))))) (.reg [(.mk (some 57) none (.mv (.t 9))), (.mk (some 58) none (.bin .add (.t 57) (.c (.int .i64 1)))), (.mk (some 9) none (.mv (.t 58)))]))
def ssBlockn3 : IC := (.seq (.label 0) (.block 6 (.loop lsBlockn7)))
def tsBlockn8 : IC := (.reg [(.mk (some 97) none (.bin .add (.t 53) (.c (.int .i64 1)))), (.mk (some 53) none (.mv (.t 97)))])
def lsBlockn9 : IC := (.seq (.reg [(.mk (some 54) none (.bin .lss (.t 53) (.t 52)))]) (.seq (.cond (.t 54) .skip (.exit 4)) (.seq (.block 5 (.seq (.reg [(.mk (some 55) none (.ias 3 (.t 51) (.t 53))), (.mk (some 56) none (.lda (.t 55) 3)), (.mk (some 11) none (.al 182 [(.int .i64 0), .nilf, (.int .u32 0)])), (.mk none none (.sta (.t 11) (.t 56) 3))]) (.scope ssBlockn3))) tsBlockn8)))
def lsBlockn10 : IC := (.seq (.reg [(.mk (some 99) none (.bin .lss (.t 98) (.c (.int .i64 5))))]) (.seq (.cond (.t 99) .skip (.exit 8)) (.seq (.block 9 (.seq (.reg [(.mk (some 100) none (.mv (.t 98))), (.mk (some 13) none (.mv (.t 100)))]) (.dreg (.tk 0 (.mk (some 101) none (.mv (.t 13))) (.tk 1 (.mk (some 102) none (.iaa 5 1 (.t 8) (.t 101))) (.tk 2 (.mk (some 103) none (.ld (.t 102))) (.one 3 (.mk (some 104) none (.mv (.t 13))) [] (.one 4 (.mk (some 105) none (.iaa 5 1 (.t 2) (.t 104))) [] (.one 5 (.mk (some 106) none (.ld (.t 105))) [] (.one 6 (.mk (some 107) none (.bin .add (.t 103) (.t 106))) [] (.one 7 (.mk (some 108) none (.iaa 5 1 (.t 8) (.t 101))) [] (.one 8 (.mk none none (.st (.t 108) (.t 107))) [7, 6, 0, 1, 2, 3, 4, 5] .fin)))))))))))) (.reg [(.mk (some 109) none (.bin .add (.t 98) (.c (.int .i64 1)))), (.mk (some 98) none (.mv (.t 109)))]))))
def tsBlockn11 : IC := (.seq (.reg [(.mk (some 110) none (.lda (.t 8) 5)), (.mk none none (.sta (.t 4) (.t 110) 5))]) .ret)
def tsBlockn12 : IC := (.seq (.seq (.reg [(.mk (some 98) none (.mv (.c (.int .i64 0))))]) (.block 8 (.loop lsBlockn10))) tsBlockn11)
def tsBlockn13 : IC := (.seq (.reg [(.mk (some 50) none (.lda (.t 2) 5)), (.mk (some 8) none (.al 153 [(.run .u32 5 [0, 0, 0, 0, 0])])), (.mk none none (.sta (.t 8) (.t 50) 5)), (.mk (some 9) none (.mv (.c (.int .i64 0))))]) (.seq (.seq (.reg [(.mk (some 51) none (.call (.c (.fn 97 [])) [])), (.mk (some 52) none (.len (.t 51))), (.mk (some 53) none (.mv (.c (.int .i64 0))))]) (.block 4 (.loop lsBlockn9))) tsBlockn12))
def tsBlockn14 : IC := (.seq (.seq (.reg [(.mk (some 7) none (.mv (.c (.int .i64 16))))]) (.block 2 (.loop lsBlockn2))) tsBlockn13)
def csBlock : FnC := ⟨111, [(.a 4 5)], (.seq (.reg [(.mk (some 2) none (.bx 153 (.t 0))), (.mk (some 3) none (.bx 132 (.t 1))), (.mk (some 4) none (.al 153 [(.run .u32 5 [0, 0, 0, 0, 0])]))]) (.seq (.reg [(.mk (some 5) none (.al 175 [(.run .u32 80 (List.replicate 80 0))]))]) (.seq (.seq (.reg [(.mk (some 14) none (.mv (.c (.int .i64 0))))]) (.block 0 (.loop lsBlockn0))) tsBlockn14)))⟩
theorem oksBlock : FnOk Try.prog 83 csBlock := fnOk_mk Try.f83 (by kernel_rfl) (by kernel_rfl) (by kernel_rfl) (by kernel_rfl) (by kernel_rfl)


def w1S (b : List Int) (i : Nat) (w : List Int) : List Int := w.set i (wordF b (4 * i))
def w1F (b : List Int) : List Int := it (w1S b) 16 (List.replicate 80 0)

theorem lpsBlocka {C : Ctx} (hP : C.P = Try.prog) {r : List FS} (st b : List Int)
    (K : Ok C (⟨83, none, 111, [.a 4 5], [(5, .ptr 3 0), (4, .ptr 2 0), (3, .ptr 1 0), (2, .ptr 0 0)], [.c tsBlockn14], []⟩ :: r)
      [.cells [.run .u32 5 st] 153 0 0, .cells [.run .u8 64 b] 132 0 0, .cells [.run .u32 5 [0, 0, 0, 0, 0]] 153 0 0, .cells [.run .u32 80 (w1F b)] 175 0 0]) :
    ∀ (m i : Nat), i + m = 16 → Ok C (⟨83, none, 111, [.a 4 5], [(14, .int .i64 i), (5, .ptr 3 0), (4, .ptr 2 0), (3, .ptr 1 0), (2, .ptr 0 0)], [.c lsBlockn0, .lp lsBlockn0, .blk 0, .c tsBlockn14], []⟩ :: r)
      [.cells [.run .u32 5 st] 153 0 0, .cells [.run .u8 64 b] 132 0 0, .cells [.run .u32 5 [0, 0, 0, 0, 0]] 153 0 0, .cells [.run .u32 80 (it (w1S b) i (List.replicate 80 0))] 175 0 0] := by
  intro m
  induction m with
  | zero =>
    intro i hi
    have h1 : decide ((i : Int) < 16) = false := by simp; omega
    have : i = 16 := by omega
    refine ok_head lsBlockn0.eq_1 (vc_ok 7 _ _ ?_)
    simp only [h1, go_sem, Nat.reduceLT, ↓reduceIte]
    subst this
    exact ok_less K (by simp only [envSub, go_sem, Nat.reduceEqDiff, ↓reduceIte])
  | succ m ih =>
    intro i hi
    have h1 : decide ((i : Int) < 16) = true := by simp; omega
    have h2 : IntKind.i64.wrap (4 * (i : Int)) = ((4 * i : Nat) : Int) := by rw [w64 (by omega) (by omega)]; omega
    have h3 : (64 = 4 * i) = False := by simp; omega
    refine ok_head lsBlockn0.eq_1 (vc_ok 100 _ _ ?_)
    simp only [h1, h2, h3, go_sem, Nat.reduceEqDiff, Nat.reduceLT, Nat.reduceLeDiff, ↓reduceIte]
    refine ⟨⟨by omega, by omega⟩, ?_⟩
    refine ok_call hP 100 [1] (spsWord b 64 (4 * i) (64 - 4 * i) (64 - 4 * i) 132 (by omega) (by omega)) oksWord rfl rfl rfl ⟨rfl, trivial⟩ rfl (by decide) fun x hs' hq => ?_
    obtain ⟨rfl, rfl⟩ := hq
    simp only [go_sem, Nat.reduceEqDiff, Nat.reduceLT, Nat.reduceAdd, Nat.reduceSub, ↓reduceIte]
    refine ⟨⟨by omega, by omega⟩, by omega, ok_less (ih (i + 1) (by omega)) ?_⟩
    simp only [envSub, w64s (show i + 1 < 9223372036854775808 by omega), go_sem, Nat.reduceEqDiff, ↓reduceIte]

def w2S (j : Nat) (w : List Int) : List Int :=
  w.set (j + 16) (rotF (bw .xor .u32 (bw .xor .u32 (bw .xor .u32 (w.getD (j + 13) 0) (w.getD (j + 8) 0)) (w.getD (j + 2) 0)) (w.getD j 0)) 1)
def w2F (b : List Int) : List Int := it w2S 64 (w1F b)

theorem lpsBlockb {C : Ctx} (hP : C.P = Try.prog) {r : List FS} (st b : List Int)
    (K : Ok C (⟨83, none, 111, [.a 4 5], [(5, .ptr 3 0), (4, .ptr 2 0), (3, .ptr 1 0), (2, .ptr 0 0)], [.c tsBlockn13], []⟩ :: r)
      [.cells [.run .u32 5 st] 153 0 0, .cells [.run .u8 64 b] 132 0 0, .cells [.run .u32 5 [0, 0, 0, 0, 0]] 153 0 0, .cells [.run .u32 80 (w2F b)] 175 0 0]) :
    ∀ (m j : Nat), j + m = 64 → Ok C (⟨83, none, 111, [.a 4 5], [(7, .int .i64 (j + 16 : Nat)), (5, .ptr 3 0), (4, .ptr 2 0), (3, .ptr 1 0), (2, .ptr 0 0)], [.c lsBlockn2, .lp lsBlockn2, .blk 2, .c tsBlockn13], []⟩ :: r)
      [.cells [.run .u32 5 st] 153 0 0, .cells [.run .u8 64 b] 132 0 0, .cells [.run .u32 5 [0, 0, 0, 0, 0]] 153 0 0, .cells [.run .u32 80 (it w2S j (w1F b))] 175 0 0] := by
  intro m
  induction m with
  | zero =>
    intro j hj
    have h1 : decide (((j + 16 : Nat) : Int) < 80) = false := by simp; omega
    have : j = 64 := by omega
    refine ok_head lsBlockn2.eq_1 (vc_ok 8 _ _ ?_)
    simp only [h1, go_sem, Nat.reduceLT, ↓reduceIte]
    subst this
    exact ok_less K (by simp only [envSub, go_sem, Nat.reduceEqDiff, ↓reduceIte])
  | succ m ih =>
    intro j hj
    have h1 : decide (((j + 16 : Nat) : Int) < 80) = true := by simp; omega
    have h3 : IntKind.i64.wrap (((j + 16 : Nat) : Int) - 3) = ((j + 13 : Nat) : Int) := by rw [w64 (by omega) (by omega)]; omega
    have h8 : IntKind.i64.wrap (((j + 16 : Nat) : Int) - 8) = ((j + 8 : Nat) : Int) := by rw [w64 (by omega) (by omega)]; omega
    have h14 : IntKind.i64.wrap (((j + 16 : Nat) : Int) - 14) = ((j + 2 : Nat) : Int) := by rw [w64 (by omega) (by omega)]; omega
    have h16 : IntKind.i64.wrap (((j + 16 : Nat) : Int) - 16) = ((j : Nat) : Int) := by rw [w64 (by omega) (by omega)]; omega
    have hs : IntKind.i64.wrap (((j + 16 : Nat) : Int) + 1) = ((j + 1 + 16 : Nat) : Int) := by rw [w64 (by omega) (by omega)]; omega
    refine ok_head lsBlockn2.eq_1 (vc_ok 100 _ _ ?_)
    simp only [h1, h3, h8, h14, h16, go_sem, Nat.reduceEqDiff, Nat.reduceLT, Nat.reduceBEq, ↓reduceIte]
    refine ⟨by omega, by omega, by omega, by omega, by omega, by omega, by omega, by omega, ?_⟩
    refine ok_dcall hP 100 [] (spRotL _ 1) okRotL rfl rfl rfl trivial rfl (by decide) fun x hs' hq => ?_
    obtain ⟨rfl, rfl⟩ := hq
    simp only [dsBlockn1, go_sem, Nat.reduceEqDiff, Nat.reduceLT, Nat.reduceAdd, Nat.reduceBEq, ↓reduceIte]
    refine ⟨⟨by omega, by omega⟩, by omega, ok_less (ih (j + 1) (by omega)) ?_⟩
    simp only [envSub, hs, go_sem, Nat.reduceEqDiff, ↓reduceIte]

/-- One round. -/
def rndS (F : Int → Int → Int → Int) (kw : Int) (w : List Int) (i : Nat) (s : List Int) : List Int :=
  [IntKind.u32.wrap (IntKind.u32.wrap (IntKind.u32.wrap (IntKind.u32.wrap (rotF (s.getD 0 0) 5 + F (s.getD 1 0) (s.getD 2 0) (s.getD 3 0)) + s.getD 4 0) + kw) + w.getD i 0), s.getD 0 0, rotF (s.getD 1 0) 30, s.getD 2 0, s.getD 3 0]
def rnds (F : Int → Int → Int → Int) (kw : Int) (w : List Int) : Nat → Nat → List Int → List Int
  | 0, _, s => s
  | m + 1, i, s => rnds F kw w m (i + 1) (rndS F kw w i s)

theorem lpsBlockc {C : Ctx} (hP : C.P = Try.prog) {r : List FS} (st b w : List Int) (bl f : Nat) {cf : FnC} (okf : FnOk Try.prog f cf) (F : Int → Int → Int → Int)
    (sf : ∀ b c d, Spec Try.prog f [.int .u32 b, .int .u32 c, .int .u32 d] [] fun v hs => v = .int .u32 (F b c d) ∧ hs = []) (kw : Int) (hbl : bl ≤ 80) (q : Int) :
    ∀ (m i : Nat) (s : List Int), i + m = bl →
    Ok C (⟨83, none, 111, [.a 4 5], [(9, .int .i64 bl), (53, .int .i64 q), (52, .int .i64 4), (51, .sl 5 0 4 4), (8, .ptr 4 0), (5, .ptr 3 0), (4, .ptr 2 0), (2, .ptr 0 0)], [.sc ssBlockn3, .blk 5, .c tsBlockn8, .lp lsBlockn9, .blk 4, .c tsBlockn12], []⟩ :: r)
      [.cells [.run .u32 5 st] 153 0 0, .cells [.run .u8 64 b] 132 0 0, .cells [.run .u32 5 [0, 0, 0, 0, 0]] 153 0 0, .cells [.run .u32 80 w] 175 0 0, .cells [.run .u32 5 (rnds F kw w m i s)] 153 0 0, .cells partsV 182 0 0, .cells [.int .i64 bl, .fn f [], .int .u32 kw] 182 0 0] →
    Ok C (⟨83, none, 111, [.a 4 5], [(9, .int .i64 i), (11, .ptr 6 0), (53, .int .i64 q), (52, .int .i64 4), (51, .sl 5 0 4 4), (8, .ptr 4 0), (5, .ptr 3 0), (4, .ptr 2 0), (2, .ptr 0 0)], [.c lsBlockn7, .lp lsBlockn7, .blk 6, .sc ssBlockn3, .blk 5, .c tsBlockn8, .lp lsBlockn9, .blk 4, .c tsBlockn12], []⟩ :: r)
      [.cells [.run .u32 5 st] 153 0 0, .cells [.run .u8 64 b] 132 0 0, .cells [.run .u32 5 [0, 0, 0, 0, 0]] 153 0 0, .cells [.run .u32 80 w] 175 0 0, .cells [.run .u32 5 s] 153 0 0, .cells partsV 182 0 0, .cells [.int .i64 bl, .fn f [], .int .u32 kw] 182 0 0] := by
  intro m
  induction m with
  | zero =>
    intro i s hi K
    have h1 : decide ((bl : Int) ≤ (i : Int)) = true := by simp; omega
    have : i = bl := by omega
    refine ok_head lsBlockn7.eq_1 (vc_ok 12 _ _ ?_)
    simp only [h1, go_sem, Nat.reduceEqDiff, Nat.reduceLT, ↓reduceIte]
    subst this
    exact ok_less K (by simp only [envSub, go_sem, Nat.reduceEqDiff, ↓reduceIte])
  | succ m ih =>
    intro i s hi K
    have h1 : decide ((bl : Int) ≤ (i : Int)) = false := by simp; omega
    have hs : IntKind.i64.wrap ((i : Int) + 1) = ((i + 1 : Nat) : Int) := by rw [w64 (by omega) (by omega)]; omega
    refine ok_head lsBlockn7.eq_1 (vc_ok 100 _ _ ?_)
    simp only [h1, go_sem, Nat.reduceEqDiff, Nat.reduceLT, Nat.reduceBEq, Int.reduceToNat, Int.reduceLT, Int.reduceLE, ↓reduceIte]
    refine ⟨⟨by omega, by omega⟩, by omega, ?_⟩
    refine ok_dcall hP 100 [] (spRotL _ 5) okRotL rfl rfl rfl trivial rfl (by decide) fun x hs' hq => ?_
    obtain ⟨rfl, rfl⟩ := hq
    simp only [dsBlockn5, go_sem, Nat.reduceEqDiff, Nat.reduceLT, Nat.reduceAdd, Nat.reduceBEq, ↓reduceIte]
    refine ok_dcall hP 100 [] (sf _ _ _) okf rfl rfl rfl trivial rfl (by decide) fun x hs' hq => ?_
    obtain ⟨rfl, rfl⟩ := hq
    simp only [dsBlockn4, go_sem, Nat.reduceEqDiff, Nat.reduceLT, Nat.reduceAdd, Nat.reduceBEq, Int.reduceToNat, Int.reduceLT, Int.reduceLE, ↓reduceIte]
    refine ok_dcall hP 100 [] (spRotL _ 30) okRotL rfl rfl rfl trivial rfl (by decide) fun x hs' hq => ?_
    obtain ⟨rfl, rfl⟩ := hq
    simp only [dsBlockn6, go_sem, Nat.reduceEqDiff, Nat.reduceLT, Nat.reduceAdd, Nat.reduceBEq, ↓reduceIte]
    refine ok_less (ih (i + 1) (rndS F kw w i s) (by omega) K) ?_
    simp only [envSub, hs, go_sem, Nat.reduceEqDiff, ↓reduceIte]

/-- A part of the rounds. -/
theorem lpsBlockd {C : Ctx} (hP : C.P = Try.prog) (h0 : C.ν0.length = 0) (st b w : List Int) (q bl f : Nat) {cf : FnC} (okf : FnOk Try.prog f cf) (F : Int → Int → Int → Int)
    (sf : ∀ b c d, Spec Try.prog f [.int .u32 b, .int .u32 c, .int .u32 d] [] fun v hs => v = .int .u32 (F b c d) ∧ hs = []) (kw : Int) (hbl : bl ≤ 80) (hq : q < 4)
    (hpart : ldaR partsV (q * 3) 3 = .v True (.agg [.int .i64 bl, .fn f [], .int .u32 kw])) (i : Nat) (s : List Int) (hi : i ≤ bl)
    (K : Ok C [⟨83, none, 111, [.a 4 5], [(9, .int .i64 bl), (53, .int .i64 (q + 1 : Nat)), (52, .int .i64 4), (51, .sl 5 0 4 4), (8, .ptr 4 0), (5, .ptr 3 0), (4, .ptr 2 0), (2, .ptr 0 0)], [.c lsBlockn9, .lp lsBlockn9, .blk 4, .c tsBlockn12], []⟩]
      [.cells [.run .u32 5 st] 153 0 0, .cells [.run .u8 64 b] 132 0 0, .cells [.run .u32 5 [0, 0, 0, 0, 0]] 153 0 0, .cells [.run .u32 80 w] 175 0 0, .cells [.run .u32 5 (rnds F kw w (bl - i) i s)] 153 0 0, .cells partsV 182 0 0]) :
    Ok C [⟨83, none, 111, [.a 4 5], [(9, .int .i64 i), (53, .int .i64 q), (52, .int .i64 4), (51, .sl 5 0 4 4), (8, .ptr 4 0), (5, .ptr 3 0), (4, .ptr 2 0), (2, .ptr 0 0)], [.c lsBlockn9, .lp lsBlockn9, .blk 4, .c tsBlockn12], []⟩]
      [.cells [.run .u32 5 st] 153 0 0, .cells [.run .u8 64 b] 132 0 0, .cells [.run .u32 5 [0, 0, 0, 0, 0]] 153 0 0, .cells [.run .u32 80 w] 175 0 0, .cells [.run .u32 5 s] 153 0 0, .cells partsV 182 0 0] := by
  have h1 : decide ((q : Int) < 4) = true := by simp; omega
  have hs : IntKind.i64.wrap ((q : Int) + 1) = ((q + 1 : Nat) : Int) := by rw [w64 (by omega) (by omega)]; omega
  refine ok_head lsBlockn9.eq_1 (vc_ok 17 _ _ ?_)
  simp only [h1, hpart, go_sem, reduceCtorEq, Nat.reduceEqDiff, Nat.reduceLT, Nat.reduceAdd, Nat.reduceSub, ↓reduceIte]
  refine ⟨⟨by omega, by omega⟩, ?_⟩
  refine ok_head ssBlockn3.eq_1 (vc_ok 4 _ _ ?_)
  simp only [go_sem]
  refine ok_less (lpsBlockc hP st b w bl f okf F sf kw hbl q (bl - i) i s (by omega) ?_) (by simp only [envSub, go_sem, Nat.reduceEqDiff, ↓reduceIte])
  refine vc_ok 100 _ _ ?_
  simp only [tsBlockn8, hs, go_sem, Nat.reduceEqDiff, Nat.reduceLT, ↓reduceIte]
  refine ok_sub [0, 1, 2, 3, 4, 5] K ⟨rfl, rfl, rfl, rfl, rfl, rfl, trivial⟩ rfl (by decide) (fun i hi => by omega) rfl ⟨⟨rfl, rfl, rfl, rfl, rfl, rfl, ?_⟩, trivial⟩
  simp only [envLe, go_sem, Nat.reduceEqDiff, ↓reduceIte]

def addS (st : List Int) (i : Nat) (s : List Int) : List Int := s.set i (IntKind.u32.wrap (s.getD i 0 + st.getD i 0))
/-- The state behind all rounds. -/
def rndsF (st b : List Int) : List Int := rnds oddF 3395469782 (w2F b) 20 60 (rnds majF 2400959708 (w2F b) 20 40 (rnds oddF 1859775393 (w2F b) 20 20 (rnds chF 1518500249 (w2F b) 20 0 st)))
/-- **The state behind a block.** -/
def blkF (st b : List Int) : List Int := it (addS st) 5 (rndsF st b)

theorem lpsBlocke {C : Ctx} (hf : C.f = 83) (st b w s : List Int) (hQ : C.Q = GC 0 fun x hs => x = .agg [.run .u32 5 (it (addS st) 5 s)] ∧ hs = []) : ∀ (m i : Nat), i + m = 5 →
    Ok C [⟨83, none, 111, [.a 4 5], [(98, .int .i64 i), (8, .ptr 4 0), (4, .ptr 2 0), (2, .ptr 0 0)], [.c lsBlockn10, .lp lsBlockn10, .blk 8, .c tsBlockn11], []⟩]
      [.cells [.run .u32 5 st] 153 0 0, .cells [.run .u8 64 b] 132 0 0, .cells [.run .u32 5 [0, 0, 0, 0, 0]] 153 0 0, .cells [.run .u32 80 w] 175 0 0, .cells [.run .u32 5 (it (addS st) i s)] 153 0 0, .cells partsV 182 0 0] := by
  intro m
  induction m with
  | zero =>
    intro i hi
    have h1 : decide ((i : Int) < 5) = false := by simp; omega
    have : i = 5 := by omega
    refine ok_head lsBlockn10.eq_1 (vc_ok 100 _ _ ?_)
    simp only [h1, tsBlockn11, go_sem, Nat.reduceEqDiff, Nat.reduceLT, ↓reduceIte]
    subst this
    refine ⟨hf.symm, ?_⟩
    rw [hQ]
    exact gc_drop [] _ rfl rfl rfl ⟨rfl, rfl⟩
  | succ m ih =>
    intro i hi
    have h1 : decide ((i : Int) < 5) = true := by simp; omega
    refine ok_head lsBlockn10.eq_1 (vc_ok 100 _ _ ?_)
    simp only [h1, go_sem, Nat.reduceEqDiff, Nat.reduceLT, Nat.reduceBEq, ↓reduceIte]
    refine ⟨⟨by omega, by omega⟩, by omega, ⟨by omega, by omega⟩, by omega, ⟨by omega, by omega⟩, by omega, ok_less (ih (i + 1) (by omega)) ?_⟩
    simp only [envSub, w64s (show i + 1 < 9223372036854775808 by omega), go_sem, Nat.reduceEqDiff, ↓reduceIte]

theorem spsBlock (st b : List Int) : Spec Try.prog 83 [.agg [.run .u32 5 st], .agg [.run .u8 64 b]] [] fun x hs => x = .agg [.run .u32 5 (blkF st b)] ∧ hs = [] := by
  refine spec_mk oksBlock rfl (of_ble rfl) fun C hP hf hQ h0 => ?_
  apply vc_ok 100
  simp only [FS.start, csBlock, paramsE, go_sem, reduceCtorEq, Nat.reduceEqDiff, Nat.reduceLT, Nat.reduceAdd, ↓reduceIte]
  refine ok_less (lpsBlocka hP st b ?_ 16 0 rfl) (by simp only [envSub, go_sem, Nat.reduceEqDiff, ↓reduceIte])
  refine ok_head tsBlockn14.eq_1 (vc_ok 100 _ _ ?_)
  simp only [go_sem, Nat.reduceLT]
  refine ok_less (lpsBlockb hP st b ?_ 64 0 rfl) (by simp only [envSub, go_sem, Nat.reduceEqDiff, ↓reduceIte])
  refine ok_head tsBlockn13.eq_1 (vc_ok 100 _ _ ?_)
  simp only [go_sem, Nat.reduceEqDiff, Nat.reduceLT, Nat.reduceAdd, ↓reduceIte]
  refine ok_call hP 100 [] spsParts oksParts rfl rfl rfl trivial rfl (by decide) fun x hs' hq => ?_
  obtain ⟨rfl, rfl⟩ := hq
  have hpr : rens [5] partsV = partsV := rfl
  simp only [hpr, go_sem, Nat.reduceLT, Nat.reduceAdd, ↓reduceIte]
  refine ok_less (lpsBlockd hP h0 st b (w2F b) 0 20 105 oksPartsB chF spsPartsB 1518500249 (by omega) (by omega) rfl 0 st (by omega) ?_) (by simp only [envSub, go_sem, Nat.reduceEqDiff, ↓reduceIte])
  refine lpsBlockd hP h0 st b (w2F b) 1 40 104 oksPartsA oddF spsPartsA 1859775393 (by omega) (by omega) rfl 20 _ (by omega) ?_
  refine lpsBlockd hP h0 st b (w2F b) 2 60 106 oksPartsC majF spsPartsC 2400959708 (by omega) (by omega) rfl 40 _ (by omega) ?_
  refine lpsBlockd hP h0 st b (w2F b) 3 80 104 oksPartsA oddF spsPartsA 3395469782 (by omega) (by omega) rfl 60 _ (by omega) ?_
  refine ok_head lsBlockn9.eq_1 (vc_ok 100 _ _ ?_)
  simp only [tsBlockn12, Nat.reduceAdd, Int.cast_ofNat_Int, Int.reduceLT, decide_false, go_sem, Nat.reduceEqDiff, Nat.reduceLT, Nat.reduceAdd, Nat.reduceSub, Int.reduceLT, ↓reduceIte]
  exact ok_less (lpsBlocke hf st b (w2F b) (rndsF st b) hQ 5 0 rfl) (by simp only [envSub, go_sem, Nat.reduceEqDiff, ↓reduceIte])
#print axioms spsBlock
end Go.Pv
