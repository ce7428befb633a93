/- hmac: the block, the pads, New, Write, Tag. -/
import Derived.Test.YtifoaokodgbhjaaSg
namespace Go.Pv
open Go Go.Proofs
def chBlock : FnC := ⟨19, [(.a 2 64), (.t 3)], (.seq (.reg [(.mk (some 2) none (.al 132 [(.run .u8 64 (List.replicate 64 0))])), (.mk (some 3) none (.mv (.c (.int .i64 0))))]) (.seq (.seq (.reg [(.mk (some 5) none (.mv (.t 0))), (.mk (some 6) none (.len (.t 5))), (.mk (some 7) none (.bin .gtr (.t 6) (.c (.int .i64 1048576))))]) (.cond (.t 7) (.seq (.reg [(.mk (some 8) none (.lda (.t 2) 64)), (.mk none none (.sta (.t 2) (.t 8) 64)), (.mk (some 3) none (.mv (.c (.int .i64 3))))]) .ret) .skip)) (.seq (.seq (.reg [(.mk (some 9) none (.mv (.t 0))), (.mk (some 10) none (.len (.t 9))), (.mk (some 11) none (.bin .gtr (.t 10) (.c (.int .i64 64))))]) (.cond (.t 11) (.seq (.reg [(.mk (some 12) none (.mv (.t 0))), (.mk (some 13) none (.call (.c (.fn 79 [])) [(.t 12)])), (.mk (some 4) none (.al 103 [(.run .u8 20 (List.replicate 20 0))])), (.mk none none (.sta (.t 4) (.t 13) 20))]) (.reg [(.mk (some 14) none (.sla 20 1 (.t 4) none none)), (.mk (some 0) none (.mv (.t 14)))])) .skip)) (.seq (.reg [(.mk (some 15) none (.sla 64 1 (.t 2) none none)), (.mk (some 16) none (.mv (.t 0))), (.mk (some 17) none (.cpy 1 (.t 15) (.t 16)))]) (.seq (.reg [(.mk (some 18) none (.lda (.t 2) 64)), (.mk none none (.sta (.t 2) (.t 18) 64)), (.mk (some 3) none (.mv (.c (.int .i64 0))))]) .ret)))))⟩
theorem okhBlock : FnOk Try.prog 67 chBlock := fnOk_mk Try.f67 (by kernel_rfl) (by kernel_rfl) (by kernel_rfl) (by kernel_rfl) (by kernel_rfl)
def dhNewn0 : DT := (.one 1 (.mk (some 16) none (.bld [.nilp] [(0, (1, (.t 15)))])) [] (.one 3 (.mk (some 18) none (.bld [.nilp, (.run .u8 64 (List.replicate 64 0))] [(0, (1, (.t 16))), (1, (64, (.t 17)))])) [] (.one 4 (.mk (some 19) none (.bx 140 (.t 18))) [3, 1, 2, 0] (.one 5 (.mk (some 6) none (.mv (.t 19))) [] .fin))))
def dhNewn1 : DT := .fin
def dhNewn2 : DT := (.one 7 (.mk (some 27) none (.call (.c (.fn 69 [])) [(.t 24), (.t 26)])) [4, 6, 3, 5, 2, 1, 0] dhNewn1)
def chNew : FnC := ⟨29, [(.t 2), (.t 3)], (.seq (.reg [(.mk (some 2) none (.mv (.c .nilp))), (.mk (some 3) none (.mv (.c (.int .i64 0))))]) (.seq (.reg [(.mk (some 8) none (.mv (.t 0))), (.mk (some 9) none (.call (.c (.fn 67 [])) [(.t 8)])), (.mk (some 7) none (.mv (.t 9))), (.mk (some 10) none (.ext (.t 7) 0)), (.mk (some 11) none (.ext (.t 7) 1)), (.mk (some 4) none (.al 132 [(.run .u8 64 (List.replicate 64 0))])), (.mk none none (.sta (.t 4) (.t 10) 64)), (.mk (some 5) none (.mv (.t 11)))]) (.seq (.seq (.reg [(.mk (some 12) none (.mv (.t 5))), (.mk (some 13) none (.bin .neq (.t 12) (.c (.int .i64 0))))]) (.cond (.t 13) (.seq (.reg [(.mk (some 14) none (.mv (.t 5))), (.mk (some 2) none (.mv (.c .nilp))), (.mk (some 3) none (.mv (.t 14)))]) .ret) .skip)) (.seq (.dreg (.tk 2 (.mk (some 17) none (.lda (.t 4) 64)) (.one 0 (.mk (some 15) none (.call (.c (.fn 68 [])) [])) [] dhNewn0))) (.seq (.dreg (.tk 0 (.mk (some 20) none (.mv (.t 6))) (.tk 1 (.mk (some 21) none (.nc (.t 20))) (.tk 2 (.mk (some 22) none (.fa 0 (.t 21))) (.tk 3 (.mk (some 23) none (.fa 0 (.t 22))) (.tk 4 (.mk (some 24) none (.ld (.t 23))) (.one 5 (.mk (some 25) none (.mv (.t 6))) [] (.one 6 (.mk (some 26) none (.call (.c (.fn 70 [])) [(.t 25), (.c (.int .u8 54))])) [5] dhNewn2)))))))) (.seq (.reg [(.mk (some 28) none (.mv (.t 6))), (.mk (some 2) none (.mv (.t 28))), (.mk (some 3) none (.mv (.c (.int .i64 0))))]) .ret))))))⟩
theorem okhNew : FnOk Try.prog 56 chNew := fnOk_mk Try.f56 (by kernel_rfl) (by kernel_rfl) (by kernel_rfl) (by kernel_rfl) (by kernel_rfl)
def lhWithn0 : IC := (.seq (.reg [(.mk (some 13) none (.bin .lss (.t 12) (.t 11)))]) (.seq (.cond (.t 13) .skip (.exit 0)) (.seq (.block 1 (.seq (.reg [(.mk (some 14) none (.mv (.t 12))), (.mk (some 7) none (.mv (.t 14)))]) (.reg [(.mk (some 15) none (.mv (.t 6))), (.mk (some 16) none (.mv (.t 7))), (.mk (some 17) none (.mv (.t 5))), (.mk (some 18) none (.mv (.t 7))), (.mk (some 19) none (.call (.t 17) [(.t 18)])), (.mk (some 20) none (.ias 1 (.t 15) (.t 16))), (.mk none none (.st (.t 20) (.t 19)))]))) (.reg [(.mk (some 21) none (.bin .add (.t 12) (.c (.int .i64 1)))), (.mk (some 12) none (.mv (.t 21)))]))))
def thWithn1 : IC := (.seq (.reg [(.mk (some 22) none (.mv (.t 6))), (.mk (some 4) none (.mv (.t 22)))]) .ret)
def chWith : FnC := ⟨23, [(.t 4)], (.seq (.reg [(.mk (some 2) none (.bx 112 (.t 0))), (.mk (some 3) none (.bx 5 (.t 1))), (.mk (some 4) none (.mv (.c .nils)))]) (.seq (.reg [(.mk (some 8) none (.mkf 84 [(.t 2), (.t 3)])), (.mk (some 5) none (.mv (.t 8)))]) (.seq (.reg [(.mk (some 9) none (.mks 5 1 1 [(.int .u8 0)] (.c (.int .i64 64)) (.c (.int .i64 64)))), (.mk (some 6) none (.mv (.t 9)))]) (.seq (.seq (.reg [(.mk (some 10) none (.mv (.t 6))), (.mk (some 11) none (.len (.t 10))), (.mk (some 12) none (.mv (.c (.int .i64 0))))]) (.block 0 (.loop lhWithn0))) thWithn1))))⟩
theorem okhWith : FnOk Try.prog 70 chWith := fnOk_mk Try.f70 (by kernel_rfl) (by kernel_rfl) (by kernel_rfl) (by kernel_rfl) (by kernel_rfl)
def chWithC : FnC := ⟨13, [(.t 4)], (.seq (.reg [(.mk (some 4) none (.mv (.c (.int .u8 0))))]) (.seq (.dreg (.tk 0 (.mk (some 5) none (.ld (.t 1))) (.tk 1 (.mk (some 6) none (.mv (.t 0))) (.tk 2 (.mk (some 7) none (.nc (.t 5))) (.tk 3 (.mk (some 8) none (.fa 1 (.t 7))) (.tk 4 (.mk (some 9) none (.iaa 64 1 (.t 8) (.t 6))) (.tk 5 (.mk (some 10) none (.ld (.t 9))) (.one 6 (.mk (some 11) none (.ld (.t 2))) [] (.one 7 (.mk (some 12) none (.bin .xor (.t 10) (.t 11))) [] (.one 8 (.mk (some 4) none (.mv (.t 12))) [] .fin)))))))))) .ret))⟩
theorem okhWithC : FnOk Try.prog 84 chWithC := fnOk_mk Try.f84 (by kernel_rfl) (by kernel_rfl) (by kernel_rfl) (by kernel_rfl) (by kernel_rfl)
def chNone : FnC := ⟨13, [(.t 2)], (.seq (.reg [(.mk (some 2) none (.mv (.c (.bool false))))]) (.seq (.reg [(.mk (some 3) none (.mv (.t 0))), (.mk (some 4) none (.eqn 0 false (.t 3) (.c .nilp))), (.mk (some 5) none (.mv (.t 4))), (.mk (some 6) (some (5, false)) (.mv (.t 0))), (.mk (some 7) (some (5, false)) (.nc (.t 6))), (.mk (some 8) (some (5, false)) (.fa 0 (.t 7))), (.mk (some 9) (some (5, false)) (.fa 0 (.t 8))), (.mk (some 10) (some (5, false)) (.ld (.t 9))), (.mk (some 11) (some (5, false)) (.eqn 0 false (.t 10) (.c .nilp))), (.mk (some 12) none (.pick (.t 5) (.c (.bool true)) (.t 11))), (.mk (some 2) none (.mv (.t 12)))]) .ret))⟩
theorem okhNone : FnOk Try.prog 72 chNone := fnOk_mk Try.f72 (by kernel_rfl) (by kernel_rfl) (by kernel_rfl) (by kernel_rfl) (by kernel_rfl)
def chWrite : FnC := ⟨14, [(.t 4)], (.seq (.reg [(.mk (some 4) none (.mv (.c (.int .i64 0))))]) (.seq (.seq (.reg [(.mk (some 5) none (.mv (.t 0))), (.mk (some 6) none (.call (.c (.fn 72 [])) [(.t 5)]))]) (.cond (.t 6) (.seq (.reg [(.mk (some 4) none (.mv (.c (.int .i64 1))))]) .ret) .skip)) (.seq (.reg [(.mk (some 7) none (.mv (.t 0))), (.mk (some 8) none (.nc (.t 7))), (.mk (some 9) none (.fa 0 (.t 8))), (.mk (some 10) none (.fa 0 (.t 9))), (.mk (some 11) none (.ld (.t 10))), (.mk (some 12) none (.mv (.t 1))), (.mk (some 13) none (.call (.c (.fn 69 [])) [(.t 11), (.t 12)])), (.mk (some 4) none (.mv (.t 13)))]) .ret)))⟩
theorem okhWrite : FnOk Try.prog 58 chWrite := fnOk_mk Try.f58 (by kernel_rfl) (by kernel_rfl) (by kernel_rfl) (by kernel_rfl) (by kernel_rfl)
def dhMTagn0 : DT := (.one 9 (.mk none none (.sta (.t 2) (.t 15) 20)) [8, 0, 1, 2, 3, 4, 5, 6, 7] (.one 10 (.mk (some 3) none (.mv (.c (.int .i64 0)))) [] .fin))
def dhMTagn1 : DT := (.one 8 (.mk (some 15) none (.call (.c (.fn 73 [])) [(.t 8), (.t 14)])) [1, 7, 0, 6, 5, 4, 3, 2] dhMTagn0)
def dhMTagn2 : DT := (.one 7 (.mk (some 14) none (.call (.c (.fn 74 [])) [(.t 13)])) [6, 1, 5, 0, 4, 3, 2] dhMTagn1)
def chMTag : FnC := ⟨16, [(.a 2 20), (.t 3)], (.seq (.reg [(.mk (some 2) none (.al 103 [(.run .u8 20 (List.replicate 20 0))])), (.mk (some 3) none (.mv (.c (.int .i64 0))))]) (.seq (.seq (.reg [(.mk (some 4) none (.mv (.t 0))), (.mk (some 5) none (.call (.c (.fn 72 [])) [(.t 4)]))]) (.cond (.t 5) (.seq (.reg [(.mk (some 6) none (.bld [(.run .u8 20 (List.replicate 20 0))] [])), (.mk none none (.sta (.t 2) (.t 6) 20)), (.mk (some 3) none (.mv (.c (.int .i64 1))))]) .ret) .skip)) (.seq (.dreg (.tk 0 (.mk (some 7) none (.mv (.t 0))) (.tk 2 (.mk (some 9) none (.mv (.t 0))) (.tk 3 (.mk (some 10) none (.nc (.t 9))) (.tk 4 (.mk (some 11) none (.fa 0 (.t 10))) (.tk 5 (.mk (some 12) none (.fa 0 (.t 11))) (.tk 6 (.mk (some 13) none (.ld (.t 12))) (.one 1 (.mk (some 8) none (.call (.c (.fn 70 [])) [(.t 7), (.c (.int .u8 92))])) [0] dhMTagn2)))))))) .ret)))⟩
theorem okhMTag : FnOk Try.prog 59 chMTag := fnOk_mk Try.f59 (by kernel_rfl) (by kernel_rfl) (by kernel_rfl) (by kernel_rfl) (by kernel_rfl)
def chOf : FnC := ⟨11, [(.a 4 20)], (.seq (.reg [(.mk (some 3) none (.bx 103 (.t 1))), (.mk (some 4) none (.al 103 [(.run .u8 20 (List.replicate 20 0))]))]) (.seq (.reg [(.mk (some 6) none (.lda (.t 3) 20)), (.mk (some 5) none (.al 103 [(.run .u8 20 (List.replicate 20 0))])), (.mk none none (.sta (.t 5) (.t 6) 20))]) (.seq (.reg [(.mk (some 7) none (.mv (.t 0))), (.mk (some 8) none (.sla 20 1 (.t 5) none none)), (.mk (some 9) none (.bsl 27 2 [.nils, .nils] [(0, (1, (.t 7))), (1, (1, (.t 8)))])), (.mk (some 10) none (.call (.c (.fn 86 [])) [(.t 9)])), (.mk none none (.sta (.t 4) (.t 10) 20))]) .ret)))⟩
theorem okhOf : FnOk Try.prog 73 chOf := fnOk_mk Try.f73 (by kernel_rfl) (by kernel_rfl) (by kernel_rfl) (by kernel_rfl) (by kernel_rfl)


/-- A key's block. -/
def padF (n : Nat) (l : List Int) : List Int := l ++ List.replicate (n - l.length) 0
def hblkF (key : List Int) : List Int := padF 64 (if 64 < key.length then shaF key else key)
def withS (b : List Int) (x : Int) (i : Nat) (o : List Int) : List Int := o.set i (bw .xor .u8 (b.getD i 0) x)
/-- The block, each byte xored. -/
def withF (b : List Int) (x : Int) : List Int := it (withS b x) 64 (List.replicate 64 0)

theorem spWithC (H : List SO) (L0 L1 t p i : Nat) (b : List Int) (x : Int) (ta tb tc : Nat) (hi : i < 64) (h0 : H[L0]? = some (.cells [.ptr t 0] ta 0 0)) (h1 : H[L1]? = some (.cells [.int .u8 x] tb 0 0)) (h2 : H[t]? = some (.cells [.ptr p 0, .run .u8 64 b] tc 0 0)) :
    Spec Try.prog 84 [.int .i64 i, .ptr L0 0, .ptr L1 0] H fun v hs => v = .int .u8 (bw .xor .u8 (b.getD i 0) x) ∧ hs = H := by
  refine spec_h okhWithC rfl (of_ble rfl) fun C hP hf hQ hn hw hbd => ?_
  apply vc_ok 100
  simp only [FS.start, chWithC, paramsE, h0, h1, h2, hi, go_sem, reduceCtorEq, Nat.reduceEqDiff, Nat.reduceLT, Nat.reduceAdd, ↓reduceIte]
  refine ⟨⟨by omega, by omega⟩, fin00 hf hQ hw rfl ⟨rfl, rfl⟩⟩

theorem it_len {f : Nat → List Int → List Int} (h : ∀ i l, (f i l).length = l.length) : ∀ (n : Nat) (l : List Int), (it f n l).length = l.length
  | 0, _ => rfl
  | n + 1, l => by simp only [it, h, it_len h n l]
theorem withF_len (b : List Int) (x : Int) : (withF b x).length = 64 := by
  unfold withF
  rw [it_len (fun i l => by simp [withS])]
  simp

theorem spWith (H : List SO) (t p : Nat) (b : List Int) (x : Int) (tc : Nat) (h2 : H[t]? = some (.cells [.ptr p 0, .run .u8 64 b] tc 0 0)) :
    Spec Try.prog 70 [.ptr t 0, .int .u8 x] H fun v hs => ∃ o, hs = H ++ [o] ∧ Own H.length (withF b x) v o := by
  have lt := lt_of_at h2
  refine spec_h okhWith rfl (of_ble rfl) fun C hP hf hQ hn hw hbd => ?_
  apply vc_ok 100
  simp only [FS.start, chWith, paramsE, go_sem, reduceCtorEq, Nat.reduceEqDiff, Nat.reduceLT, Nat.reduceAdd, Int.reduceToNat, Int.reduceLE, ↓reduceIte]
  refine ⟨by decide, ?_⟩
  refine ok_less (env' := [(12, .int .i64 (0 : Nat)), (11, .int .i64 64), (6, .sl (H.length + 2) 0 64 64), (5, .fn 84 [.ptr H.length 0, .ptr (H.length + 1) 0])]) ?_ (by simp only [envSub, go_sem, Nat.reduceEqDiff, ↓reduceIte] <;> rfl)
  refine up (p := fun i => Ok C [⟨70, none, 23, [.t 4], [(12, .int .i64 i), (11, .int .i64 64), (6, .sl (H.length + 2) 0 64 64), (5, .fn 84 [.ptr H.length 0, .ptr (H.length + 1) 0])], [.c lhWithn0, .lp lhWithn0, .blk 0, .c thWithn1], []⟩]
    (H ++ [.cells [.ptr t 0] 112 0 0, .cells [.int .u8 x] 5 0 0, .cells [.run .u8 64 (it (withS b x) i (List.replicate 64 0))] 5 0 0])) 64 ?_ ?_
  · intro i hi ih
    have h1 : decide ((i : Int) < 64) = true := by simp; omega
    refine ok_head lhWithn0.eq_1 (vc_ok 100 _ _ ?_)
    simp only [h1, go_sem, Nat.reduceEqDiff, Nat.reduceLT, ↓reduceIte]
    refine ok_ch hP 100 (spWithC _ H.length (H.length + 1) t p i b x _ _ tc hi (get_app0 _ _) (get_app _ _ _) (at_old h2 _)) okhWithC rfl (call_ev rfl rfl rfl) fun v hs' hq => ?_
    obtain ⟨rfl, rfl⟩ := hq
    simp only [hi, go_sem, Nat.reduceEqDiff, Nat.reduceLT, ↓reduceIte]
    refine ⟨⟨by omega, by omega⟩, ok_less ih ?_⟩
    simp only [envSub, w64s (show i + 1 < 9223372036854775808 by omega), go_sem, Nat.reduceEqDiff, ↓reduceIte]
  · refine ok_head lhWithn0.eq_1 (vc_ok 100 _ _ ?_)
    have h1 : decide (((64 : Nat) : Int) < 64) = false := by simp
    simp only [hd thWithn1.eq_1, go_sem, Nat.reduceEqDiff, Nat.reduceLT, Int.reduceLT, ↓reduceIte]
    have hl := withF_len b x
    have := fin1 (Q := fun v hs => ∃ o, hs = H ++ [o] ∧ Own H.length (withF b x) v o) (l := withF b x) (L := withF b x) (cap := 64) (j := 2) (G := [.cells [.ptr t 0] 112 0 0, .cells [.int .u8 x] 5 0 0, .cells [.run .u8 64 (withF b x)] 5 0 0]) hf hQ hw rfl ⟨_, rfl, 64, withF b x, by omega, hl, by rw [hl, List.take_of_length_le (by omega)], rfl, rfl⟩
    rw [hl] at this
    exact this
theorem shaF_len (m : List Int) : (shaF m).length = 20 := by
  unfold shaF digF
  rw [it_len (fun i l => it_len (fun j l => by simp [digS]) 4 l)]
  simp
theorem padF_len (n : Nat) (l : List Int) (h : l.length ≤ n) : (padF n l).length = n := by simp [padF]; omega
theorem hblkF_len (key : List Int) : (hblkF key).length = 64 := by
  unfold hblkF
  split
  · exact padF_len _ _ (by rw [shaF_len]; omega)
  · exact padF_len _ _ (by omega)

theorem sphBlock (H : List SO) (x : SV) (key : List Int) (hx : Byt H x key) (hb : key.length ≤ 1048576) : Spec Try.prog 67 [x] H fun v hs => v = .tup [.agg [.run .u8 64 (hblkF key)], .int .i64 0] ∧ hs = H := by
  obtain ⟨x1, x2, x3, x4⟩ := hx.facts
  have hlen := hx.len
  refine spec_h okhBlock (by simp only [x1, go_sem]) (of_ble rfl) fun C hP hf hQ hn hw hbd => ?_
  have h1 : decide ((1048576 : Int) < (key.length : Int)) = false := by simp; omega
  apply vc_ok 100
  by_cases hk : 64 < key.length
  · have h2 : decide ((64 : Int) < (key.length : Int)) = true := by simp; omega
    simp only [FS.start, chBlock, paramsE, hlen, h1, h2, x1, go_sem, reduceCtorEq, Nat.reduceLT, ↓reduceIte]
    refine ok_ch hP 100 (spsSum _ x key (hx.app _) (by omega)) oksSum rfl (call_ev rfl rfl (by simp only [x1, go_sem])) fun v hs' hq => ?_
    obtain ⟨rfl, rfl⟩ := hq
    simp only [go_sem, reduceCtorEq, Nat.reduceEqDiff, Nat.reduceLT, Nat.reduceLeDiff, ↓reduceIte]
    have hd : Byt (H ++ [.cells [.run .u8 64 (List.replicate 64 0)] 132 0 0, .cells [.run .u8 20 (shaF key)] 103 0 0]) (.sl (H.length + 1) 0 20 20) (shaF key) := by
      have hl := shaF_len key
      rw [show (SV.sl (H.length + 1) 0 20 20) = .sl (H.length + 1) 0 (shaF key).length 20 by rw [hl]]
      exact .inr ⟨_, _, _, _, 103, 0, 0, rfl, by omega, get_app _ _ _, rowB_run hl (by omega) (by simp [part, hl, List.take_of_length_le])⟩
    refine cpy_byt rfl (get_app0 _ _) rfl hd (by rw [shaF_len]; omega) (by omega) (by simp) ?_
    simp only [go_sem, reduceCtorEq, Nat.reduceEqDiff, Nat.reduceLT, ↓reduceIte]
    refine fin0 hf hQ hw rfl ⟨?_, rfl⟩
    rw [List.drop_replicate]
    simp only [hblkF, hk, if_true, padF]
  · have h2 : decide ((64 : Int) < (key.length : Int)) = false := by simp; omega
    simp only [FS.start, chBlock, paramsE, hlen, h1, h2, go_sem, reduceCtorEq, Nat.reduceEqDiff, Nat.reduceLT, Nat.reduceLeDiff, ↓reduceIte]
    refine cpy_byt rfl (get_app0 _ _) rfl (hx.app _) (by omega) (by omega) (by simp) ?_
    simp only [go_sem, Nat.reduceEqDiff, Nat.reduceLT, ↓reduceIte]
    refine fin0 hf hQ hw rfl ⟨?_, rfl⟩
    rw [List.drop_replicate]
    simp only [hblkF, hk, if_false, padF]

def macC (p : Nat) (b : List Int) : SO := .cells [.ptr p 0, .run .u8 64 b] 140 0 0
/-- At `t` lies the tag under way, with the key's block `b`, of the bytes `m`. -/
def MacAt (H : List SO) (t p : Nat) (b m : List Int) : Prop := p ≠ t ∧ H[t]? = some (macC p b) ∧ HashAt H p (withF b 54 ++ m)

theorem sphNone (H : List SO) (t p : Nat) (b m : List Int) (h : MacAt H t p b m) : Spec Try.prog 72 [.ptr t 0] H fun v hs => v = .bool false ∧ hs = H := by
  obtain ⟨h0, h1, h2⟩ := h
  refine spec_h okhNone rfl (of_ble rfl) fun C hP hf hQ hn hw hbd => ?_
  apply vc_ok 100
  simp only [FS.start, chNone, paramsE, h1, macC, go_sem, reduceCtorEq, Nat.reduceEqDiff, Nat.reduceLT, ↓reduceIte]
  exact fin00 hf hQ hw rfl ⟨rfl, rfl⟩

theorem sphNew (H : List SO) (x : SV) (key : List Int) (hx : Byt H x key) (hb : key.length ≤ 1048576) : Spec Try.prog 56 [x] H fun v hs => ∃ t p, v = .tup [.ptr t 0, .int .i64 0] ∧ H.length ≤ t ∧ H.length ≤ p ∧ MacAt hs t p (hblkF key) [] ∧ ∀ u, u < H.length → hs[u]? = H[u]? := by
  obtain ⟨x1, x2, x3, x4⟩ := hx.facts
  refine spec_of_ok okhNew (by simp only [x1, go_sem]) (of_ble rfl) fun C hP hf hQ hn => ?_
  apply vc_ok 100
  simp only [FS.start, chNew, paramsE, x1, go_sem, reduceCtorEq, Nat.reduceLT, ↓reduceIte]
  refine ok_ch hP 100 (sphBlock H x key hx hb) okhBlock rfl (call_ev rfl rfl (by simp only [x1, go_sem])) fun v hs' hq => ?_
  obtain ⟨rfl, rfl⟩ := hq
  simp only [go_sem, Nat.reduceEqDiff, Nat.reduceLT, ↓reduceIte, Int.reduceBNe]
  refine ok_dch hP 100 (spsNew _) oksNew rfl rfl fun v hs' hq => ?_
  obtain ⟨rfl, rfl⟩ := hq
  simp only [hdd dhNewn0.eq_1, go_sem, reduceCtorEq, Nat.reduceEqDiff, Nat.reduceLT, Nat.reduceLeDiff, Nat.reduceAdd, Nat.reduceSub, Nat.reduceBEq, ↓reduceIte]
  refine ok_dch hP 100 (spWith _ (hs'.length + 2) (hs'.length + 1) (hblkF key) 54 _ (get_app _ _ _)) okhWith rfl (call_ev rfl rfl rfl) fun v hs2 hq => ?_
  obtain ⟨o, rfl, hown⟩ := hq
  have hy := hown.byt0
  obtain ⟨y1, y2, y3, y4⟩ := hy.facts
  simp only [hdd dhNewn2.eq_1, y1, go_sem, Nat.reduceEqDiff, Nat.reduceLT, Nat.reduceBEq, ↓reduceIte]
  have hh : HashAt (hs' ++ [.cells [.run .u8 64 (hblkF key)] 132 0 0, hashC .nils firstS 0, macC (hs'.length + 1) (hblkF key)]) (hs'.length + 1) [] := ⟨.nils, get_app _ _ _, .inl ⟨rfl, rfl⟩⟩
  simp only [List.append_assoc, List.cons_append, List.nil_append] at hy
  have hh2 : HashAt (hs' ++ [.cells [.run .u8 64 (hblkF key)] 132 0 0, hashC .nils firstS 0, macC (hs'.length + 1) (hblkF key), o]) (hs'.length + 1) [] := ⟨.nils, get_app _ _ _, .inl ⟨rfl, rfl⟩⟩
  refine ok_dch hP 100 (spsWrite _ (hs'.length + 1) [] _ v hh2 hy (by rw [withF_len]; simp)) oksWrite rfl (call_ev rfl rfl (by simp only [y1, go_sem])) fun v hs3 hq => ?_
  obtain ⟨rfl, hh3, hk3⟩ := hq
  simp only [hdd dhNewn1.eq_1, go_sem, Nat.reduceEqDiff, Nat.reduceLT, Nat.reduceBEq, ↓reduceIte]
  simp only [len_app, List.length_cons, List.length_nil] at hk3
  refine ⟨hf.symm, ?_⟩
  rw [hQ]
  refine ⟨hs'.length + 2, hs'.length + 1, rfl, by omega, by omega, ⟨by omega, ?_, ?_⟩, ?_⟩
  · rw [hk3 _ (by omega) (by omega)]; exact get_app _ _ _
  · simpa using hh3
  · intro u hu
    rw [hk3 u (by omega) (by omega), hx_old hu]

theorem sphWrite (H : List SO) (t p : Nat) (b m q : List Int) (x : SV) (h : MacAt H t p b m) (hx : Byt H x q) (hb : 64 + m.length + q.length ≤ 1000000000) :
    Spec Try.prog 58 [.ptr t 0, x] H fun v hs => v = .int .i64 0 ∧ MacAt hs t p b (m ++ q) ∧ ∀ u, u < H.length → u ≠ p → hs[u]? = H[u]? := by
  have hno := sphNone H t p b m h
  obtain ⟨h0, h1, h2⟩ := h
  obtain ⟨x1, x2, x3, x4⟩ := hx.facts
  refine spec_of_ok okhWrite (by simp only [x1, go_sem]) (of_ble rfl) fun C hP hf hQ hn => ?_
  apply vc_ok 100
  simp only [FS.start, chWrite, paramsE, go_sem, reduceCtorEq, Nat.reduceLT, ↓reduceIte]
  refine ok_ch hP 100 hno okhNone rfl rfl fun v hs' hq => ?_
  obtain ⟨rfl, rfl⟩ := hq
  simp only [x1, h1, macC, go_sem, reduceCtorEq, Nat.reduceEqDiff, Nat.reduceLT, ↓reduceIte]
  refine ok_ch hP 100 (spsWrite _ p _ q x h2 hx (by simp [withF_len]; omega)) oksWrite rfl (call_ev rfl rfl (by simp only [x1, go_sem])) fun v hs3 hq => ?_
  obtain ⟨rfl, hh3, hk3⟩ := hq
  simp only [go_sem, Nat.reduceLT, ↓reduceIte]
  refine ⟨hf.symm, ?_⟩
  rw [hQ]
  have lt := lt_of_at h1
  exact ⟨rfl, ⟨h0, by rw [hk3 _ lt (fun h => h0 h.symm)]; exact h1, by rw [← List.append_assoc]; exact hh3⟩, hk3⟩

theorem sphOf (H : List SO) (x : SV) (c d : List Int) (hx : Byt H x c) (hd : d.length = 20) (hb : c.length ≤ 800000000) :
    Spec Try.prog 73 [x, .agg [.run .u8 20 d]] H fun v hs => v = .agg [.run .u8 20 (shaF (c ++ d))] ∧ hs = H := by
  obtain ⟨x1, x2, x3, x4⟩ := hx.facts
  refine spec_h okhOf (by simp only [x1, go_sem]) (of_ble rfl) fun C hP hf hQ hn hw hbd => ?_
  apply vc_ok 100
  simp only [FS.start, chOf, paramsE, x2, x3, x4, go_sem, reduceCtorEq, Nat.reduceEqDiff, Nat.reduceLT, Nat.reduceLeDiff, Nat.reduceAdd, ↓reduceIte]
  have hcat : ([c, d] : List (List Int)).flatten = c ++ d := by simp
  have hd2 : Byt (H ++ [.cells [.run .u8 20 d] 103 0 0, .cells [.run .u8 20 (List.replicate 20 0)] 103 0 0, .cells [.run .u8 20 d] 103 0 0, .cells [x, .sl (H.length + 2) 0 20 20] 27 0 0]) (.sl (H.length + 2) 0 20 20) d := by
    rw [show (SV.sl (H.length + 2) 0 20 20) = .sl (H.length + 2) 0 d.length 20 by rw [hd]]
    exact .inr ⟨_, _, _, _, 103, 0, 0, rfl, by omega, get_app _ _ _, rowB_run hd (by omega) (by simp [part, hd, List.take_of_length_le])⟩
  refine ok_ch hP 100 (spsOf _ (H.length + 3) [x, .sl (H.length + 2) 0 20 20] [c, d] _ _ _ (get_app _ _ _) ⟨hx.app _, hd2, trivial⟩ (by simp) (by rw [hcat]; simp; omega)) oksOf rfl rfl fun v hs3 hq => ?_
  obtain ⟨rfl, rfl⟩ := hq
  rw [hcat]
  simp only [go_sem, Nat.reduceEqDiff, Nat.reduceLT, ↓reduceIte]
  exact fin0 hf hQ hw rfl ⟨rfl, rfl⟩

/-- **The tag**, of a key's block and a message. -/
def hmF (b m : List Int) : List Int := shaF (withF b 92 ++ shaF (withF b 54 ++ m))
def hmacF (key m : List Int) : List Int := hmF (hblkF key) m
theorem hmF_len (b m : List Int) : (hmF b m).length = 20 := shaF_len _

theorem sphMTag (H : List SO) (t p : Nat) (b m : List Int) (h : MacAt H t p b m) (hb : m.length ≤ 800000000) :
    Spec Try.prog 59 [.ptr t 0] H fun v hs => v = .tup [.agg [.run .u8 20 (hmF b m)], .int .i64 0] ∧ hs = H := by
  have h' := h
  obtain ⟨h0, h1, h2⟩ := h'
  have lt := lt_of_at h1
  refine spec_h okhMTag rfl (of_ble rfl) fun C hP hf hQ hn hw hbd => ?_
  apply vc_ok 100
  simp only [FS.start, chMTag, paramsE, go_sem, reduceCtorEq, Nat.reduceLT, ↓reduceIte]
  have hh : ∀ l, HashAt (H ++ l) p (withF b 54 ++ m) := fun l => by obtain ⟨b, e1, e2⟩ := h2; exact ⟨b, at_old e1 _, e2.app _⟩
  refine ok_ch hP 100 (sphNone _ t p b m ⟨h0, at_old h1 _, hh _⟩) okhNone rfl rfl fun v hs' hq => ?_
  obtain ⟨rfl, rfl⟩ := hq
  simp only [h1, lt, macC, hx_old, eq_self, go_sem, reduceCtorEq, Nat.reduceEqDiff, Nat.reduceLT, Nat.reduceBEq, ↓reduceIte]
  refine ok_dch hP 100 (spWith _ t p b 92 _ (at_old h1 _)) okhWith rfl (call_ev rfl rfl rfl) fun v hs2 hq => ?_
  obtain ⟨o, rfl, hown⟩ := hq
  have hy := hown.byt0
  simp only [List.append_assoc, List.cons_append, List.nil_append] at hy
  obtain ⟨y1, y2, y3, y4⟩ := hy.facts
  simp only [hdd dhMTagn2.eq_1, h1, lt, macC, hx_old, eq_self, go_sem, Nat.reduceEqDiff, Nat.reduceLT, Nat.reduceBEq, ↓reduceIte]
  refine ok_dch hP 100 (spsHSum _ p _ (hh _) (by simp [withF_len]; omega)) oksHSum rfl rfl fun v hs2 hq => ?_
  obtain ⟨rfl, rfl⟩ := hq
  simp only [hdd dhMTagn1.eq_1, y1, eq_self, go_sem, Nat.reduceEqDiff, Nat.reduceLT, Nat.reduceBEq, ↓reduceIte]
  refine ok_dch hP 100 (sphOf _ v _ _ hy (shaF_len _) (by simp [withF_len])) okhOf rfl (call_ev rfl rfl (by simp only [y1, go_sem])) fun v hs2 hq => ?_
  obtain ⟨rfl, rfl⟩ := hq
  simp only [hdd dhMTagn0.eq_1, hx_new0, hx_snew0, eq_self, go_sem, Nat.reduceEqDiff, Nat.reduceLT, ↓reduceIte]
  exact fin0 hf hQ hw rfl ⟨rfl, rfl⟩
#print axioms sphMTag
end Go.Pv
