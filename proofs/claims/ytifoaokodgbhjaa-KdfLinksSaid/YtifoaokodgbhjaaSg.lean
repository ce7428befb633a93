/- sha1: New, Copy, Sum, Of. -/
import Derived.Test.YtifoaokodgbhjaaSf
namespace Go.Pv
open Go Go.Proofs
def dsCopyn0 : DT := (.one 6 (.mk (some 11) none (.bld [.nils] [(0, (1, (.t 10)))])) [] (.one 15 (.mk (some 20) none (.bld [.nils, (.run .u32 5 [0, 0, 0, 0, 0]), (.int .i64 0), (.bool false)] [(0, (1, (.t 11))), (1, (5, (.t 15))), (6, (1, (.t 19))), (7, (1, (.c (.bool true))))])) [] (.one 16 (.mk (some 21) none (.bx 158 (.t 20))) [15, 6, 10, 14, 5, 9, 13, 4, 8, 12, 3, 7, 11, 2, 1, 0] (.one 17 (.mk (some 2) none (.mv (.t 21))) [] .fin))))
def csCopy : FnC := ⟨22, [(.t 2)], (.seq (.reg [(.mk (some 2) none (.mv (.c .nilp)))]) (.seq (.seq (.reg [(.mk (some 3) none (.mv (.t 0))), (.mk (some 4) none (.call (.c (.fn 81 [])) [(.t 3)]))]) (.cond (.t 4) (.seq (.reg [(.mk (some 2) none (.mv (.c .nilp)))]) .ret) .skip)) (.seq (.dreg (.tk 0 (.mk (some 5) none (.mv (.t 0))) (.tk 1 (.mk (some 6) none (.nc (.t 5))) (.tk 2 (.mk (some 7) none (.fa 0 (.t 6))) (.tk 3 (.mk (some 8) none (.fa 0 (.t 7))) (.tk 4 (.mk (some 9) none (.ld (.t 8))) (.tk 7 (.mk (some 12) none (.mv (.t 0))) (.tk 8 (.mk (some 13) none (.nc (.t 12))) (.tk 9 (.mk (some 14) none (.fa 1 (.t 13))) (.tk 10 (.mk (some 15) none (.lda (.t 14) 5)) (.tk 11 (.mk (some 16) none (.mv (.t 0))) (.tk 12 (.mk (some 17) none (.nc (.t 16))) (.tk 13 (.mk (some 18) none (.fa 6 (.t 17))) (.tk 14 (.mk (some 19) none (.ld (.t 18))) (.one 5 (.mk (some 10) none (.call (.c (.fn 40 [])) [(.t 9)])) [4, 3, 2, 1, 0] dsCopyn0))))))))))))))) .ret)))⟩
theorem oksCopy : FnOk Try.prog 87 csCopy := fnOk_mk Try.f87 (by kernel_rfl) (by kernel_rfl) (by kernel_rfl) (by kernel_rfl) (by kernel_rfl)
def lsHSumn0 : IC := (.seq (.reg [(.mk (some 34) none (.bin .lss (.t 33) (.c (.int .i64 4))))]) (.seq (.cond (.t 34) .skip (.exit 2)) (.seq (.block 3 (.seq (.reg [(.mk (some 35) none (.mv (.t 33))), (.mk (some 8) none (.mv (.t 35)))]) (.reg [(.mk (some 36) none (.mv (.t 6))), (.mk (some 37) none (.bin .mul (.c (.int .i64 4)) (.t 36))), (.mk (some 38) none (.mv (.t 8))), (.mk (some 39) none (.bin .add (.t 37) (.t 38))), (.mk (some 40) none (.mv (.t 7))), (.mk (some 41) none (.mv (.t 8))), (.mk (some 42) none (.bin .mul (.c (.int .i64 8)) (.t 41))), (.mk (some 43) none (.bin .sub (.c (.int .i64 24)) (.t 42))), (.mk (some 44) none (.bin .shr (.t 40) (.t 43))), (.mk (some 45) none (.cvi .u8 (.t 44))), (.mk (some 46) none (.iaa 20 1 (.t 2) (.t 39))), (.mk none none (.st (.t 46) (.t 45)))]))) (.reg [(.mk (some 47) none (.bin .add (.t 33) (.c (.int .i64 1)))), (.mk (some 33) none (.mv (.t 47)))]))))
def tsHSumn1 : IC := (.reg [(.mk (some 48) none (.bin .add (.t 29) (.c (.int .i64 1)))), (.mk (some 29) none (.mv (.t 48)))])
def lsHSumn2 : IC := (.seq (.reg [(.mk (some 30) none (.bin .lss (.t 29) (.c (.int .i64 5))))]) (.seq (.cond (.t 30) .skip (.exit 0)) (.seq (.block 1 (.seq (.reg [(.mk (some 31) none (.mv (.t 29))), (.mk (some 32) none (.idx 5 1 false (.t 28) (.t 29))), (.mk (some 6) none (.mv (.t 31))), (.mk (some 7) none (.mv (.t 32)))]) (.seq (.reg [(.mk (some 33) none (.mv (.c (.int .i64 0))))]) (.block 2 (.loop lsHSumn0))))) tsHSumn1)))
def tsHSumn3 : IC := (.seq (.reg [(.mk (some 49) none (.lda (.t 2) 20)), (.mk none none (.sta (.t 2) (.t 49) 20))]) .ret)
def csHSum : FnC := ⟨50, [(.a 2 20)], (.seq (.reg [(.mk (some 2) none (.al 103 [(.run .u8 20 (List.replicate 20 0))]))]) (.seq (.seq (.reg [(.mk (some 9) none (.mv (.t 0))), (.mk (some 10) none (.call (.c (.fn 81 [])) [(.t 9)]))]) (.cond (.t 10) (.seq (.reg [(.mk (some 11) none (.lda (.t 2) 20)), (.mk none none (.sta (.t 2) (.t 11) 20))]) .ret) .skip)) (.seq (.reg [(.mk (some 12) none (.mv (.t 0))), (.mk (some 13) none (.call (.c (.fn 87 [])) [(.t 12)])), (.mk (some 3) none (.mv (.t 13)))]) (.seq (.reg [(.mk (some 15) none (.mv (.t 0))), (.mk (some 16) none (.nc (.t 15))), (.mk (some 17) none (.fa 6 (.t 16))), (.mk (some 18) none (.ld (.t 17))), (.mk (some 19) none (.call (.c (.fn 88 [])) [(.t 18)])), (.mk (some 14) none (.mv (.t 19))), (.mk (some 20) none (.ext (.t 14) 0)), (.mk (some 21) none (.ext (.t 14) 1)), (.mk (some 4) none (.mv (.t 20))), (.mk (some 5) none (.mv (.t 21)))]) (.seq (.reg [(.mk (some 22) none (.mv (.t 3))), (.mk (some 23) none (.mv (.t 4))), (.mk (some 24) none (.call (.c (.fn 69 [])) [(.t 22), (.t 23)]))]) (.seq (.seq (.reg [(.mk (some 25) none (.mv (.t 3))), (.mk (some 26) none (.nc (.t 25))), (.mk (some 27) none (.fa 1 (.t 26))), (.mk (some 28) none (.lda (.t 27) 5)), (.mk (some 29) none (.mv (.c (.int .i64 0))))]) (.block 0 (.loop lsHSumn2))) tsHSumn3))))))⟩
theorem oksHSum : FnOk Try.prog 74 csHSum := fnOk_mk Try.f74 (by kernel_rfl) (by kernel_rfl) (by kernel_rfl) (by kernel_rfl) (by kernel_rfl)
def lsOfn0 : IC := (.seq (.reg [(.mk (some 10) none (.bin .lss (.t 9) (.t 8)))]) (.seq (.cond (.t 10) .skip (.exit 0)) (.seq (.block 1 (.seq (.reg [(.mk (some 11) none (.ias 1 (.t 7) (.t 9))), (.mk (some 12) none (.ld (.t 11))), (.mk (some 5) none (.mv (.t 12)))]) (.reg [(.mk (some 13) none (.mv (.t 3))), (.mk (some 14) none (.mv (.t 5))), (.mk (some 15) none (.call (.c (.fn 69 [])) [(.t 13), (.t 14)]))]))) (.reg [(.mk (some 16) none (.bin .add (.t 9) (.c (.int .i64 1)))), (.mk (some 9) none (.mv (.t 16)))]))))
def tsOfn1 : IC := (.seq (.reg [(.mk (some 17) none (.mv (.t 3))), (.mk (some 18) none (.call (.c (.fn 74 [])) [(.t 17)])), (.mk none none (.sta (.t 2) (.t 18) 20))]) .ret)
def csOf : FnC := ⟨19, [(.a 2 20)], (.seq (.reg [(.mk (some 2) none (.al 103 [(.run .u8 20 (List.replicate 20 0))]))]) (.seq (.reg [(.mk (some 6) none (.call (.c (.fn 68 [])) [])), (.mk (some 3) none (.mv (.t 6)))]) (.seq (.seq (.reg [(.mk (some 7) none (.mv (.t 0))), (.mk (some 8) none (.len (.t 7))), (.mk (some 9) none (.mv (.c (.int .i64 0))))]) (.block 0 (.loop lsOfn0))) tsOfn1)))⟩
theorem oksOf : FnOk Try.prog 86 csOf := fnOk_mk Try.f86 (by kernel_rfl) (by kernel_rfl) (by kernel_rfl) (by kernel_rfl) (by kernel_rfl)
def csSum : FnC := ⟨6, [(.a 2 20)], (.seq (.reg [(.mk (some 2) none (.al 103 [(.run .u8 20 (List.replicate 20 0))]))]) (.seq (.reg [(.mk (some 3) none (.mv (.t 0))), (.mk (some 4) none (.bsl 27 1 [.nils] [(0, (1, (.t 3)))])), (.mk (some 5) none (.call (.c (.fn 86 [])) [(.t 4)])), (.mk none none (.sta (.t 2) (.t 5) 20))]) .ret))⟩
theorem oksSum : FnOk Try.prog 79 csSum := fnOk_mk Try.f79 (by kernel_rfl) (by kernel_rfl) (by kernel_rfl) (by kernel_rfl) (by kernel_rfl)


theorem spsFirstH (H : List SO) : Spec Try.prog 80 [] H fun x hs => x = .agg [.run .u32 5 firstS] ∧ hs = H := spec_val spsFirst rfl rfl H
theorem spsTailH (H : List SO) (n : Nat) (hn : n < 2 ^ 60) : Spec Try.prog 88 [.int .i64 n] H fun x hs => ∃ y o, x = .tup [y, .int .i64 0] ∧ hs = H ++ [o] ∧ Own H.length (tailF n) y o := by
  refine (spec_frame (spsTail n hn) rfl H).mono ?_
  intro x hs ⟨x', hs', ⟨y, o, h1, h2, cap, L, h3, h4, h5, h6, h7⟩, h8, h9⟩
  subst h1 h2 h6 h7 h8 h9
  exact ⟨_, _, rfl, rfl, cap, L, h3, h4, h5, rfl, rfl⟩

theorem hash_nil (H : List SO) : HashAt (H ++ [hashC .nils firstS 0]) H.length [] := ⟨.nils, get_app0 _ _, .inl ⟨rfl, rfl⟩⟩

theorem spsNew (H : List SO) : Spec Try.prog 68 [] H fun v hs => v = .ptr H.length 0 ∧ hs = H ++ [hashC .nils firstS 0] := by
  refine spec_h oksNew rfl (of_ble rfl) fun C hP hf hQ h0 hw hbd => ?_
  apply vc_ok 100
  simp only [FS.start, csNew, paramsE, go_sem, Nat.reduceLT, ↓reduceIte]
  refine ok_ch hP 100 (spsFirstH H) oksFirst rfl rfl fun v hs' hq => ?_
  obtain ⟨rfl, rfl⟩ := hq
  simp only [go_sem, reduceCtorEq, Nat.reduceLT, Nat.reduceLeDiff, Nat.reduceSub, ↓reduceIte]
  refine ⟨hf.symm, ?_⟩
  rw [hQ]
  exact gq_all hw rfl (by simp [SV.bnd]) ⟨rfl, rfl⟩

theorem spsCopy (H : List SO) (t : Nat) (m : List Int) (h : HashAt H t m) : Spec Try.prog 87 [.ptr t 0] H fun v hs => ∃ p, v = .ptr p 0 ∧ H.length ≤ p ∧ HashAt hs p m ∧ ∀ u, u < H.length → hs[u]? = H[u]? := by
  have hno := spsNone H t m h
  obtain ⟨b, h1, h2⟩ := h
  obtain ⟨b1, b2, b3, b4⟩ := h2.facts
  have hlr : (restF m).length < 64 := by simp [restF]; omega
  refine spec_h oksCopy rfl (of_ble rfl) fun C hP hf hQ h0 hw hbd => ?_
  apply vc_ok 100
  simp only [FS.start, csCopy, paramsE, go_sem, reduceCtorEq, Nat.reduceLT, ↓reduceIte]
  refine ok_ch hP 100 hno oksNone rfl rfl fun v hs' hq => ?_
  obtain ⟨rfl, rfl⟩ := hq
  simp only [b1, b3, h1, hashC, go_sem, reduceCtorEq, Nat.reduceEqDiff, Nat.reduceLT, Nat.reduceLeDiff, Nat.reduceSub, Nat.reduceBEq, ↓reduceIte]
  refine ok_dch hP 100 (spCloneH hs' b _ h2 (by omega)) okClone rfl (call_ev rfl rfl (by simp only [b1, go_sem])) fun v hs2 hq => ?_
  rcases hq with ⟨rfl, hnil, rfl, rfl⟩ | ⟨o, rfl, hown⟩
  · simp only [hdd dsCopyn0.eq_1, b2, h1, hashC, eq_self, go_sem, reduceCtorEq, Nat.reduceEqDiff, Nat.reduceLT, Nat.reduceLeDiff, Nat.reduceSub, Nat.reduceBEq, ↓reduceIte]
    refine ⟨hf.symm, ?_⟩
    rw [hQ]
    refine gq_all hw rfl (by simp [SV.bnd]) ⟨_, rfl, Nat.le_refl _, ⟨.nils, get_app0 _ _, .inl ⟨rfl, hnil⟩⟩, fun u hu => hx_old hu⟩
  · have ho := hown.byt0
    obtain ⟨cap, L, c1, c2, c3, rfl, rfl⟩ := hown
    have lt := lt_of_at h1
    simp only [hdd dsCopyn0.eq_1, lt, h1, hashC, hx_old, eq_self, go_sem, reduceCtorEq, Nat.reduceEqDiff, Nat.reduceLT, Nat.reduceLeDiff, Nat.reduceSub, Nat.reduceBEq, ↓reduceIte]
    refine ⟨hf.symm, ?_⟩
    rw [hQ]
    refine gq_all hw (by simp only [List.all_cons, SO.bnd, bnds, SV.bnd, List.all_nil, List.length_cons, List.length_nil]; simp) (by simp [SV.bnd]) ⟨_, rfl, by omega, ⟨_, get_app _ _ _, ?_⟩, fun u hu => hx_old hu⟩
    have := ho.app [hashC (.sl hs'.length 0 (restF m).length cap) (stF m) m.length]
    simpa [hashC] using this

def digS (st : List Int) (i k : Nat) (d : List Int) : List Int := d.set (4 * i + k) (IntKind.u8.wrap ((st.getD i 0).fdiv (2 ^ min (24 - 8 * k) 32)))
/-- The sum's bytes. -/
def digF (st : List Int) : List Int := it (fun i d => it (digS st i) 4 d) 5 (List.replicate 20 0)
/-- **The sum.** -/
def shaF (m : List Int) : List Int := digF (stF (m ++ tailF m.length))

theorem tailF_len (n : Nat) : (tailF n).length ≤ 100 := by
  have : padN n < 64 := Nat.mod_lt _ (by decide)
  rw [tailF, tailL_len]; omega

theorem spsHSum (H : List SO) (t : Nat) (m : List Int) (h : HashAt H t m) (hm : m.length ≤ 900000000) : Spec Try.prog 74 [.ptr t 0] H fun v hs => v = .agg [.run .u8 20 (shaF m)] ∧ hs = H := by
  have h' := h
  obtain ⟨b, h1, h2⟩ := h'
  have lt := lt_of_at h1
  obtain ⟨b1, b2, b3, b4⟩ := h2.facts
  refine spec_h oksHSum rfl (of_ble rfl) fun C hP hf hQ h0 hw hbd => ?_
  apply vc_ok 100
  simp only [FS.start, csHSum, paramsE, go_sem, reduceCtorEq, Nat.reduceLT, ↓reduceIte]
  have hh : ∀ l, HashAt (H ++ l) t m := fun l => ⟨b, at_old h1 _, h2.app _⟩
  refine ok_ch hP 100 (spsNone _ t m (hh _)) oksNone rfl rfl fun v hs' hq => ?_
  obtain ⟨rfl, rfl⟩ := hq
  simp only [go_sem, reduceCtorEq, Nat.reduceLT, ↓reduceIte]
  refine ok_ch hP 100 (spsCopy _ t m (hh _)) oksCopy rfl rfl fun v hs' hq => ?_
  obtain ⟨p, rfl, hp, hc, hk⟩ := hq
  simp only [go_sem] at hp hk
  have k1 : hs'[t]? = some (hashC b (stF m) m.length) := by rw [hk t (by omega), hx_old lt]; exact h1
  have k2 : hs'[H.length]? = some (.cells [.run .u8 20 (List.replicate 20 0)] 103 0 0) := by rw [hk _ (by omega), get_app0]; rfl
  simp only [k1, b3, hashC, go_sem, reduceCtorEq, Nat.reduceLT, Nat.reduceSub, ↓reduceIte]
  refine ok_ch hP 100 (spsTailH _ m.length (by omega)) oksTail rfl rfl fun v hs2 hq => ?_
  obtain ⟨y, o, rfl, rfl, hown⟩ := hq
  have hy := hown.byt0
  obtain ⟨y1, y2, y3, y4⟩ := hy.facts
  simp only [y1, go_sem, Nat.reduceEqDiff, Nat.reduceLT, ↓reduceIte]
  have hl := tailF_len m.length
  have hc' : HashAt (hs' ++ [o]) p m := by obtain ⟨b, e1, e2⟩ := hc; exact ⟨b, at_old e1 _, e2.app _⟩
  have hpl : p < hs'.length := by obtain ⟨b, e1, e2⟩ := hc; exact lt_of_at e1
  refine ok_ch hP 100 (spsWrite _ p m _ y hc' hy (by omega)) oksWrite rfl (call_ev rfl rfl (by simp only [y1, go_sem])) fun v hs3 hq => ?_
  obtain ⟨rfl, ⟨b', e1, e2⟩, hk3⟩ := hq
  simp only [len_app, List.length_cons, List.length_nil] at hk3
  obtain ⟨q1, q2, q3, q4⟩ := e2.facts
  simp only [e1, q3, hashC, go_sem, reduceCtorEq, Nat.reduceEqDiff, Nat.reduceLT, Nat.reduceLeDiff, Nat.reduceSub, ↓reduceIte]
  have d1 : hs3[H.length]? = some (.cells [.run .u8 20 (List.replicate 20 0)] 103 0 0) := by rw [hk3 _ (by omega) (by omega), hx_old (by omega)]; exact k2
  have d2 : ∀ u, u < H.length → hs3[u]? = H[u]? := by
    intro u hu
    rw [hk3 u (by omega) (by omega), hx_old (by omega), hk u (by omega), hx_old hu]
  refine ok_less (env' := [(29, .int .i64 (0 : Nat)), (28, .agg [.run .u32 5 (stF (m ++ tailF m.length))]), (2, .ptr H.length 0)]) ?_ (by simp only [envSub, go_sem, Nat.reduceEqDiff, ↓reduceIte] <;> rfl)
  generalize hst : stF (m ++ tailF m.length) = st
  refine up (p := fun i => ∀ Hd : List SO, Hd[H.length]? = some (.cells [.run .u8 20 (it (fun i d => it (digS st i) 4 d) i (List.replicate 20 0))] 103 0 0) → (∀ u, u < H.length → Hd[u]? = H[u]?) →
    Ok C [⟨74, none, 50, [.a 2 20], [(29, .int .i64 i), (28, .agg [.run .u32 5 st]), (2, .ptr H.length 0)], [.c lsHSumn2, .lp lsHSumn2, .blk 0, .c tsHSumn3], []⟩] Hd) 5 ?_ ?_ hs3 d1 d2
  · intro i hi ih Hd f1 f2
    have h1 : decide ((i : Int) < 5) = true := by simp; omega
    refine ok_head lsHSumn2.eq_1 (vc_ok 100 _ _ ?_)
    simp only [h1, go_sem, Nat.reduceEqDiff, Nat.reduceLT, ↓reduceIte]
    refine ⟨⟨⟨by omega, by omega⟩, by omega⟩, ?_⟩
    refine ok_less (env' := [(33, .int .i64 (0 : Nat)), (6, .int .i64 i), (7, .int .u32 (st.getD i 0)), (29, .int .i64 i), (28, .agg [.run .u32 5 st]), (2, .ptr H.length 0)]) ?_ (by simp only [envSub, go_sem, Nat.reduceEqDiff, ↓reduceIte] <;> rfl)
    refine up (p := fun k => ∀ Hd : List SO, Hd[H.length]? = some (.cells [.run .u8 20 (it (digS st i) k (it (fun i d => it (digS st i) 4 d) i (List.replicate 20 0)))] 103 0 0) → (∀ u, u < H.length → Hd[u]? = H[u]?) →
      Ok C [⟨74, none, 50, [.a 2 20], [(33, .int .i64 k), (6, .int .i64 i), (7, .int .u32 (st.getD i 0)), (29, .int .i64 i), (28, .agg [.run .u32 5 st]), (2, .ptr H.length 0)], [.c lsHSumn0, .lp lsHSumn0, .blk 2, .blk 1, .c tsHSumn1, .lp lsHSumn2, .blk 0, .c tsHSumn3], []⟩] Hd) 4 ?_ ?_ Hd f1 f2
    · intro k hk ih2 Hd f1 f2
      have h1 : decide ((k : Int) < 4) = true := by simp; omega
      have w1 : IntKind.i64.wrap (4 * (i : Int)) = ((4 * i : Nat) : Int) := by rw [w64 (by omega) (by omega)]; omega
      have w2 : IntKind.i64.wrap (((4 * i : Nat) : Int) + (k : Int)) = ((4 * i + k : Nat) : Int) := by rw [w64 (by omega) (by omega)]; omega
      have w3 : IntKind.i64.wrap (8 * (k : Int)) = ((8 * k : Nat) : Int) := by rw [w64 (by omega) (by omega)]; omega
      have w4 : IntKind.i64.wrap (24 - ((8 * k : Nat) : Int)) = ((24 - 8 * k : Nat) : Int) := by rw [w64 (by omega) (by omega)]; omega
      have l1 := lt_of_at f1
      refine ok_head lsHSumn0.eq_1 (vc_ok 100 _ _ ?_)
      simp only [h1, w1, w2, w3, w4, f1, eq_self, go_sem, Nat.reduceEqDiff, Nat.reduceLT, ↓reduceIte]
      refine ⟨by omega, ⟨by omega, by omega⟩, by omega, ok_less (ih2 _ ?_ ?_) ?_⟩
      · simp only [l1, hx_eq]; rfl
      · intro u hu
        have e : (H.length = u) = False := by simp; omega
        simp only [e, hx_ne, ne_eq, not_false_eq_true]; exact f2 u hu
      · simp only [envSub, w64s (show k + 1 < 9223372036854775808 by omega), go_sem, Nat.reduceEqDiff, ↓reduceIte]
    · intro Hd f1 f2
      have h1 : decide (((4 : Nat) : Int) < 4) = false := by simp
      refine ok_head lsHSumn0.eq_1 (vc_ok 100 _ _ ?_)
      simp only [hd tsHSumn1.eq_1, go_sem, Nat.reduceEqDiff, Nat.reduceLT, Int.reduceLT, ↓reduceIte]
      refine ok_less (ih Hd f1 f2) ?_
      simp only [envSub, w64s (show i + 1 < 9223372036854775808 by omega), go_sem, Nat.reduceEqDiff, ↓reduceIte]
  · intro Hd f1 f2
    have h1 : decide (((5 : Nat) : Int) < 5) = false := by simp
    have l1 := lt_of_at f1
    refine ok_head lsHSumn2.eq_1 (vc_ok 100 _ _ ?_)
    simp only [hd tsHSumn3.eq_1, f1, l1, hx_eq, eq_self, go_sem, Nat.reduceEqDiff, Nat.reduceLT, Int.reduceLT, ↓reduceIte]
    refine ⟨hf.symm, ?_⟩
    rw [hQ]
    refine gq_keep hw ?_ rfl ⟨?_, rfl⟩
    · intro u hu
      have e : (H.length = u) = False := by simp; omega
      simp only [e, hx_ne, ne_eq, not_false_eq_true]; exact f2 u hu
    · rw [← hst]; rfl

theorem stF_nil : stF [] = firstS := rfl

theorem spsOf (H : List SO) (t : Nat) (xs : List SV) (cs : List (List Int)) (ty a b : Nat) (ht : H[t]? = some (.cells xs ty a b)) (hp : Parts H xs cs) (hn : xs.length ≤ 1000000) (hb : cs.flatten.length ≤ 900000000) :
    Spec Try.prog 86 [.sl t 0 xs.length xs.length] H fun v hs => v = .agg [.run .u8 20 (shaF cs.flatten)] ∧ hs = H := by
  refine spec_h oksOf rfl (of_ble rfl) fun C hP hf hQ h0 hw hbd => ?_
  have hl := hp.len
  have ho := hp.ones
  have lt := lt_of_at ht
  apply vc_ok 100
  simp only [FS.start, csOf, paramsE, go_sem, Nat.reduceLT, ↓reduceIte]
  refine ok_ch hP 100 (spsNew _) oksNew rfl rfl fun v hs' hq => ?_
  obtain ⟨rfl, rfl⟩ := hq
  simp only [go_sem, reduceCtorEq, Nat.reduceLT, ↓reduceIte]
  refine ok_less (env' := [(9, .int .i64 (0 : Nat)), (8, .int .i64 xs.length), (7, .sl t 0 xs.length xs.length), (3, .ptr (H.length + 1) 0), (2, .ptr H.length 0)]) ?_ (by simp only [envSub, go_sem, Nat.reduceEqDiff, ↓reduceIte] <;> rfl)
  refine up (p := fun i => ∀ Hd : List SO, HashAt Hd (H.length + 1) (cs.take i).flatten → Hd[H.length]? = some (.cells [.run .u8 20 (List.replicate 20 0)] 103 0 0) → (∀ u, u < H.length → Hd[u]? = H[u]?) →
    Ok C [⟨86, none, 19, [.a 2 20], [(9, .int .i64 i), (8, .int .i64 xs.length), (7, .sl t 0 xs.length xs.length), (3, .ptr (H.length + 1) 0), (2, .ptr H.length 0)], [.c lsOfn0, .lp lsOfn0, .blk 0, .c tsOfn1], []⟩] Hd) xs.length ?_ ?_ _ ⟨.nils, by rw [get_app, List.take_zero]; rfl, .inl ⟨rfl, by simp [restF]⟩⟩ (get_app0 _ _) fun u hu => hx_old hu
  · intro i hi ih Hd hh hdd0 hk
    have h1 : decide ((i : Int) < (xs.length : Int)) = true := by simp; omega
    have h2 := ldR_ones hi ho
    have hx := (hp.at_ i hi).keep hk
    obtain ⟨x1, x2, x3, x4⟩ := hx.facts
    have h4 := tot_succ cs i (by omega)
    have h5 := tot_le cs (i + 1)
    rw [h4] at h5 ih
    rw [List.length_append] at h5
    have ht' : Hd[t]? = some (.cells xs ty a b) := by rw [hk t lt]; exact ht
    refine ok_head lsOfn0.eq_1 (vc_ok 100 _ _ ?_)
    simp only [h1, h2, ht', x1, go_sem, Nat.reduceEqDiff, Nat.reduceLT, ↓reduceIte]
    refine ⟨⟨by omega, by omega⟩, ?_⟩
    refine ok_ch hP 100 (spsWrite _ _ _ _ _ hh hx (by omega)) oksWrite rfl (call_ev rfl rfl (by simp only [x1, go_sem])) fun v hs3 hq => ?_
    obtain ⟨rfl, hh3, hk3⟩ := hq
    have ld := lt_of_at hdd0
    simp only [go_sem, Nat.reduceEqDiff, Nat.reduceLT, ↓reduceIte]
    refine ok_less (ih hs3 hh3 ?_ ?_) ?_
    · rw [hk3 _ ld (by omega)]; exact hdd0
    · intro u hu
      rw [hk3 u (by omega) (by omega)]; exact hk u hu
    · simp only [envSub, w64s (show i + 1 < 9223372036854775808 by omega), go_sem, Nat.reduceEqDiff, ↓reduceIte]
  · intro Hd hh hdd0 hk
    have h1 : decide ((xs.length : Int) < (xs.length : Int)) = false := by simp
    have ld := lt_of_at hdd0
    rw [hl, List.take_length] at hh
    refine ok_head lsOfn0.eq_1 (vc_ok 100 _ _ ?_)
    simp only [hd tsOfn1.eq_1, h1, go_sem, Nat.reduceEqDiff, Nat.reduceLT, ↓reduceIte]
    refine ok_ch hP 100 (spsHSum _ _ _ hh (by omega)) oksHSum rfl rfl fun v hs3 hq => ?_
    obtain ⟨rfl, rfl⟩ := hq
    simp only [hdd0, ld, hx_eq, eq_self, go_sem, Nat.reduceEqDiff, Nat.reduceLT, ↓reduceIte]
    refine ⟨hf.symm, ?_⟩
    rw [hQ]
    refine gq_keep hw ?_ rfl ⟨rfl, rfl⟩
    intro u hu
    have e : (H.length = u) = False := by simp; omega
    simp only [e, hx_ne, ne_eq, not_false_eq_true]; exact hk u hu

theorem spsSum (H : List SO) (x : SV) (c : List Int) (hx : Byt H x c) (hb : c.length ≤ 900000000) : Spec Try.prog 79 [x] H fun v hs => v = .agg [.run .u8 20 (shaF c)] ∧ hs = H := by
  obtain ⟨x1, x2, x3, x4⟩ := hx.facts
  refine spec_h oksSum (by simp only [x1, go_sem]) (of_ble rfl) fun C hP hf hQ h0 hw hbd => ?_
  apply vc_ok 100
  simp only [FS.start, csSum, paramsE, x2, x4, go_sem, reduceCtorEq, Nat.reduceLT, ↓reduceIte]
  have hcat : ([c] : List (List Int)).flatten = c := by simp
  refine ok_ch hP 100 (spsOf _ (H.length + 1) [x] [c] _ _ _ (get_app _ _ _) ⟨hx.app _, trivial⟩ (by simp) (by rw [hcat]; omega)) oksOf rfl rfl fun v hs3 hq => ?_
  obtain ⟨rfl, rfl⟩ := hq
  rw [hcat]
  simp only [go_sem, Nat.reduceEqDiff, Nat.reduceLT, ↓reduceIte]
  exact fin0 hf hQ hw rfl ⟨rfl, rfl⟩
#print axioms spsSum
end Go.Pv
