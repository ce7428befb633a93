/- law 6: KdfLinks. -/
import Derived.Test.YtifoaokodgbhjaaTa
namespace Go.Pv
open Go Go.Proofs
def dlLinksn0 : DT := (.one 16 (.mk (some 19) none (.pick (.t 17) (.t 18) (.c (.bool false)))) [] (.one 17 (.mk (some 2) none (.mv (.t 19))) [] .fin))
def dlLinksn1 : DT := (.one 12 (.mk (some 15) (some (10, true)) (.eqa false [(.int .u32 0), (.int .u32 0), (.int .u16 0), (.int .u16 0), (.int .u32 0), (.int .u32 0)] (.t 12) (.t 14))) [] (.one 13 (.mk (some 16) none (.pick (.t 10) (.t 15) (.c (.bool false)))) [] (.one 14 (.mk (some 17) none (.mv (.t 16))) [] (.one 15 (.mk (some 18) (some (17, true)) (.call (.c (.fn 10 [])) [])) [14, 13, 11, 7, 12, 10, 9, 6, 4, 8, 2, 5, 3, 1, 0] dlLinksn0))))
def dlLinksn2 : DT := (.one 11 (.mk (some 14) (some (10, true)) (.call (.c (.fn 17 [])) [(.t 13)])) [10, 9, 7, 8, 6, 4, 2, 5, 3, 1, 0] dlLinksn1)
def dlLinksn3 : DT := (.one 5 (.mk (some 8) none (.b2s (.t 7))) [4, 3, 1, 0] (.one 6 (.mk (some 9) none (.bin .eql (.t 5) (.t 8))) [] (.one 7 (.mk (some 10) none (.mv (.t 9))) [] (.tk 8 (.mk (some 11) (some (10, true)) (.lda (.t 1) 6)) (.tk 10 (.mk (some 13) (some (10, true)) (.lda (.t 1) 6)) (.one 9 (.mk (some 12) (some (10, true)) (.call (.c (.fn 16 [])) [(.t 11)])) [8, 7, 6, 4, 2, 5, 3, 1, 0] dlLinksn2))))))
def dlLinksn4 : DT := (.one 16 (.mk (some 19) none (.pick (.t 17) (.t 18) (.c (.bool false)))) [] (.one 17 (.mk (some 2) none (.mv (.t 19))) [] .fin))
def dlLinksn5 : DT := (.one 12 (.mk (some 15) (some (10, true)) (.eqa false [(.int .u32 0), (.int .u32 0), (.int .u16 0), (.int .u16 0), (.int .u32 0), (.int .u32 0)] (.t 12) (.t 14))) [] (.one 13 (.mk (some 16) none (.pick (.t 10) (.t 15) (.c (.bool false)))) [] (.one 14 (.mk (some 17) none (.mv (.t 16))) [] (.one 15 (.mk (some 18) (some (17, true)) (.call (.c (.fn 10 [])) [])) [14, 13, 11, 7, 12, 10, 9, 6, 4, 8, 2, 5, 3, 1, 0] dlLinksn4))))
def dlLinksn6 : DT := (.one 11 (.mk (some 14) (some (10, true)) (.call (.c (.fn 17 [])) [(.t 13)])) [10, 9, 7, 8, 6, 4, 2, 5, 3, 1, 0] dlLinksn5)
def dlLinksn7 : DT := (.one 16 (.mk (some 19) none (.pick (.t 17) (.t 18) (.c (.bool false)))) [] (.one 17 (.mk (some 2) none (.mv (.t 19))) [] .fin))
def dlLinksn8 : DT := (.one 12 (.mk (some 15) (some (10, true)) (.eqa false [(.int .u32 0), (.int .u32 0), (.int .u16 0), (.int .u16 0), (.int .u32 0), (.int .u32 0)] (.t 12) (.t 14))) [] (.one 13 (.mk (some 16) none (.pick (.t 10) (.t 15) (.c (.bool false)))) [] (.one 14 (.mk (some 17) none (.mv (.t 16))) [] (.one 15 (.mk (some 18) (some (17, true)) (.call (.c (.fn 10 [])) [])) [14, 13, 11, 7, 12, 10, 9, 6, 4, 8, 2, 5, 3, 1, 0] dlLinksn7))))
def dlLinksn9 : DT := (.one 11 (.mk (some 14) (some (10, true)) (.call (.c (.fn 17 [])) [(.t 13)])) [10, 9, 7, 8, 6, 4, 2, 5, 3, 1, 0] dlLinksn8)
def dlLinksn10 : DT := (.two 2 (.mk (some 5) none (.b2s (.t 4))) [1, 0] (.one 4 (.mk (some 7) none (.call (.c (.fn 15 [])) [(.t 6)])) [3, 1, 0] dlLinksn3) 4 (.mk (some 7) none (.call (.c (.fn 15 [])) [(.t 6)])) [3, 1, 0] (.two 2 (.mk (some 5) none (.b2s (.t 4))) [1, 0] (.one 5 (.mk (some 8) none (.b2s (.t 7))) [4, 3, 1, 0] (.one 6 (.mk (some 9) none (.bin .eql (.t 5) (.t 8))) [] (.one 7 (.mk (some 10) none (.mv (.t 9))) [] (.tk 8 (.mk (some 11) (some (10, true)) (.lda (.t 1) 6)) (.tk 10 (.mk (some 13) (some (10, true)) (.lda (.t 1) 6)) (.one 9 (.mk (some 12) (some (10, true)) (.call (.c (.fn 16 [])) [(.t 11)])) [8, 7, 6, 4, 2, 5, 3, 1, 0] dlLinksn6)))))) 5 (.mk (some 8) none (.b2s (.t 7))) [4, 3, 1, 0] (.one 2 (.mk (some 5) none (.b2s (.t 4))) [1, 0] (.one 6 (.mk (some 9) none (.bin .eql (.t 5) (.t 8))) [] (.one 7 (.mk (some 10) none (.mv (.t 9))) [] (.tk 8 (.mk (some 11) (some (10, true)) (.lda (.t 1) 6)) (.tk 10 (.mk (some 13) (some (10, true)) (.lda (.t 1) 6)) (.one 9 (.mk (some 12) (some (10, true)) (.call (.c (.fn 16 [])) [(.t 11)])) [8, 7, 6, 4, 2, 5, 3, 1, 0] dlLinksn9))))))))
def clLinks : FnC := ⟨20, [(.t 2)], (.seq (.reg [(.mk (some 1) none (.bx 38 (.t 0))), (.mk (some 2) none (.mv (.c (.bool false))))]) (.seq (.dreg (.tk 0 (.mk (some 3) none (.lda (.t 1) 6)) (.tk 3 (.mk (some 6) none (.lda (.t 1) 6)) (.one 1 (.mk (some 4) none (.call (.c (.fn 14 [])) [(.t 3)])) [0] dlLinksn10)))) .ret))⟩
theorem oklLinks : FnOk Try.prog 5 clLinks := fnOk_mk Try.f5 (by kernel_rfl) (by kernel_rfl) (by kernel_rfl) (by kernel_rfl) (by kernel_rfl)


theorem splLinks (H : List SO) (a b p q f g : Int) (ha : 0 ≤ a ∧ a < 4294967296) (hb : 0 ≤ b ∧ b < 4294967296) (hp : 0 ≤ p ∧ p < 65536) (hq' : 0 ≤ q ∧ q < 65536) (hf' : 0 ≤ f ∧ f < 4294967296) (hg : 0 ≤ g ∧ g < 4294967296) :
    Spec Try.prog 5 [lnkV a b p q f g] H fun v hs => v = .bool true ∧ hs = H := by
  refine spec_h oklLinks rfl (of_ble rfl) fun C hP hf hQ h0 hw hbd => ?_
  apply vc_ok 100
  simp only [FS.start, clLinks, paramsE, lnkV, hx_new0, eq_self, go_sem, reduceCtorEq, Nat.reduceEqDiff, Nat.reduceLT, Nat.reduceSub, Nat.reduceBEq, ↓reduceIte]
  refine ok_dch hP 100 (spkContext _ a b p q f g) okkContext rfl rfl fun v hs' hq => ?_
  obtain ⟨o, rfl, hy⟩ := hq
  obtain ⟨e1, e2, e3, e4⟩ := hy.facts
  simp only [len_app, List.length_cons, List.length_nil, Nat.reduceAdd] at hy
  rw [ctxF_eq ha hb hp hq' hf' hg] at hy
  have s0 := b2sQ_own (H := H) hy
  refine ⟨by simp only [hx_new0, eq_self, go_sem, Nat.reduceBEq, ↓reduceIte], ?_⟩
  simp only [hdd dlLinksn10.eq_1, s0, hx_new, eq_self, go_sem, Nat.reduceEqDiff, Nat.reduceLT, Nat.reduceBEq, ↓reduceIte]
  refine ⟨?_, ?_⟩
  · refine ok_dch hP 100 (sprContext _ a b p q f g) okrContext rfl rfl fun v2 hs' hq => ?_
    obtain ⟨o2, rfl, hy2⟩ := hq
    obtain ⟨g1, g2, g3, g4⟩ := hy2.facts
    simp only [len_app, List.length_cons, List.length_nil, Nat.reduceAdd] at hy2
    have s1 := b2sQ_own (H := H) hy2
    refine ⟨by simp only [eq_self, go_sem, Nat.reduceBEq, ↓reduceIte], ?_⟩
    simp only [hdd dlLinksn3.eq_1, s1, beq_self_eq_true, hx_new, hx_new0, eq_self, go_sem, reduceCtorEq, Nat.reduceEqDiff, Nat.reduceLT, Nat.reduceSub, Nat.reduceBEq, ↓reduceIte]
    refine ok_dch hP 100 (spkTurned _ a b p q f g) okkTurned rfl rfl fun v3 hs' hq => ?_
    obtain ⟨rfl, rfl⟩ := hq
    simp only [hdd dlLinksn2.eq_1, lnkV, hx_new0, eq_self, go_sem, Nat.reduceEqDiff, Nat.reduceLT, Nat.reduceBEq, ↓reduceIte]
    refine ok_dch hP 100 (sprTurned _ a b p q f g) okrTurned rfl rfl fun v3 hs' hq => ?_
    obtain ⟨rfl, rfl⟩ := hq
    simp only [hdd dlLinksn1.eq_1, lnkV, beq_self_eq_true, eq_self, go_sem, Nat.reduceEqDiff, Nat.reduceLT, Nat.reduceBEq, ↓reduceIte]
    refine ok_dch hP 100 (splWorks6 _) oklWorks6 rfl rfl fun v3 hs' hq => ?_
    obtain ⟨rfl, rfl⟩ := hq
    simp only [hdd dlLinksn0.eq_1, eq_self, go_sem, Nat.reduceEqDiff, Nat.reduceLT, ↓reduceIte]
    exact fin0 hf hQ hw rfl ⟨rfl, rfl⟩
  · refine ok_sch hP 100 (sprContext _ a b p q f g) okrContext rfl rfl fun v2 hs' hq => ?_
    obtain ⟨o2, rfl, hy2⟩ := hq
    obtain ⟨g1, g2, g3, g4⟩ := hy2.facts
    simp only [len_app, List.length_cons, List.length_nil, Nat.reduceAdd] at hy2
    have s1 := b2sQ_own (H := H) hy2
    refine ⟨by simp only [eq_self, go_sem, Nat.reduceBEq, ↓reduceIte], ?_⟩
    simp only [s0, s1, beq_self_eq_true, hx_new, hx_new0, eq_self, go_sem, reduceCtorEq, Nat.reduceEqDiff, Nat.reduceLT, Nat.reduceSub, Nat.reduceBEq, ↓reduceIte]
    refine ⟨?_, ?_⟩
    · skip
      refine ok_dch hP 100 (spkTurned _ a b p q f g) okkTurned rfl rfl fun v3 hs' hq => ?_
      obtain ⟨rfl, rfl⟩ := hq
      simp only [hdd dlLinksn6.eq_1, lnkV, hx_new0, eq_self, go_sem, Nat.reduceEqDiff, Nat.reduceLT, Nat.reduceBEq, ↓reduceIte]
      refine ok_dch hP 100 (sprTurned _ a b p q f g) okrTurned rfl rfl fun v3 hs' hq => ?_
      obtain ⟨rfl, rfl⟩ := hq
      simp only [hdd dlLinksn5.eq_1, lnkV, beq_self_eq_true, eq_self, go_sem, Nat.reduceEqDiff, Nat.reduceLT, Nat.reduceBEq, ↓reduceIte]
      refine ok_dch hP 100 (splWorks6 _) oklWorks6 rfl rfl fun v3 hs' hq => ?_
      obtain ⟨rfl, rfl⟩ := hq
      simp only [hdd dlLinksn4.eq_1, eq_self, go_sem, Nat.reduceEqDiff, Nat.reduceLT, ↓reduceIte]
      exact fin0 hf hQ hw rfl ⟨rfl, rfl⟩
    · skip
      refine ok_dch hP 100 (spkTurned _ a b p q f g) okkTurned rfl rfl fun v3 hs' hq => ?_
      obtain ⟨rfl, rfl⟩ := hq
      simp only [hdd dlLinksn9.eq_1, lnkV, hx_new0, eq_self, go_sem, Nat.reduceEqDiff, Nat.reduceLT, Nat.reduceBEq, ↓reduceIte]
      refine ok_dch hP 100 (sprTurned _ a b p q f g) okrTurned rfl rfl fun v3 hs' hq => ?_
      obtain ⟨rfl, rfl⟩ := hq
      simp only [hdd dlLinksn8.eq_1, lnkV, beq_self_eq_true, eq_self, go_sem, Nat.reduceEqDiff, Nat.reduceLT, Nat.reduceBEq, ↓reduceIte]
      refine ok_dch hP 100 (splWorks6 _) oklWorks6 rfl rfl fun v3 hs' hq => ?_
      obtain ⟨rfl, rfl⟩ := hq
      simp only [hdd dlLinksn7.eq_1, eq_self, go_sem, Nat.reduceEqDiff, Nat.reduceLT, ↓reduceIte]
      exact fin0 hf hQ hw rfl ⟨rfl, rfl⟩
end Go.Pv
