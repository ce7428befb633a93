/- kdf: connections. -/
import Derived.Test.YtifoaokodgbhjaaSw
namespace Go.Pv
open Go Go.Proofs
def ckOf : FnC := ⟨20, [(.a 2 6)], (.seq (.reg [(.mk (some 1) none (.bx 38 (.t 0))), (.mk (some 2) none (.al 67 [(.int .u32 0), (.int .u16 0), (.int .u32 0), (.int .u32 0), (.int .u16 0), (.int .u32 0)]))]) (.seq (.reg [(.mk (some 3) none (.fa 0 (.t 1))), (.mk (some 4) none (.ld (.t 3))), (.mk (some 5) none (.fa 2 (.t 1))), (.mk (some 6) none (.ld (.t 5))), (.mk (some 7) none (.fa 4 (.t 1))), (.mk (some 8) none (.ld (.t 7))), (.mk (some 9) none (.bld [(.int .u32 0), (.int .u16 0), (.int .u32 0)] [(0, (1, (.t 4))), (1, (1, (.t 6))), (2, (1, (.t 8)))])), (.mk (some 10) none (.bld [(.int .u32 0), (.int .u16 0), (.int .u32 0)] [(0, (3, (.t 9)))])), (.mk (some 11) none (.fa 1 (.t 1))), (.mk (some 12) none (.ld (.t 11))), (.mk (some 13) none (.fa 3 (.t 1))), (.mk (some 14) none (.ld (.t 13))), (.mk (some 15) none (.fa 5 (.t 1))), (.mk (some 16) none (.ld (.t 15))), (.mk (some 17) none (.bld [(.int .u32 0), (.int .u16 0), (.int .u32 0)] [(0, (1, (.t 12))), (1, (1, (.t 14))), (2, (1, (.t 16)))])), (.mk (some 18) none (.bld [(.int .u32 0), (.int .u16 0), (.int .u32 0)] [(0, (3, (.t 17)))])), (.mk (some 19) none (.bld [(.int .u32 0), (.int .u16 0), (.int .u32 0), (.int .u32 0), (.int .u16 0), (.int .u32 0)] [(0, (3, (.t 10))), (3, (3, (.t 18)))])), (.mk none none (.sta (.t 2) (.t 19) 6))]) .ret))⟩
theorem okkOf : FnOk Try.prog 29 ckOf := fnOk_mk Try.f29 (by kernel_rfl) (by kernel_rfl) (by kernel_rfl) (by kernel_rfl) (by kernel_rfl)
def ckLink : FnC := ⟨24, [(.a 2 6)], (.seq (.reg [(.mk (some 1) none (.bx 67 (.t 0))), (.mk (some 2) none (.al 38 [(.int .u32 0), (.int .u32 0), (.int .u16 0), (.int .u16 0), (.int .u32 0), (.int .u32 0)]))]) (.seq (.dreg (.tk 0 (.mk (some 5) none (.fa 0 (.t 1))) (.tk 1 (.mk (some 6) none (.fa 0 (.t 5))) (.tk 2 (.mk (some 7) none (.lda (.t 6) 3)) (.tk 3 (.mk (some 8) none (.fa 3 (.t 1))) (.tk 4 (.mk (some 9) none (.fa 0 (.t 8))) (.tk 5 (.mk (some 10) none (.lda (.t 9) 3)) (.two 6 (.mk (some 3) none (.al 62 [(.int .u32 0), (.int .u16 0), (.int .u32 0)])) [] (.one 7 (.mk (some 4) none (.al 62 [(.int .u32 0), (.int .u16 0), (.int .u32 0)])) [] (.one 8 (.mk none none (.sta (.t 3) (.t 7) 3)) [6, 2, 0, 1, 7] (.one 9 (.mk none none (.sta (.t 4) (.t 10) 3)) [7, 5, 8, 0, 1, 2, 3, 4, 6] .fin))) 7 (.mk (some 4) none (.al 62 [(.int .u32 0), (.int .u16 0), (.int .u32 0)])) [] (.one 6 (.mk (some 3) none (.al 62 [(.int .u32 0), (.int .u16 0), (.int .u32 0)])) [] (.one 8 (.mk none none (.sta (.t 3) (.t 7) 3)) [6, 2, 0, 1, 7] (.one 9 (.mk none none (.sta (.t 4) (.t 10) 3)) [7, 5, 8, 0, 1, 2, 3, 4, 6] .fin))))))))))) (.seq (.reg [(.mk (some 11) none (.fa 0 (.t 3))), (.mk (some 12) none (.ld (.t 11))), (.mk (some 13) none (.fa 0 (.t 4))), (.mk (some 14) none (.ld (.t 13))), (.mk (some 15) none (.fa 1 (.t 3))), (.mk (some 16) none (.ld (.t 15))), (.mk (some 17) none (.fa 1 (.t 4))), (.mk (some 18) none (.ld (.t 17))), (.mk (some 19) none (.fa 2 (.t 3))), (.mk (some 20) none (.ld (.t 19))), (.mk (some 21) none (.fa 2 (.t 4))), (.mk (some 22) none (.ld (.t 21))), (.mk (some 23) none (.bld [(.int .u32 0), (.int .u32 0), (.int .u16 0), (.int .u16 0), (.int .u32 0), (.int .u32 0)] [(0, (1, (.t 12))), (1, (1, (.t 14))), (2, (1, (.t 16))), (3, (1, (.t 18))), (4, (1, (.t 20))), (5, (1, (.t 22)))])), (.mk none none (.sta (.t 2) (.t 23) 6))]) .ret)))⟩
theorem okkLink : FnOk Try.prog 32 ckLink := fnOk_mk Try.f32 (by kernel_rfl) (by kernel_rfl) (by kernel_rfl) (by kernel_rfl) (by kernel_rfl)
def ckTurned : FnC := ⟨18, [(.a 2 6)], (.seq (.reg [(.mk (some 1) none (.bx 38 (.t 0))), (.mk (some 2) none (.al 38 [(.int .u32 0), (.int .u32 0), (.int .u16 0), (.int .u16 0), (.int .u32 0), (.int .u32 0)]))]) (.seq (.reg [(.mk (some 4) none (.lda (.t 1) 6)), (.mk (some 5) none (.call (.c (.fn 29 [])) [(.t 4)])), (.mk (some 3) none (.al 67 [(.int .u32 0), (.int .u16 0), (.int .u32 0), (.int .u32 0), (.int .u16 0), (.int .u32 0)])), (.mk none none (.sta (.t 3) (.t 5) 6))]) (.seq (.reg [(.mk (some 6) none (.fa 3 (.t 3))), (.mk (some 7) none (.fa 0 (.t 6))), (.mk (some 8) none (.lda (.t 7) 3)), (.mk (some 9) none (.fa 0 (.t 3))), (.mk (some 10) none (.fa 0 (.t 9))), (.mk (some 11) none (.lda (.t 10) 3)), (.mk (some 12) none (.fa 0 (.t 3))), (.mk (some 13) none (.fa 0 (.t 12))), (.mk none none (.sta (.t 13) (.t 8) 3)), (.mk (some 14) none (.fa 3 (.t 3))), (.mk (some 15) none (.fa 0 (.t 14))), (.mk none none (.sta (.t 15) (.t 11) 3))]) (.seq (.reg [(.mk (some 16) none (.lda (.t 3) 6)), (.mk (some 17) none (.call (.c (.fn 32 [])) [(.t 16)])), (.mk none none (.sta (.t 2) (.t 17) 6))]) .ret))))⟩
theorem okkTurned : FnOk Try.prog 16 ckTurned := fnOk_mk Try.f16 (by kernel_rfl) (by kernel_rfl) (by kernel_rfl) (by kernel_rfl) (by kernel_rfl)
def dkContextn0 : DT := (.one 20 (.mk (some 2) none (.mv (.t 33))) [] .fin)
def dkContextn1 : DT := (.one 18 (.mk (some 32) none (.bsl 27 6 [.nils, .nils, .nils, .nils, .nils, .nils] [(0, (1, (.t 16))), (1, (1, (.t 19))), (2, (1, (.t 22))), (3, (1, (.t 25))), (4, (1, (.t 28))), (5, (1, (.t 31)))])) [2, 5, 8, 11, 14, 17, 1, 4, 7, 10, 13, 16, 0, 3, 6, 9, 12, 15] (.one 19 (.mk (some 33) none (.call (.c (.fn 27 [])) [(.t 32)])) [18, 17, 2, 5, 8, 11, 14, 16, 1, 4, 7, 10, 13, 15, 0, 3, 6, 9, 12] dkContextn0))
def dkContextn2 : DT := (.one 17 (.mk (some 31) none (.call (.c (.fn 30 [])) [(.t 30), (.c (.int .i64 4))])) [16, 14, 15, 13, 11, 12, 10, 8, 9, 7, 5, 6, 4, 2, 3, 1, 0] dkContextn1)
def dkContextn3 : DT := (.one 14 (.mk (some 28) none (.call (.c (.fn 30 [])) [(.t 27), (.c (.int .i64 4))])) [13, 11, 12, 10, 8, 9, 7, 5, 6, 4, 2, 3, 1, 0] dkContextn2)
def dkContextn4 : DT := (.one 11 (.mk (some 25) none (.call (.c (.fn 28 [])) [(.t 24), (.c (.int .i64 2))])) [10, 8, 9, 7, 5, 6, 4, 2, 3, 1, 0] dkContextn3)
def dkContextn5 : DT := (.one 8 (.mk (some 22) none (.call (.c (.fn 28 [])) [(.t 21), (.c (.int .i64 2))])) [7, 5, 6, 4, 2, 3, 1, 0] dkContextn4)
def dkContextn6 : DT := (.one 5 (.mk (some 19) none (.call (.c (.fn 30 [])) [(.t 18), (.c (.int .i64 4))])) [4, 2, 3, 1, 0] dkContextn5)
def ckContext : FnC := ⟨34, [(.t 2)], (.seq (.reg [(.mk (some 1) none (.bx 38 (.t 0))), (.mk (some 2) none (.mv (.c .nils)))]) (.seq (.reg [(.mk (some 6) none (.lda (.t 1) 6)), (.mk (some 7) none (.call (.c (.fn 29 [])) [(.t 6)])), (.mk (some 3) none (.al 67 [(.int .u32 0), (.int .u16 0), (.int .u32 0), (.int .u32 0), (.int .u16 0), (.int .u32 0)])), (.mk none none (.sta (.t 3) (.t 7) 6))]) (.seq (.dreg (.tk 0 (.mk (some 8) none (.fa 0 (.t 3))) (.tk 1 (.mk (some 9) none (.fa 0 (.t 8))) (.tk 2 (.mk (some 10) none (.lda (.t 9) 3)) (.tk 3 (.mk (some 11) none (.fa 3 (.t 3))) (.tk 4 (.mk (some 12) none (.fa 0 (.t 11))) (.tk 5 (.mk (some 13) none (.lda (.t 12) 3)) (.two 6 (.mk (some 4) none (.al 62 [(.int .u32 0), (.int .u16 0), (.int .u32 0)])) [] (.one 7 (.mk (some 5) none (.al 62 [(.int .u32 0), (.int .u16 0), (.int .u32 0)])) [] (.one 8 (.mk none none (.sta (.t 4) (.t 10) 3)) [6, 2, 0, 1, 7] (.one 9 (.mk none none (.sta (.t 5) (.t 13) 3)) [7, 5, 8, 0, 1, 2, 3, 4, 6] .fin))) 7 (.mk (some 5) none (.al 62 [(.int .u32 0), (.int .u16 0), (.int .u32 0)])) [] (.one 6 (.mk (some 4) none (.al 62 [(.int .u32 0), (.int .u16 0), (.int .u32 0)])) [] (.one 8 (.mk none none (.sta (.t 4) (.t 10) 3)) [6, 2, 0, 1, 7] (.one 9 (.mk none none (.sta (.t 5) (.t 13) 3)) [7, 5, 8, 0, 1, 2, 3, 4, 6] .fin))))))))))) (.seq (.dreg (.tk 0 (.mk (some 14) none (.fa 0 (.t 4))) (.tk 1 (.mk (some 15) none (.ld (.t 14))) (.tk 3 (.mk (some 17) none (.fa 0 (.t 5))) (.tk 4 (.mk (some 18) none (.ld (.t 17))) (.tk 6 (.mk (some 20) none (.fa 1 (.t 4))) (.tk 7 (.mk (some 21) none (.ld (.t 20))) (.tk 9 (.mk (some 23) none (.fa 1 (.t 5))) (.tk 10 (.mk (some 24) none (.ld (.t 23))) (.tk 12 (.mk (some 26) none (.fa 2 (.t 4))) (.tk 13 (.mk (some 27) none (.ld (.t 26))) (.tk 15 (.mk (some 29) none (.fa 2 (.t 5))) (.tk 16 (.mk (some 30) none (.ld (.t 29))) (.one 2 (.mk (some 16) none (.call (.c (.fn 30 [])) [(.t 15), (.c (.int .i64 4))])) [1, 0] dkContextn6)))))))))))))) .ret))))⟩
theorem okkContext : FnOk Try.prog 14 ckContext := fnOk_mk Try.f14 (by kernel_rfl) (by kernel_rfl) (by kernel_rfl) (by kernel_rfl) (by kernel_rfl)


/-- A connection. -/
def lnkV (a b p q f g : Int) : SV := .agg [.int .u32 a, .int .u32 b, .int .u16 p, .int .u16 q, .int .u32 f, .int .u32 g]
def bothV (a b p q f g : Int) : SV := .agg [.int .u32 a, .int .u16 p, .int .u32 f, .int .u32 b, .int .u16 q, .int .u32 g]

theorem spkOf (H : List SO) (a b p q f g : Int) : Spec Try.prog 29 [lnkV a b p q f g] H fun v hs => v = bothV a b p q f g ∧ hs = H := by
  refine spec_h okkOf rfl (of_ble rfl) fun C hP hf hQ h0 hw hbd => ?_
  apply vc_ok 100
  simp only [FS.start, ckOf, paramsE, lnkV, hx_new, hx_new0, hx_snew, eq_self, go_sem, reduceCtorEq, Nat.reduceEqDiff, Nat.reduceLT, Nat.reduceAdd, Nat.reduceSub, ↓reduceIte]
  exact fin0 hf hQ hw rfl ⟨rfl, rfl⟩

theorem spkLink (H : List SO) (a b p q f g : Int) : Spec Try.prog 32 [bothV a b p q f g] H fun v hs => v = lnkV a b p q f g ∧ hs = H := by
  refine spec_h okkLink rfl (of_ble rfl) fun C hP hf hQ h0 hw hbd => ?_
  apply vc_ok 100
  simp only [FS.start, ckLink, paramsE, bothV, hx_new, hx_new0, hx_snew, eq_self, go_sem, reduceCtorEq, Nat.reduceEqDiff, Nat.reduceLT, Nat.reduceAdd, Nat.reduceSub, Nat.reduceBEq, ↓reduceIte]
  refine ⟨?_, ?_⟩
  · exact fin0 hf hQ hw rfl ⟨rfl, rfl⟩
  · exact fin0 hf hQ hw rfl ⟨rfl, rfl⟩

theorem spkTurned (H : List SO) (a b p q f g : Int) : Spec Try.prog 16 [lnkV a b p q f g] H fun v hs => v = lnkV b a q p g f ∧ hs = H := by
  refine spec_h okkTurned rfl (of_ble rfl) fun C hP hf hQ h0 hw hbd => ?_
  apply vc_ok 100
  simp only [FS.start, ckTurned, paramsE, lnkV, hx_new0, eq_self, go_sem, reduceCtorEq, Nat.reduceEqDiff, Nat.reduceLT, Nat.reduceSub, ↓reduceIte]
  refine ok_ch hP 100 (spkOf _ a b p q f g) okkOf rfl rfl fun v hs' hq => ?_
  obtain ⟨rfl, rfl⟩ := hq
  simp only [bothV, hx_new, hx_snew, eq_self, go_sem, reduceCtorEq, Nat.reduceEqDiff, Nat.reduceLT, Nat.reduceAdd, Nat.reduceSub, ↓reduceIte]
  refine ok_ch hP 100 (spkLink _ b a q p g f) okkLink rfl rfl fun v hs' hq => ?_
  obtain ⟨rfl, rfl⟩ := hq
  simp only [lnkV, hx_new, hx_snew, eq_self, go_sem, reduceCtorEq, Nat.reduceEqDiff, Nat.reduceLT, Nat.reduceAdd, Nat.reduceSub, ↓reduceIte]
  exact fin0 hf hQ hw rfl ⟨rfl, rfl⟩

def ctxF (a b p q f g : Int) : List Int := highD a ++ (highD b ++ (highB p ++ (highB q ++ (highD f ++ highD g))))

theorem spkContext (H : List SO) (a b p q f g : Int) : Spec Try.prog 14 [lnkV a b p q f g] H fun v hs => ∃ o, hs = H ++ [o] ∧ OwnG H.length (ctxF a b p q f g) v o := by
  refine spec_h okkContext rfl (of_ble rfl) fun C hP hf hQ h0 hw hbd => ?_
  apply vc_ok 100
  simp only [FS.start, ckContext, paramsE, lnkV, hx_new0, eq_self, go_sem, reduceCtorEq, Nat.reduceEqDiff, Nat.reduceLT, Nat.reduceSub, ↓reduceIte]
  refine ok_ch hP 100 (spkOf _ a b p q f g) okkOf rfl rfl fun v hs' hq => ?_
  obtain ⟨rfl, rfl⟩ := hq
  simp only [bothV, hx_new, hx_snew, eq_self, go_sem, reduceCtorEq, Nat.reduceEqDiff, Nat.reduceLT, Nat.reduceAdd, Nat.reduceSub, Nat.reduceBEq, ↓reduceIte]
  refine ⟨?_, ?_⟩
  all_goals
    refine ok_dch hP 100 (spkHighD _ _) okkHighD rfl rfl fun v hs' hq => ?_
    obtain ⟨rfl, rfl⟩ := hq
    simp only [hdd dkContextn6.eq_1, hx_new, eq_self, go_sem, Nat.reduceEqDiff, Nat.reduceLT, Nat.reduceAdd, Nat.reduceBEq, ↓reduceIte]
    refine ok_dch hP 100 (spkHighD _ _) okkHighD rfl rfl fun v hs' hq => ?_
    obtain ⟨rfl, rfl⟩ := hq
    simp only [hdd dkContextn5.eq_1, hx_new, eq_self, go_sem, Nat.reduceEqDiff, Nat.reduceLT, Nat.reduceAdd, Nat.reduceBEq, ↓reduceIte]
    refine ok_dch hP 100 (spkHighB _ _) okkHighB rfl rfl fun v hs' hq => ?_
    obtain ⟨rfl, rfl⟩ := hq
    simp only [hdd dkContextn4.eq_1, hx_new, eq_self, go_sem, Nat.reduceEqDiff, Nat.reduceLT, Nat.reduceAdd, Nat.reduceBEq, ↓reduceIte]
    refine ok_dch hP 100 (spkHighB _ _) okkHighB rfl rfl fun v hs' hq => ?_
    obtain ⟨rfl, rfl⟩ := hq
    simp only [hdd dkContextn3.eq_1, hx_new, eq_self, go_sem, Nat.reduceEqDiff, Nat.reduceLT, Nat.reduceAdd, Nat.reduceBEq, ↓reduceIte]
    refine ok_dch hP 100 (spkHighD _ _) okkHighD rfl rfl fun v hs' hq => ?_
    obtain ⟨rfl, rfl⟩ := hq
    simp only [hdd dkContextn2.eq_1, hx_new, eq_self, go_sem, Nat.reduceEqDiff, Nat.reduceLT, Nat.reduceAdd, Nat.reduceBEq, ↓reduceIte]
    refine ok_dch hP 100 (spkHighD _ _) okkHighD rfl rfl fun v hs' hq => ?_
    obtain ⟨rfl, rfl⟩ := hq
    simp only [hdd dkContextn1.eq_1, eq_self, go_sem, Nat.reduceEqDiff, Nat.reduceLT, Nat.reduceAdd, Nat.reduceBEq, ↓reduceIte]
    have hcat : ([highD a, highD b, highB p, highB q, highD f, highD g] : List (List Int)).flatten = ctxF a b p q f g := by simp [ctxF]
    refine ok_dch hP 100 (spConcat _ (H.length + 10) [.sl (H.length + 4) 0 4 4, .sl (H.length + 5) 0 4 4, .sl (H.length + 6) 0 2 2, .sl (H.length + 7) 0 2 2, .sl (H.length + 8) 0 4 4, .sl (H.length + 9) 0 4 4] [highD a, highD b, highB p, highB q, highD f, highD g] 27 0 0 (by simp only [go_sem])
      ⟨byt_run (by simp only [go_sem] <;> rfl) rfl, byt_run (by simp only [go_sem] <;> rfl) rfl, byt_run (by simp only [go_sem] <;> rfl) rfl, byt_run (by simp only [go_sem] <;> rfl) rfl, byt_run (by simp only [go_sem] <;> rfl) rfl, byt_run (by simp only [go_sem] <;> rfl) rfl, trivial⟩ (by simp) (by rw [hcat]; simp [ctxF, highB, highD])) okConcat rfl rfl fun v hs' hq => ?_
    rw [hcat] at hq
    rcases hq with ⟨hnil, _, _⟩ | ⟨o, rfl, hown⟩
    · simp [ctxF, highD] at hnil
    · have ho := hown.g.one
      have ho1 := hown.g.c1
      simp only [hdd dkContextn0.eq_1, ho, eq_self, go_sem, Nat.reduceLT, ↓reduceIte]
      refine ⟨hf.symm, ?_⟩
      rw [hQ]
      refine gq_ownS (j := H.length + 11) (o := o) (l := ctxF a b p q f g) hw (fun u hu => by simp only [hu, hx_old, eq_self]) (by omega) (by simp only [go_sem]) ?_ fun v' o' h => ⟨o', rfl, h⟩
      have hg := hown.g
      simp only [len_app, List.length_cons, List.length_nil, Nat.reduceAdd] at hg
      exact hg
end Go.Pv
