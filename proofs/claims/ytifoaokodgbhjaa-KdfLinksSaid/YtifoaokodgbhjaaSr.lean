/- cmac: a tag under way, and the tag. -/
import Derived.Test.YtifoaokodgbhjaaSq
namespace Go.Pv
open Go Go.Proofs
def ccNew : FnC := ⟨17, [(.t 2), (.t 3)], (.seq (.reg [(.mk (some 2) none (.mv (.c .nilp))), (.mk (some 3) none (.mv (.c (.int .i64 0))))]) (.seq (.reg [(.mk (some 7) none (.mv (.t 0))), (.mk (some 8) none (.call (.c (.fn 60 [])) [(.t 7)])), (.mk (some 6) none (.mv (.t 8))), (.mk (some 9) none (.ext (.t 6) 0)), (.mk (some 10) none (.ext (.t 6) 1)), (.mk (some 4) none (.mv (.t 9))), (.mk (some 5) none (.mv (.t 10)))]) (.seq (.seq (.reg [(.mk (some 11) none (.mv (.t 5))), (.mk (some 12) none (.bin .neq (.t 11) (.c (.int .i64 0))))]) (.cond (.t 12) (.seq (.reg [(.mk (some 13) none (.mv (.t 5))), (.mk (some 2) none (.mv (.c .nilp))), (.mk (some 3) none (.mv (.t 13)))]) .ret) .skip)) (.seq (.reg [(.mk (some 14) none (.mv (.t 4))), (.mk (some 15) none (.bld [.nilp, (.run .u8 16 (List.replicate 16 0)), .nils] [(0, (1, (.t 14)))])), (.mk (some 16) none (.bx 123 (.t 15))), (.mk (some 2) none (.mv (.t 16))), (.mk (some 3) none (.mv (.c (.int .i64 0))))]) .ret))))⟩
theorem okcNew : FnOk Try.prog 50 ccNew := fnOk_mk Try.f50 (by kernel_rfl) (by kernel_rfl) (by kernel_rfl) (by kernel_rfl) (by kernel_rfl)
def dcMTagn0 : DT := (.one 9 (.mk none none (.sta (.t 2) (.t 24) 16)) [8, 0, 1, 2, 3, 4, 5, 6, 7] (.one 10 (.mk (some 3) none (.mv (.c (.int .i64 0)))) [] .fin))
def dcMTagn1 : DT := (.one 8 (.mk (some 24) none (.call (.c (.fn 63 [])) [(.t 16), (.t 23)])) [0, 7, 4, 6, 3, 5, 2, 1] dcMTagn0)
def dcMTagn2 : DT := (.one 7 (.mk (some 23) none (.call (.c (.fn 64 [])) [(.t 20), (.t 22)])) [4, 6, 3, 5, 2, 1] dcMTagn1)
def ccMTag : FnC := ⟨25, [(.a 2 16), (.t 3)], (.seq (.reg [(.mk (some 1) none (.bx 106 (.t 0))), (.mk (some 2) none (.al 91 [(.run .u8 16 (List.replicate 16 0))])), (.mk (some 3) none (.mv (.c (.int .i64 0))))]) (.seq (.seq (.reg [(.mk (some 7) none (.ld (.t 1))), (.mk (some 8) none (.call (.c (.fn 61 [])) [(.t 7)]))]) (.cond (.t 8) (.seq (.reg [(.mk (some 9) none (.bld [(.run .u8 16 (List.replicate 16 0))] [])), (.mk none none (.sta (.t 2) (.t 9) 16)), (.mk (some 3) none (.mv (.c (.int .i64 1))))]) .ret) .skip)) (.seq (.reg [(.mk (some 11) none (.ld (.t 1))), (.mk (some 12) none (.call (.c (.fn 65 [])) [(.t 11)])), (.mk (some 10) none (.mv (.t 12))), (.mk (some 13) none (.ext (.t 10) 0)), (.mk (some 14) none (.ext (.t 10) 1)), (.mk (some 4) none (.al 91 [(.run .u8 16 (List.replicate 16 0))])), (.mk (some 5) none (.al 91 [(.run .u8 16 (List.replicate 16 0))])), (.mk none none (.sta (.t 4) (.t 13) 16)), (.mk none none (.sta (.t 5) (.t 14) 16))]) (.seq (.reg [(.mk (some 15) none (.mkf 66 [(.t 1), (.t 4), (.t 5)])), (.mk (some 6) none (.mv (.t 15)))]) (.seq (.dreg (.tk 0 (.mk (some 16) none (.ld (.t 1))) (.tk 1 (.mk (some 17) none (.ld (.t 1))) (.tk 2 (.mk (some 18) none (.nc (.t 17))) (.tk 3 (.mk (some 19) none (.fa 1 (.t 18))) (.tk 4 (.mk (some 20) none (.lda (.t 19) 16)) (.one 5 (.mk (some 21) none (.mv (.t 6))) [] (.one 6 (.mk (some 22) none (.call (.t 21) [])) [5] dcMTagn2)))))))) .ret)))))⟩
theorem okcMTag : FnOk Try.prog 52 ccMTag := fnOk_mk Try.f52 (by kernel_rfl) (by kernel_rfl) (by kernel_rfl) (by kernel_rfl) (by kernel_rfl)
def ccMTagC : FnC := ⟨21, [(.a 3 16)], (.seq (.reg [(.mk (some 3) none (.al 91 [(.run .u8 16 (List.replicate 16 0))]))]) (.seq (.dreg (.tk 0 (.mk (some 5) none (.sla 16 1 (.t 3) none none)) (.one 1 (.mk (some 6) none (.ld (.t 0))) [] (.one 2 (.mk (some 7) none (.nc (.t 6))) [] (.one 3 (.mk (some 8) none (.fa 17 (.t 7))) [] (.one 4 (.mk (some 9) none (.ld (.t 8))) [] (.one 5 (.mk (some 10) none (.cpy 1 (.t 5) (.t 9))) [0, 4, 3, 2, 1] (.one 6 (.mk (some 4) none (.mv (.t 10))) [] .fin)))))))) (.seq (.seq (.reg [(.mk (some 11) none (.mv (.t 4))), (.mk (some 12) none (.bin .eql (.t 11) (.c (.int .i64 16))))]) (.cond (.t 12) (.seq (.reg [(.mk (some 13) none (.lda (.t 3) 16)), (.mk (some 14) none (.lda (.t 1) 16)), (.mk (some 15) none (.call (.c (.fn 64 [])) [(.t 13), (.t 14)])), (.mk none none (.sta (.t 3) (.t 15) 16))]) .ret) .skip)) (.seq (.reg [(.mk (some 16) none (.mv (.t 4))), (.mk (some 17) none (.iaa 16 1 (.t 3) (.t 16))), (.mk none none (.st (.t 17) (.c (.int .u8 128))))]) (.seq (.reg [(.mk (some 18) none (.lda (.t 3) 16)), (.mk (some 19) none (.lda (.t 2) 16)), (.mk (some 20) none (.call (.c (.fn 64 [])) [(.t 18), (.t 19)])), (.mk none none (.sta (.t 3) (.t 20) 16))]) .ret)))))⟩
theorem okcMTagC : FnOk Try.prog 66 ccMTagC := fnOk_mk Try.f66 (by kernel_rfl) (by kernel_rfl) (by kernel_rfl) (by kernel_rfl) (by kernel_rfl)


section
variable {env : Env} {hs : List SO}
theorem cpy_ev {ex ey : Ex} {t len cap m ty : Nat} {L c : List Int} {x : SV} (hx : ev env ex = some (.sl t 0 len cap)) (ht : hs[t]? = some (.cells [.run .u8 m L] ty 0 0)) (hy : ev env ey = some x) (hb : Byt hs x c) (hle : c.length ≤ len) (hm : len ≤ m) (hL : L.length = m) :
    ∃ P : Prop, P ∧ evR (.cpy 1 ex ey) env hs = .n P (.int .i64 c.length) (hs.set t (.cells [.run .u8 m (c ++ L.drop c.length)] ty 0 0)) := by
  rw [evR_cpy, hx, hy]
  rcases hb.src with ⟨rfl, rfl⟩ | hs2
  · simp only [srcO, srcC_nils, cpyQ, ht, cpyQ2, List.length_nil, Nat.zero_le, if_true, Nat.zero_mul, staC, cpyQ3, List.nil_append, List.drop_zero]
    refine ⟨_, ?_, rfl⟩
    exact ⟨trivial, trivial, trivial, by simp [free]⟩
  · simp only [srcO, hs2, cpyQ, ht, cpyQ2, hle, if_true, Nat.mul_one]
    by_cases h0 : c.length = m
    · have e : L.drop c.length = [] := List.drop_of_length_le (by omega)
      rw [e, List.append_nil]
      simp only [staC, and_self, if_true, h0, cpyQ3]
      refine ⟨_, ?_, rfl⟩
      exact ⟨trivial, trivial, trivial, by simp [free]⟩
    · simp only [staC, and_self, if_true, h0, and_false, if_false]
      simp only [cpyQ3, List.take_zero, List.nil_append, Nat.zero_add]
      refine ⟨_, ?_, rfl⟩
      exact ⟨trivial, trivial, by omega, by simp [free]⟩
end

theorem Byt.opq {H : List SO} {x : SV} {c : List Int} (h : Byt H x c) : Opq x := by
  obtain ⟨a, b, c, d⟩ := h.facts
  exact ⟨h.one, h.c1, h.nr, h.na⟩

theorem spcNew0 (H : List SO) (x : SV) (k : List Int) (hx : Byt H x k) (hl : k.length ≠ 16) (hb : k.length < 1000000) : Spec Try.prog 50 [x] H fun v hs => v = .tup [.nilp, .int .i64 2] ∧ hs = H := by
  obtain ⟨x1, x2, x3, x4⟩ := hx.facts
  refine spec_h okcNew (by simp only [x1, go_sem]) (of_ble rfl) fun C hP hf hQ h0 hw hbd => ?_
  apply vc_ok 100
  simp only [FS.start, ccNew, paramsE, x1, go_sem, reduceCtorEq, Nat.reduceLT, ↓reduceIte]
  refine ok_ch hP 100 (spaNew0 _ x k hx hl hb) okaNew rfl (call_ev rfl rfl (by simp only [x1, go_sem])) fun v hs' hq => ?_
  obtain ⟨rfl, eh⟩ := hq
  have z : ((2 : Int) != 0) = true := rfl
  simp only [eh, z, go_sem, Nat.reduceEqDiff, Nat.reduceLT, ↓reduceIte]
  exact fin00 hf hQ hw rfl ⟨rfl, rfl⟩

theorem spcNew (H : List SO) (x : SV) (k : List Int) (hx : Byt H x k) (hl : k.length = 16) (hr : Rng k) : Spec Try.prog 50 [x] H fun v hs => v = .tup [.ptr (H.length + 1) 0, .int .i64 0] ∧ hs = H ++ [.cells (cphV k) 149 0 0, cmC H.length (List.replicate 16 0) .nils] := by
  obtain ⟨x1, x2, x3, x4⟩ := hx.facts
  refine spec_h okcNew (by simp only [x1, go_sem]) (of_ble rfl) fun C hP hf hQ h0 hw hbd => ?_
  apply vc_ok 100
  simp only [FS.start, ccNew, paramsE, x1, go_sem, reduceCtorEq, Nat.reduceLT, ↓reduceIte]
  refine ok_ch hP 100 (spaNew _ x k hx hl hr) okaNew rfl (call_ev rfl rfl (by simp only [x1, go_sem])) fun v hs' hq => ?_
  obtain ⟨rfl, eh⟩ := hq
  have z : ((0 : Int) != 0) = false := rfl
  simp only [eh, z, eq_self, go_sem, Nat.reduceEqDiff, Nat.reduceLT, ↓reduceIte]
  refine ⟨hf.symm, ?_⟩
  rw [hQ]
  refine gq_all hw ?_ (by simp [bnds, SV.bnd]) ⟨rfl, rfl⟩
  have := bnds_rows (H.length + 2) (rowsK k 10)
  rw [rowsK_10] at this
  simp [SO.bnd, bnds, SV.bnd, cphV, rowsK_10, rowsV]

/-! ### What is under way -/
def nbF (m : List Int) : Nat := (m.length - 1) / 16
/-- The state behind `n` blocks. -/
def absC (k : List Int) : Nat → List Int → List Int → List Int
  | 0, st, _ => st
  | n + 1, st, l => absC k n (aesF k (xbF st (l.take 16))) (l.drop 16)
def cstF (k m : List Int) : List Int := absC k (nbF m) (List.replicate 16 0) m
def crestF (m : List Int) : List Int := m.drop (16 * nbF m)
theorem crestF_len (m : List Int) : (crestF m).length ≤ 16 := by
  simp only [crestF, nbF, List.length_drop]; omega
def CmAt (H : List SO) (t : Nat) (k m : List Int) : Prop := ∃ c b, H[t]? = some (cmC c (cstF k m) b) ∧ CphAt H c k ∧ c ≠ t ∧ Byt H b (crestF m)

/-- The last block, filled. -/
def filF (k r : List Int) : List Int :=
  if r.length = 16 then xbF r (own1 k) else xbF ((r ++ (List.replicate 16 0).drop r.length).set r.length 128) (own2 k)

theorem spcMTagC (H : List SO) (t c L A B : Nat) (k x r : List Int) (b : SV) (h : H[t]? = some (cmC c x b)) (hb : Byt H b r) (hr : r.length ≤ 16) (fL : H[L]? = some (.cells [.ptr t 0] 106 0 0))
    (fA : H[A]? = some (.cells [.run .u8 16 (own1 k)] 91 0 0)) (fB : H[B]? = some (.cells [.run .u8 16 (own2 k)] 91 0 0)) :
    Spec Try.prog 66 [.ptr L 0, .ptr A 0, .ptr B 0] H fun v hs => v = .agg [.run .u8 16 (filF k r)] ∧ hs = H := by
  have lt := lt_of_at h
  have lL := lt_of_at fL
  have lA := lt_of_at fA
  have lB := lt_of_at fB
  obtain ⟨b1, b2, b3, b4⟩ := hb.facts
  refine spec_h okcMTagC rfl (of_ble rfl) fun C hP hf hQ h0 hw hbd => ?_
  obtain ⟨P, hP2, e⟩ := cpy_ev (env := [(9, b), (8, .ptr t 17), (7, .ptr t 0), (6, .ptr t 0), (5, .sl H.length 0 16 16), (3, .ptr H.length 0), (0, .ptr L 0), (1, .ptr A 0), (2, .ptr B 0)]) (hs := H ++ [.cells [.run .u8 16 (List.replicate 16 0)] 91 0 0]) (ex := .t 5) (ey := .t 9) (t := H.length) (len := 16) (cap := 16) (m := 16) (c := r) (x := b) rfl (get_app0 _ _) rfl (hb.app _) hr (Nat.le_refl _) rfl
  apply vc_ok 100
  simp only [FS.start, ccMTagC, paramsE, h, lt, fL, lL, fA, lA, fB, lB, cmC, b3, e, eq_true hP2, hx_old, hx_new0, hx_snew0, eq_self, go_sem, reduceCtorEq, Nat.reduceEqDiff, Nat.reduceLT, Nat.reduceLeDiff, Nat.reduceAdd, Nat.reduceSub, ↓reduceIte]
  by_cases h16 : r.length = 16
  · have z : ((r.length : Int) == 16) = true := by simp; omega
    simp only [z, if_true]
    refine ok_ch hP 100 (spcXor _ _ _) okcXor rfl rfl fun v hs' hq => ?_
    obtain ⟨rfl, rfl⟩ := hq
    simp only [hx_new0, hx_snew0, eq_self, go_sem, Nat.reduceEqDiff, Nat.reduceLT, ↓reduceIte]
    refine fin0 hf hQ hw rfl ⟨?_, rfl⟩
    have e : (List.replicate 16 (0 : Int)).drop r.length = [] := List.drop_of_length_le (by simp; omega)
    simp only [filF, h16, if_true]
    rw [h16] at e
    rw [e, List.append_nil]
  · have z : ((r.length : Int) == 16) = false := by simp; omega
    simp only [z, Bool.false_eq_true, if_false]
    refine ⟨⟨by omega, by omega⟩, by omega, ?_⟩
    refine ok_ch hP 100 (spcXor _ _ _) okcXor rfl rfl fun v hs' hq => ?_
    obtain ⟨rfl, rfl⟩ := hq
    simp only [hx_new0, hx_snew0, eq_self, go_sem, Nat.reduceEqDiff, Nat.reduceLT, ↓reduceIte]
    refine fin0 hf hQ hw rfl ⟨?_, rfl⟩
    simp only [filF, h16, if_false]

/-- The tag. -/
def cmacF (k m : List Int) : List Int := aesF k (xbF (cstF k m) (filF k (crestF m)))

theorem spcMTag (H : List SO) (t : Nat) (k m : List Int) (h : CmAt H t k m) : Spec Try.prog 52 [.ptr t 0] H fun v hs => v = .tup [.agg [.run .u8 16 (cmacF k m)], .int .i64 0] ∧ hs = H := by
  obtain ⟨c, b, h1, h2, h3, h4⟩ := h
  have lt := lt_of_at h1
  have hb := h4.opq
  obtain ⟨b1, b2, b3, b4⟩ := hb
  refine spec_h okcMTag rfl (of_ble rfl) fun C hP hf hQ h0 hw hbd => ?_
  apply vc_ok 100
  simp only [FS.start, ccMTag, paramsE, hx_new0, eq_self, go_sem, Nat.reduceEqDiff, Nat.reduceLT, ↓reduceIte]
  refine ok_ch hP 100 (spcNone _ t c _ b (at_old h1 _) h4.opq) okcNone rfl rfl fun v hs' hq => ?_
  obtain ⟨rfl, rfl⟩ := hq
  simp only [hx_new0, eq_self, go_sem, Nat.reduceEqDiff, Nat.reduceLT, ↓reduceIte]
  refine ok_ch hP 100 (spcOwn _ t c k _ b (at_old h1 _) h4.opq (at_old h2 _)) okcOwn rfl rfl fun v hs' hq => ?_
  obtain ⟨rfl, rfl⟩ := hq
  have h1' := h1
  rw [cmC] at h1'
  simp only [h1', lt, hx_old, hx_new, hx_new0, hx_snew, eq_self, go_sem, reduceCtorEq, Nat.reduceEqDiff, Nat.reduceLT, Nat.reduceLeDiff, Nat.reduceAdd, Nat.reduceSub, Nat.reduceBEq, ↓reduceIte]
  refine ok_dch hP 100 (spcMTagC _ t c H.length (H.length + 2) (H.length + 3) k _ _ b (at_old h1 _) (h4.app _) (crestF_len m) (by simp only [go_sem]) (by simp only [go_sem]) (by simp only [go_sem])) okcMTagC rfl rfl fun v hs' hq => ?_
  obtain ⟨rfl, rfl⟩ := hq
  simp only [hdd dcMTagn2.eq_1, hx_new0, eq_self, go_sem, Nat.reduceEqDiff, Nat.reduceLT, Nat.reduceBEq, ↓reduceIte]
  refine ok_dch hP 100 (spcXor _ _ _) okcXor rfl rfl fun v hs' hq => ?_
  obtain ⟨rfl, rfl⟩ := hq
  simp only [hdd dcMTagn1.eq_1, hx_new0, eq_self, go_sem, Nat.reduceEqDiff, Nat.reduceLT, Nat.reduceBEq, ↓reduceIte]
  refine ok_dch hP 100 (spcMade _ t c k _ _ b (at_old h1 _) h4.opq (at_old h2 _)) okcMade rfl rfl fun v hs' hq => ?_
  obtain ⟨rfl, rfl⟩ := hq
  simp only [hdd dcMTagn0.eq_1, hx_new, hx_snew, eq_self, go_sem, Nat.reduceEqDiff, Nat.reduceLT, Nat.reduceBEq, ↓reduceIte]
  exact fin0 hf hQ hw rfl ⟨rfl, rfl⟩
end Go.Pv
