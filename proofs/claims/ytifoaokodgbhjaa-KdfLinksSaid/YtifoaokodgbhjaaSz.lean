/- law 6: few, works. -/
import Derived.Test.YtifoaokodgbhjaaSy
namespace Go.Pv
open Go Go.Proofs
def clWorks6 : FnC := ⟨75, [(.t 0)], (.seq (.reg [(.mk (some 0) none (.mv (.c (.bool false))))]) (.seq (.reg [(.mk (some 12) none (.bsl 5 2 [(.run .u8 2 [0, 0])] [(0, (1, (.c (.int .u8 97)))), (1, (1, (.c (.int .u8 98))))])), (.mk (some 13) none (.mark (.t 12))), (.mk (some 14) none (.call (.c (.fn 11 [])) [(.t 13), (.c (.int .u16 160))])), (.mk (some 11) none (.mv (.t 14))), (.mk (some 15) none (.ext (.t 11) 0)), (.mk (some 16) none (.ext (.t 11) 1)), (.mk (some 1) none (.mv (.t 15))), (.mk (some 2) none (.mv (.t 16)))]) (.seq (.reg [(.mk (some 18) none (.bsl 5 1 [(.run .u8 1 [0])] [(0, (1, (.c (.int .u8 107))))])), (.mk (some 19) none (.mark (.t 18))), (.mk (some 20) none (.call (.c (.fn 25 [])) [(.c (.int .i64 0)), (.t 19), (.c .nils)])), (.mk (some 17) none (.mv (.t 20))), (.mk (some 21) none (.ext (.t 17) 0)), (.mk (some 22) none (.ext (.t 17) 1)), (.mk (some 3) none (.mv (.t 21))), (.mk (some 4) none (.mv (.t 22)))]) (.seq (.reg [(.mk (some 24) none (.call (.c (.fn 25 [])) [(.c (.int .i64 1)), (.c .nils), (.c .nils)])), (.mk (some 23) none (.mv (.t 24))), (.mk (some 25) none (.ext (.t 23) 0)), (.mk (some 26) none (.ext (.t 23) 1)), (.mk (some 5) none (.mv (.t 25))), (.mk (some 6) none (.mv (.t 26)))]) (.seq (.reg [(.mk (some 28) none (.sls (.c (.str ⟨#[115, 105, 120, 116, 101, 101, 110, 32, 98, 121, 116, 101, 115, 32, 46, 46, 46]⟩)) none (some (.c (.int .i64 16))))), (.mk (some 29) none (.s2b 5 (.t 28))), (.mk (some 30) none (.call (.c (.fn 26 [])) [(.t 29)])), (.mk (some 27) none (.mv (.t 30))), (.mk (some 31) none (.ext (.t 27) 0)), (.mk (some 32) none (.ext (.t 27) 1)), (.mk (some 7) none (.mv (.t 31))), (.mk (some 8) none (.mv (.t 32)))]) (.seq (.reg [(.mk (some 34) none (.bsl 5 1 [(.run .u8 1 [0])] [(0, (1, (.c (.int .u8 107))))])), (.mk (some 35) none (.mark (.t 34))), (.mk (some 36) none (.bld [(.int .u32 0), (.int .u32 0), (.int .u16 0), (.int .u16 0), (.int .u32 0), (.int .u32 0)] [(0, (1, (.c (.int .u32 1))))])), (.mk (some 37) none (.call (.c (.fn 18 [])) [(.c (.int .i64 2)), (.t 35), (.t 36)])), (.mk (some 33) none (.mv (.t 37))), (.mk (some 38) none (.ext (.t 33) 0)), (.mk (some 39) none (.ext (.t 33) 1)), (.mk (some 9) none (.al 44 [.nils, .nils, .nils, .nils])), (.mk none none (.sta (.t 9) (.t 38) 4)), (.mk (some 10) none (.mv (.t 39)))]) (.seq (.reg [(.mk (some 40) none (.mv (.t 2))), (.mk (some 41) none (.call (.c (.fn 12 [])) [(.t 40)])), (.mk (some 42) none (.mv (.t 8))), (.mk (some 43) none (.call (.c (.fn 12 [])) [(.t 42)])), (.mk (some 44) none (.bin .add (.t 41) (.t 43))), (.mk (some 45) none (.mv (.t 10))), (.mk (some 46) none (.call (.c (.fn 12 [])) [(.t 45)])), (.mk (some 47) none (.bin .add (.t 44) (.t 46))), (.mk (some 48) none (.bin .eql (.t 47) (.c (.int .i64 0)))), (.mk (some 49) none (.mv (.t 48))), (.mk (some 50) (some (49, true)) (.mv (.t 1))), (.mk (some 51) (some (49, true)) (.b2s (.t 50))), (.mk (some 52) (some (49, true)) (.bin .eql (.t 51) (.c (.str ⟨#[1, 84, 67, 80, 45, 65, 79, 97, 98, 0, 160]⟩)))), (.mk (some 53) none (.pick (.t 49) (.t 52) (.c (.bool false)))), (.mk (some 54) none (.mv (.t 53))), (.mk (some 55) (some (54, true)) (.mv (.t 4))), (.mk (some 56) (some (54, true)) (.call (.c (.fn 12 [])) [(.t 55)])), (.mk (some 57) (some (54, true)) (.bin .eql (.t 56) (.c (.int .i64 2)))), (.mk (some 58) none (.pick (.t 54) (.t 57) (.c (.bool false)))), (.mk (some 59) none (.mv (.t 58))), (.mk (some 60) (some (59, true)) (.mv (.t 6))), (.mk (some 61) (some (59, true)) (.call (.c (.fn 12 [])) [(.t 60)])), (.mk (some 62) (some (59, true)) (.bin .eql (.t 61) (.c (.int .i64 2)))), (.mk (some 63) none (.pick (.t 59) (.t 62) (.c (.bool false)))), (.mk (some 64) none (.mv (.t 63))), (.mk (some 65) (some (64, true)) (.mv (.t 7))), (.mk (some 66) (some (64, true)) (.b2s (.t 65))), (.mk (some 67) (some (64, true)) (.bin .eql (.t 66) (.c (.str ⟨#[115, 105, 120, 116, 101, 101, 110, 32, 98, 121, 116, 101, 115, 32, 46, 46]⟩)))), (.mk (some 68) none (.pick (.t 64) (.t 67) (.c (.bool false)))), (.mk (some 69) none (.mv (.t 68))), (.mk (some 70) (some (69, true)) (.fa 2 (.t 9))), (.mk (some 71) (some (69, true)) (.ld (.t 70))), (.mk (some 72) (some (69, true)) (.len (.t 71))), (.mk (some 73) (some (69, true)) (.bin .eql (.t 72) (.c (.int .i64 16)))), (.mk (some 74) none (.pick (.t 69) (.t 73) (.c (.bool false)))), (.mk (some 0) none (.mv (.t 74)))]) .ret)))))))⟩
theorem oklWorks6 : FnOk Try.prog 10 clWorks6 := fnOk_mk Try.f10 (by kernel_rfl) (by kernel_rfl) (by kernel_rfl) (by kernel_rfl) (by kernel_rfl)
def clNum6 : FnC := ⟨4, [(.t 2)], (.seq (.reg [(.mk (some 2) none (.mv (.c (.int .i64 0))))]) (.seq (.reg [(.mk (some 3) none (.mv (.t 0))), (.mk (some 2) none (.mv (.t 3)))]) .ret))⟩
theorem oklNum6 : FnOk Try.prog 12 clNum6 := fnOk_mk Try.f12 (by kernel_rfl) (by kernel_rfl) (by kernel_rfl) (by kernel_rfl) (by kernel_rfl)


def strF (c : List Int) : ByteArray := ⟨(c.map fun n => UInt8.ofNat n.toNat).toArray⟩
theorem b2s_byt {env : Env} {hs : List SO} {e : Ex} {x : SV} {c : List Int} (he : ev env e = some x) (h : Byt hs x c) : evR (.b2s e) env hs = .v True (.str (strF c)) := by
  rw [evR_b2s, he]
  rcases h with ⟨rfl, rfl⟩ | ⟨t, off, cap, cs, ty, a, b, rfl, h2, h3, h4⟩
  · rfl
  · have r := h4.lda 0 c.length (by omega)
    rw [Nat.add_zero, List.drop_zero, List.take_length] at r
    simp only [b2sQ, h3, b2sQ2, r, b2sQ3, flatI, if_true, b2sQ4, strF]

theorem b2sQ_own {H : List SO} {t : Nat} {l : List Int} {x : SV} {o : SO} (h : OwnG t l x o) : ∀ M : List SO, M[t]? = some o → b2sQ M (some x) = .v True (.str (strF l)) := fun M hM => by
  have := b2s_byt (env := [(0, x)]) (hs := M) (e := .t 0) rfl (h.byt hM)
  rwa [evR_b2s] at this
theorem OwnG.len {t : Nat} {l : List Int} {x : SV} {o : SO} (h : OwnG t l x o) : lenQ (some x) = .v True (.int .i64 l.length) := by
  obtain ⟨cap, L, ty, h1, h2, h3, rfl, rfl⟩ := h; rfl
theorem keyF_len2 (m c : List Int) : (keyF 2 m c).length = 16 := by rw [keyF_2]; exact cmacF_len _ _
theorem keyF_len1 (m c : List Int) : (keyF 1 m c).length = 20 := by rw [keyF_1]; exact hmacF_len _ _

theorem spNum6 (H : List SO) (n : Int) : Spec Try.prog 12 [.int .i64 n] H fun v hs => v = .int .i64 n ∧ hs = H := by
  refine spec_h oklNum6 rfl (of_ble rfl) fun C hP hf hQ h0 hw hbd => ?_
  apply vc_ok 100
  simp only [FS.start, clNum6, paramsE, eq_self, go_sem, reduceCtorEq, Nat.reduceLT, ↓reduceIte]
  exact fin00 hf hQ hw rfl ⟨rfl, rfl⟩

def six : ByteArray := ⟨#[115, 105, 120, 116, 101, 101, 110, 32, 98, 121, 116, 101, 115, 32, 46, 46]⟩
def sixL : List Int := [115, 105, 120, 116, 101, 101, 110, 32, 98, 121, 116, 101, 115, 32, 46, 46]
theorem six_ex : (⟨#[115, 105, 120, 116, 101, 101, 110, 32, 98, 121, 116, 101, 115, 32, 46, 46, 46]⟩ : ByteArray).extract 0 16 = six := by kernel_rfl
theorem six_sz : six.size = 16 := rfl
theorem six_l : six.data.toList.map (fun b => (b.toNat : Int)) = sixL := rfl
theorem stepF_six : stepF sixL = sixL := if_pos rfl
theorem str_six : strF sixL = six := by kernel_rfl
theorem str_a : strF (inpF [97, 98] 160) = ⟨#[1, 84, 67, 80, 45, 65, 79, 97, 98, 0, 160]⟩ := by kernel_rfl

theorem splWorks6 (H : List SO) : Spec Try.prog 10 [] H fun v hs => v = .bool true ∧ hs = H := by
  refine spec_h oklWorks6 rfl (of_ble rfl) fun C hP hf hQ h0 hw hbd => ?_
  apply vc_ok 100
  simp only [FS.start, clWorks6, paramsE, hx_new0, hx_snew0, eq_self, go_sem, Nat.reduceLT, Nat.reduceAdd, ↓reduceIte]
  refine ok_ch hP 100 (spkInput _ (.sl H.length 0 2 2) [97, 98] 160 (byt_run (by simp only [go_sem]; rfl) rfl) (by decide)) okkInput rfl rfl fun v hs' hq => ?_
  obtain ⟨y0, o0, rfl, rfl, hy0⟩ := hq
  obtain ⟨e1, e2, e3, e4⟩ := hy0.facts
  simp only [e1, hx_new, hx_snew, eq_self, go_sem, Nat.reduceEqDiff, Nat.reduceLT, Nat.reduceAdd, ↓reduceIte]
  refine ok_ch hP 100 (spkKey0 _ 0 (.sl (H.length + 2) 0 1 1) .nils [107] [] (byt_run (by simp only [go_sem] <;> rfl) rfl) (.inl ⟨rfl, rfl⟩) (by decide)) okkKey rfl rfl fun v hs' hq => ?_
  obtain ⟨rfl, rfl⟩ := hq
  simp only [eq_self, go_sem, Nat.reduceEqDiff, Nat.reduceLT, ↓reduceIte]
  refine ok_ch hP 100 (spkKey0 _ 1 .nils .nils [] [] (.inl ⟨rfl, rfl⟩) (.inl ⟨rfl, rfl⟩) (by decide)) okkKey rfl rfl fun v hs' hq => ?_
  obtain ⟨rfl, rfl⟩ := hq
  simp only [six_ex, six_sz, six_l, eq_self, go_sem, Nat.reduceEqDiff, Nat.reduceLT, Nat.reduceLeDiff, Nat.reduceAdd, Int.reduceToNat, Int.reduceLE, ↓reduceIte]
  refine ⟨by decide, fun c hc => ?_⟩
  have hR : (sixL ++ List.replicate (c - 1 - 16) 0).length = c - 1 := by simp [sixL]; omega
  have h16 : sixL.length = 16 := rfl
  refine ok_ch hP 100 (spkStep _ (.sl (H.length + 3) 0 16 (c - 1)) sixL (.inr ⟨H.length + 3, 0, c - 1, [.run .u8 (c - 1) (sixL ++ List.replicate (c - 1 - 16) 0)], 5, c - 1, c, rfl, by rw [h16]; omega, by simp only [go_sem], rowB_run hR (by rw [h16]; omega) (by simp [part, sixL])⟩) (by decide)) okkStep rfl rfl fun v hs' hq => ?_
  obtain ⟨y1, o1, rfl, rfl, hy1⟩ := hq
  obtain ⟨g1, g2, g3, g4⟩ := hy1.facts
  simp only [g1, hx_new, hx_snew, eq_self, go_sem, Nat.reduceEqDiff, Nat.reduceLT, Nat.reduceAdd, ↓reduceIte]
  refine ok_ch hP 100 (spkKeys _ 2 (.sl (H.length + 5) 0 1 1) [107] 1 0 0 0 0 0 (byt_run (by simp only [go_sem] <;> rfl) rfl) (Bytes.rng (fun x hx => by simp at hx; omega)) (by decide)) okkKeys rfl rfl fun v hs' hq => ?_
  obtain ⟨k0, k1, k2, k3, p0, p1, p2, p3, rfl, rfl, q0, q1, q2, q3⟩ := hq
  obtain ⟨q01, q02, q03, q04⟩ := q0.facts
  obtain ⟨q11, q12, q13, q14⟩ := q1.facts
  obtain ⟨q21, q22, q23, q24⟩ := q2.facts
  obtain ⟨q31, q32, q33, q34⟩ := q3.facts
  simp only [q02, q03, q12, q13, q22, q23, q32, q33, hx_new, hx_snew, eq_self, go_sem, reduceCtorEq, Nat.reduceEqDiff, Nat.reduceLT, Nat.reduceAdd, Nat.reduceSub, ↓reduceIte]
  simp only [len_app, List.length_cons, List.length_nil, Nat.reduceAdd] at hy0 hy1
  have s0 := b2sQ_own (H := H) hy0
  have s1 := b2sQ_own (H := H) hy1
  rw [str_a] at s0
  rw [stepF_six, str_six, six] at s1
  have s2 := q2.len
  rw [keyF_len2] at s2
  refine ok_ch hP 100 (spNum6 _ 0) oklNum6 rfl rfl fun v hs' hq => ?_
  obtain ⟨rfl, rfl⟩ := hq
  simp only [go_sem, Nat.reduceEqDiff, Nat.reduceLT, ↓reduceIte]
  refine ok_ch hP 100 (spNum6 _ 0) oklNum6 rfl rfl fun v hs' hq => ?_
  obtain ⟨rfl, rfl⟩ := hq
  simp only [go_sem, Nat.reduceEqDiff, Nat.reduceLT, ↓reduceIte]
  refine ok_ch hP 100 (spNum6 _ 0) oklNum6 rfl rfl fun v hs' hq => ?_
  obtain ⟨rfl, rfl⟩ := hq
  have z : (IntKind.i64.wrap (IntKind.i64.wrap (0 + 0) + 0) == 0) = true := rfl
  simp only [z, s0, beq_self_eq_true, hx_new, eq_self, go_sem, Nat.reduceEqDiff, Nat.reduceLT, ↓reduceIte]
  refine ok_ch hP 100 (spNum6 _ 2) oklNum6 rfl rfl fun v hs' hq => ?_
  obtain ⟨rfl, rfl⟩ := hq
  have z2 : ((2 : Int) == 2) = true := rfl
  simp only [z2, go_sem, Nat.reduceEqDiff, Nat.reduceLT, ↓reduceIte]
  refine ok_ch hP 100 (spNum6 _ 2) oklNum6 rfl rfl fun v hs' hq => ?_
  obtain ⟨rfl, rfl⟩ := hq
  have z3 : (((16 : Nat) : Int) == 16) = true := rfl
  simp only [z2, s1, s2, beq_self_eq_true, q03, q13, q23, hx_new, eq_self, go_sem, Nat.reduceEqDiff, Nat.reduceLT, ↓reduceIte]
  exact fin0 hf hQ hw rfl ⟨rfl, rfl⟩
#print axioms splWorks6
end Go.Pv
