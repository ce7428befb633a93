/- kdf: a traffic key. -/
import Derived.Test.YtifoaokodgbhjaaSv
namespace Go.Pv
open Go Go.Proofs
def ckForms : FnC := ⟨5, [(.t 0)], (.seq (.reg [(.mk (some 0) none (.mv (.c .nilm)))]) (.seq (.reg [(.mk (some 1) none .mkm), (.mk (some 2) none (.bld [(.int .u16 0), .nilf] [(0, (1, (.c (.int .u16 160)))), (1, (1, (.c (.fn 47 []))))])), (.mk none none (.ins (.t 1) (.c (.int .i64 1)) (.t 2))), (.mk (some 3) none (.bld [(.int .u16 0), .nilf] [(0, (1, (.c (.int .u16 128)))), (1, (1, (.c (.fn 49 []))))])), (.mk none none (.ins (.t 1) (.c (.int .i64 2)) (.t 3))), (.mk (some 4) none (.mv (.t 1))), (.mk (some 0) none (.mv (.t 4)))]) .ret))⟩
theorem okkForms : FnOk Try.prog 38 ckForms := fnOk_mk Try.f38 (by kernel_rfl) (by kernel_rfl) (by kernel_rfl) (by kernel_rfl) (by kernel_rfl)
def ckFormsA : FnC := ⟨14, [(.t 4)], (.seq (.reg [(.mk (some 4) none (.mv (.c .nils)))]) (.seq (.reg [(.mk (some 8) none (.mv (.t 0))), (.mk (some 9) none (.mv (.t 1))), (.mk (some 10) none (.call (.c (.fn 48 [])) [(.t 8), (.t 9)])), (.mk (some 7) none (.mv (.t 10))), (.mk (some 11) none (.ext (.t 7) 0)), (.mk (some 12) none (.ext (.t 7) 1)), (.mk (some 5) none (.al 103 [(.run .u8 20 (List.replicate 20 0))])), (.mk none none (.sta (.t 5) (.t 11) 20)), (.mk (some 6) none (.mv (.t 12)))]) (.seq (.reg [(.mk (some 13) none (.sla 20 1 (.t 5) none none)), (.mk (some 4) none (.mv (.t 13)))]) .ret)))⟩
theorem okkFormsA : FnOk Try.prog 47 ckFormsA := fnOk_mk Try.f47 (by kernel_rfl) (by kernel_rfl) (by kernel_rfl) (by kernel_rfl) (by kernel_rfl)
def ckFormsB : FnC := ⟨21, [(.t 4)], (.seq (.reg [(.mk (some 4) none (.mv (.c .nils)))]) (.seq (.reg [(.mk (some 10) none (.mv (.t 0))), (.mk (some 11) none (.call (.c (.fn 26 [])) [(.t 10)])), (.mk (some 9) none (.mv (.t 11))), (.mk (some 12) none (.ext (.t 9) 0)), (.mk (some 13) none (.ext (.t 9) 1)), (.mk (some 5) none (.mv (.t 12))), (.mk (some 6) none (.mv (.t 13)))]) (.seq (.reg [(.mk (some 15) none (.mv (.t 5))), (.mk (some 16) none (.mv (.t 1))), (.mk (some 17) none (.call (.c (.fn 41 [])) [(.t 15), (.t 16)])), (.mk (some 14) none (.mv (.t 17))), (.mk (some 18) none (.ext (.t 14) 0)), (.mk (some 19) none (.ext (.t 14) 1)), (.mk (some 7) none (.al 91 [(.run .u8 16 (List.replicate 16 0))])), (.mk none none (.sta (.t 7) (.t 18) 16)), (.mk (some 8) none (.mv (.t 19)))]) (.seq (.reg [(.mk (some 20) none (.sla 16 1 (.t 7) none none)), (.mk (some 4) none (.mv (.t 20)))]) .ret))))⟩
theorem okkFormsB : FnOk Try.prog 49 ckFormsB := fnOk_mk Try.f49 (by kernel_rfl) (by kernel_rfl) (by kernel_rfl) (by kernel_rfl) (by kernel_rfl)
def ckKey : FnC := ⟨41, [(.t 6), (.t 7)], (.seq (.reg [(.mk (some 6) none (.mv (.c .nils))), (.mk (some 7) none (.mv (.c (.int .i64 0))))]) (.seq (.reg [(.mk (some 13) none (.call (.c (.fn 38 [])) [])), (.mk (some 14) none (.mv (.t 0))), (.mk (some 15) none (.lkp (.agg [(.int .u16 0), .nilf]) true (.t 13) (.t 14))), (.mk (some 12) none (.mv (.t 15))), (.mk (some 16) none (.ext (.t 12) 0)), (.mk (some 17) none (.ext (.t 12) 1)), (.mk (some 8) none (.al 85 [(.int .u16 0), .nilf])), (.mk none none (.sta (.t 8) (.t 16) 2)), (.mk (some 9) none (.mv (.t 17)))]) (.seq (.seq (.reg [(.mk (some 18) none (.mv (.t 9))), (.mk (some 19) none (.un .not (.t 18))), (.mk (some 20) none (.mv (.t 19))), (.mk (some 21) (some (20, false)) (.mv (.t 1))), (.mk (some 22) (some (20, false)) (.call (.c (.fn 39 [])) [(.t 21)])), (.mk (some 23) (some (20, false)) (.un .not (.t 22))), (.mk (some 24) none (.pick (.t 20) (.c (.bool true)) (.t 23)))]) (.cond (.t 24) (.seq (.reg [(.mk (some 6) none (.mv (.c .nils))), (.mk (some 7) none (.mv (.c (.int .i64 2))))]) .ret) .skip)) (.seq (.reg [(.mk (some 26) none (.mv (.t 2))), (.mk (some 27) none (.fa 0 (.t 8))), (.mk (some 28) none (.ld (.t 27))), (.mk (some 29) none (.call (.c (.fn 11 [])) [(.t 26), (.t 28)])), (.mk (some 25) none (.mv (.t 29))), (.mk (some 30) none (.ext (.t 25) 0)), (.mk (some 31) none (.ext (.t 25) 1)), (.mk (some 10) none (.mv (.t 30))), (.mk (some 11) none (.mv (.t 31)))]) (.seq (.seq (.reg [(.mk (some 32) none (.mv (.t 11))), (.mk (some 33) none (.bin .neq (.t 32) (.c (.int .i64 0))))]) (.cond (.t 33) (.seq (.reg [(.mk (some 34) none (.mv (.t 11))), (.mk (some 6) none (.mv (.c .nils))), (.mk (some 7) none (.mv (.t 34)))]) .ret) .skip)) (.seq (.reg [(.mk (some 35) none (.fa 1 (.t 8))), (.mk (some 36) none (.ld (.t 35))), (.mk (some 37) none (.mv (.t 1))), (.mk (some 38) none (.mv (.t 10))), (.mk (some 39) none (.bsl 27 1 [.nils] [(0, (1, (.t 38)))])), (.mk (some 40) none (.call (.t 36) [(.t 37), (.t 39)])), (.mk (some 6) none (.mv (.t 40))), (.mk (some 7) none (.mv (.c (.int .i64 0))))]) .ret))))))⟩
theorem okkKey : FnOk Try.prog 25 ckKey := fnOk_mk Try.f25 (by kernel_rfl) (by kernel_rfl) (by kernel_rfl) (by kernel_rfl) (by kernel_rfl)


theorem gq_ownS {H hs : List SO} {Q : SV → List SO → Prop} {v : SV} {j : Nat} {l : List Int} {o : SO} (hw : Wf H) (hk : ∀ u, u < H.length → hs[u]? = H[u]?) (hj : H.length ≤ j) (ho : hs[j]? = some o) (hown : OwnG j l v o)
    (hQ : ∀ v' o', OwnG H.length l v' o' → Q v' (H ++ [o'])) : GQ H.length Q v hs := by
  obtain ⟨cap, L, ty, c1, c2, c3, rfl, rfl⟩ := hown
  refine gq_rows (y := .sl H.length 0 l.length cap) (js := [j]) (os := [.cells [.run .u8 cap L] ty 0 0]) hw hk (by simpa using hj) (by simp) rfl ?_ ?_ ?_ ?_ (hQ _ _ ⟨cap, L, ty, c1, c2, c3, rfl, rfl⟩)
  · intro i j' h
    match i, h with
    | 0, h => simp at h; subst h; exact ho
    | i + 1, h => simp at h
  · intro o ho'
    simp at ho'
    subst ho'
    exact ⟨fun _ => rfl, rfl⟩
  · simp only [SV.ren, List.getD, row_at, Option.getD_some]
  · simp [SV.bnd]
theorem own_whole {t n ty : Nat} {L : List Int} (h : L.length = n) : OwnG t L (.sl t 0 n n) (.cells [.run .u8 n L] ty 0 0) := by
  subst h
  exact ⟨L.length, L, ty, Nat.le_refl _, rfl, List.take_length, rfl, rfl⟩

theorem hmacF_len (k m : List Int) : (hmacF k m).length = 20 := shaF_len _

theorem spkFormsA (H : List SO) (x : SV) (key m : List Int) (t : Nat) (z : SV) (ty a b : Nat) (hx : Byt H x key) (hk : key.length ≤ 80) (ht : H[t]? = some (.cells [z] ty a b)) (hz : Byt H z m) (hb : m.length ≤ 1000) :
    Spec Try.prog 47 [x, .sl t 0 1 1] H fun v hs => ∃ o, hs = H ++ [o] ∧ OwnG H.length (hmacF key m) v o := by
  obtain ⟨x1, x2, x3, x4⟩ := hx.facts
  refine spec_h okkFormsA (by simp only [x1, go_sem]) (of_ble rfl) fun C hP hf hQ h0 hw hbd => ?_
  apply vc_ok 100
  simp only [FS.start, ckFormsA, paramsE, x1, eq_self, go_sem, reduceCtorEq, Nat.reduceEqDiff, Nat.reduceLT, ↓reduceIte]
  refine ok_ch hP 100 (sphTag _ x key t [z] [m] ty a b hx (by omega) ht ⟨hz, trivial⟩ (by simp) (by simp; omega)) okhTag rfl (call_ev rfl rfl (by simp only [x1, go_sem])) fun v hs' hq => ?_
  obtain ⟨rfl, eh⟩ := hq
  simp only [eh, hx_new0, hx_snew0, eq_self, go_sem, reduceCtorEq, Nat.reduceEqDiff, Nat.reduceLT, Nat.reduceLeDiff, ↓reduceIte]
  refine ⟨hf.symm, ?_⟩
  rw [hQ]
  have e3 : ([m] : List (List Int)).flatten = m := by simp
  rw [e3]
  refine gq_ownS (j := H.length) hw (fun u hu => by simp only [hu, hx_old, eq_self]) (Nat.le_refl _) (by simp only [go_sem]; rfl) (own_whole (hmacF_len _ _)) fun v' o' h => ⟨o', rfl, h⟩

theorem spkFormsB (H : List SO) (x : SV) (key m : List Int) (t : Nat) (z : SV) (ty a b : Nat) (hx : Byt H x key) (hk : 1 ≤ key.length ∧ key.length ≤ 80) (hr : Rng key) (ht : H[t]? = some (.cells [z] ty a b)) (hz : Byt H z m) (hb : m.length ≤ 1000) :
    Spec Try.prog 49 [x, .sl t 0 1 1] H fun v hs => ∃ o, hs = H ++ [o] ∧ OwnG H.length (cmacF (stepF key) m) v o := by
  obtain ⟨x1, x2, x3, x4⟩ := hx.facts
  refine spec_h okkFormsB (by simp only [x1, go_sem]) (of_ble rfl) fun C hP hf hQ h0 hw hbd => ?_
  apply vc_ok 100
  simp only [FS.start, ckFormsB, paramsE, x1, eq_self, go_sem, reduceCtorEq, Nat.reduceLT, ↓reduceIte]
  refine ok_ch hP 100 (spkStep _ x key hx hk) okkStep rfl (call_ev rfl rfl (by simp only [x1, go_sem])) fun v hs' hq => ?_
  obtain ⟨y, o, rfl, rfl, hown⟩ := hq
  have y1 := hown.one
  have y2 := hown.c1
  simp only [y1, eq_self, go_sem, reduceCtorEq, Nat.reduceEqDiff, Nat.reduceLT, ↓reduceIte]
  refine ok_ch hP 100 (spcTag _ y (stepF key) t [z] [m] ty a b (hown.byt (get_app0 _ _)) (stepF_len _) (stepF_rng hr) (at_old ht _) ⟨hz.app _, trivial⟩ (by simp) (by simp; omega)) okcTag rfl (call_ev rfl rfl (by simp only [y1, go_sem])) fun v hs' hq => ?_
  obtain ⟨rfl, eh⟩ := hq
  simp only [eh, hx_new, hx_snew, eq_self, go_sem, reduceCtorEq, Nat.reduceEqDiff, Nat.reduceLT, Nat.reduceLeDiff, ↓reduceIte]
  refine ⟨hf.symm, ?_⟩
  rw [hQ]
  have e3 : ([m] : List (List Int)).flatten = m := by simp
  rw [e3]
  refine gq_ownS (j := H.length + 1) hw (fun u hu => by simp only [hu, hx_old, eq_self]) (by omega) (by simp only [go_sem]; rfl) (own_whole (cmacF_len _ _)) fun v' o' h => ⟨o', rfl, h⟩

/-- A traffic key. -/
def keyF (alg : Int) (m c : List Int) : List Int := if alg = 1 then hmacF m (inpF c 160) else cmacF (stepF m) (inpF c 128)

theorem keyF_1 (m c : List Int) : keyF 1 m c = hmacF m (inpF c 160) := if_pos rfl
theorem keyF_2 (m c : List Int) : keyF 2 m c = cmacF (stepF m) (inpF c 128) := if_neg (by decide)

theorem spkKey1 (H : List SO) (x z : SV) (m c : List Int) (hx : Byt H x m) (hz : Byt H z c) (hm : 1 ≤ m.length ∧ m.length ≤ 80) (hc : c.length ≤ 200) : Spec Try.prog 25 [.int .i64 1, x, z] H fun v hs => ∃ y o, v = .tup [y, .int .i64 0] ∧ hs = H ++ [o] ∧ OwnG H.length (keyF 1 m c) y o := by
  obtain ⟨x1, x2, x3, x4⟩ := hx.facts
  obtain ⟨z1, z2, z3, z4⟩ := hz.facts
  refine spec_h okkKey (by simp only [x1, z1, go_sem]) (of_ble rfl) fun C hP hf hQ h0 hw hbd => ?_
  apply vc_ok 100
  simp only [FS.start, ckKey, paramsE, eq_self, go_sem, Nat.reduceLT, Nat.reduceAdd, ↓reduceIte]
  refine ok_in hP 100 rfl (call_ev rfl rfl rfl) okkForms rfl (of_ble rfl) ?_
  simp only [FS.start, ckForms, paramsE, x1, hx_new, hx_new0, hx_snew, hx_snew0, eq_self, go_sem, reduceCtorEq, Nat.reduceEqDiff, Nat.reduceLT, Nat.reduceAdd, Nat.reduceSub, ↓reduceIte, Int.reduceBEq]
  refine ok_ch hP 100 (spkRight _ x m (hx.app _)) okkRight rfl (call_ev rfl rfl (by simp only [x1, go_sem])) fun v hs' hq => ?_
  obtain ⟨rfl, rfl⟩ := hq
  have e1 : decide (1 ≤ m.length ∧ m.length ≤ 80) = true := by simpa using hm
  simp only [e1, z1, Bool.not_true, Bool.false_eq_true, hx_new, eq_self, go_sem, reduceCtorEq, Nat.reduceEqDiff, Nat.reduceLT, ↓reduceIte]
  refine ok_ch hP 100 (spkInput _ z c 160 (hz.app _) hc) okkInput rfl (call_ev rfl rfl (by simp only [z1, go_sem])) fun v hs' hq => ?_
  obtain ⟨y, o, rfl, rfl, hown⟩ := hq
  have w0 : ((0 : Int) != 0) = false := rfl
  have hy : Byt (H ++ [SO.map [(IntKind.i64, 1, SV.agg [SV.int IntKind.u16 160, SV.fn 47 []], 0), (IntKind.i64, 2, SV.agg [SV.int IntKind.u16 128, SV.fn 49 []], 1)] 2, SO.cells [SV.int IntKind.u16 160, SV.fn 47 []] 85 0 0, o]) y (inpF c 160) := hown.byt (by simp only [go_sem, Nat.reduceAdd])
  have hyl : ∀ l, Byt (H ++ ([SO.map [(IntKind.i64, 1, SV.agg [SV.int IntKind.u16 160, SV.fn 47 []], 0), (IntKind.i64, 2, SV.agg [SV.int IntKind.u16 128, SV.fn 49 []], 1)] 2, SO.cells [SV.int IntKind.u16 160, SV.fn 47 []] 85 0 0, o] ++ l)) y (inpF c 160) := fun l => by
    have := hy.app l
    rwa [List.append_assoc] at this
  obtain ⟨y1, y2, y3, y4⟩ := hy.facts
  simp only [w0, y1, y2, y4, x1, Bool.false_eq_true, hx_new, eq_self, go_sem, reduceCtorEq, Nat.reduceEqDiff, Nat.reduceLT, Nat.reduceAdd, ↓reduceIte]
  refine ok_ch hP 100 (spkFormsA _ x m (inpF c 160) (H.length + 3) y 27 0 0 (hx.app _) hm.2 (by simp only [go_sem]) (hyl [_]) (by simp [inpF, highB]; omega)) okkFormsA rfl (call_ev rfl rfl (by simp only [x1, go_sem])) fun v hs' hq => ?_
  obtain ⟨o2, rfl, hown2⟩ := hq
  have v1 := hown2.one
  have v2 := hown2.c1
  simp only [v1, eq_self, go_sem, Nat.reduceEqDiff, Nat.reduceLT, ↓reduceIte]
  refine ⟨hf.symm, ?_⟩
  rw [hQ]
  refine gq_own (j := H.length + 4) (o := o2) (l := keyF 1 m c) _ rfl hw (fun u hu => by simp only [hu, hx_old, eq_self]) (by omega) (by simp only [go_sem]) ?_ fun v' o' h => ⟨v', o', rfl, rfl, h⟩
  have hg := hown2
  simp only [len_app, List.length_cons, List.length_nil, Nat.reduceAdd] at hg
  rw [keyF_1]
  exact hg

theorem spkKey2 (H : List SO) (x z : SV) (m c : List Int) (hx : Byt H x m) (hz : Byt H z c) (hm : 1 ≤ m.length ∧ m.length ≤ 80) (hc : c.length ≤ 200) (hr : Rng m) : Spec Try.prog 25 [.int .i64 2, x, z] H fun v hs => ∃ y o, v = .tup [y, .int .i64 0] ∧ hs = H ++ [o] ∧ OwnG H.length (keyF 2 m c) y o := by
  obtain ⟨x1, x2, x3, x4⟩ := hx.facts
  obtain ⟨z1, z2, z3, z4⟩ := hz.facts
  refine spec_h okkKey (by simp only [x1, z1, go_sem]) (of_ble rfl) fun C hP hf hQ h0 hw hbd => ?_
  apply vc_ok 100
  simp only [FS.start, ckKey, paramsE, eq_self, go_sem, Nat.reduceLT, Nat.reduceAdd, ↓reduceIte]
  refine ok_in hP 100 rfl (call_ev rfl rfl rfl) okkForms rfl (of_ble rfl) ?_
  simp only [FS.start, ckForms, paramsE, x1, hx_new, hx_new0, hx_snew, hx_snew0, eq_self, go_sem, reduceCtorEq, Nat.reduceEqDiff, Nat.reduceLT, Nat.reduceAdd, Nat.reduceSub, ↓reduceIte, Int.reduceBEq]
  refine ok_ch hP 100 (spkRight _ x m (hx.app _)) okkRight rfl (call_ev rfl rfl (by simp only [x1, go_sem])) fun v hs' hq => ?_
  obtain ⟨rfl, rfl⟩ := hq
  have e1 : decide (1 ≤ m.length ∧ m.length ≤ 80) = true := by simpa using hm
  simp only [e1, z1, Bool.not_true, Bool.false_eq_true, hx_new, eq_self, go_sem, reduceCtorEq, Nat.reduceEqDiff, Nat.reduceLT, ↓reduceIte]
  refine ok_ch hP 100 (spkInput _ z c 128 (hz.app _) hc) okkInput rfl (call_ev rfl rfl (by simp only [z1, go_sem])) fun v hs' hq => ?_
  obtain ⟨y, o, rfl, rfl, hown⟩ := hq
  have w0 : ((0 : Int) != 0) = false := rfl
  have hy : Byt (H ++ [SO.map [(IntKind.i64, 1, SV.agg [SV.int IntKind.u16 160, SV.fn 47 []], 0), (IntKind.i64, 2, SV.agg [SV.int IntKind.u16 128, SV.fn 49 []], 1)] 2, SO.cells [SV.int IntKind.u16 128, SV.fn 49 []] 85 0 0, o]) y (inpF c 128) := hown.byt (by simp only [go_sem, Nat.reduceAdd])
  have hyl : ∀ l, Byt (H ++ ([SO.map [(IntKind.i64, 1, SV.agg [SV.int IntKind.u16 160, SV.fn 47 []], 0), (IntKind.i64, 2, SV.agg [SV.int IntKind.u16 128, SV.fn 49 []], 1)] 2, SO.cells [SV.int IntKind.u16 128, SV.fn 49 []] 85 0 0, o] ++ l)) y (inpF c 128) := fun l => by
    have := hy.app l
    rwa [List.append_assoc] at this
  obtain ⟨y1, y2, y3, y4⟩ := hy.facts
  simp only [w0, y1, y2, y4, x1, Bool.false_eq_true, hx_new, eq_self, go_sem, reduceCtorEq, Nat.reduceEqDiff, Nat.reduceLT, Nat.reduceAdd, ↓reduceIte]
  refine ok_ch hP 100 (spkFormsB _ x m (inpF c 128) (H.length + 3) y 27 0 0 (hx.app _) hm hr (by simp only [go_sem]) (hyl [_]) (by simp [inpF, highB]; omega)) okkFormsB rfl (call_ev rfl rfl (by simp only [x1, go_sem])) fun v hs' hq => ?_
  obtain ⟨o2, rfl, hown2⟩ := hq
  have v1 := hown2.one
  have v2 := hown2.c1
  simp only [v1, eq_self, go_sem, Nat.reduceEqDiff, Nat.reduceLT, ↓reduceIte]
  refine ⟨hf.symm, ?_⟩
  rw [hQ]
  refine gq_own (j := H.length + 4) (o := o2) (l := keyF 2 m c) _ rfl hw (fun u hu => by simp only [hu, hx_old, eq_self]) (by omega) (by simp only [go_sem]) ?_ fun v' o' h => ⟨v', o', rfl, rfl, h⟩
  have hg := hown2
  simp only [len_app, List.length_cons, List.length_nil, Nat.reduceAdd] at hg
  rw [keyF_2]
  exact hg

/-- May one make a key of these? -/
def keyOk (alg : Int) (m c : List Int) : Prop := (alg = 1 ∨ alg = 2) ∧ (1 ≤ m.length ∧ m.length ≤ 80) ∧ c.length ≤ 200
instance (alg : Int) (m c : List Int) : Decidable (keyOk alg m c) := by unfold keyOk; exact inferInstance

theorem spkKey0 (H : List SO) (alg : Int) (x z : SV) (m c : List Int) (hx : Byt H x m) (hz : Byt H z c) (hno : ¬ keyOk alg m c) : Spec Try.prog 25 [.int .i64 alg, x, z] H fun v hs => v = .tup [.nils, .int .i64 2] ∧ hs = H := by
  obtain ⟨x1, x2, x3, x4⟩ := hx.facts
  obtain ⟨z1, z2, z3, z4⟩ := hz.facts
  refine spec_h okkKey (by simp only [x1, z1, go_sem]) (of_ble rfl) fun C hP hf hQ h0 hw hbd => ?_
  apply vc_ok 100
  simp only [FS.start, ckKey, paramsE, eq_self, go_sem, Nat.reduceLT, Nat.reduceAdd, ↓reduceIte]
  refine ok_in hP 100 rfl (call_ev rfl rfl rfl) okkForms rfl (of_ble rfl) ?_
  have w2 : ((2 : Int) != 0) = true := rfl
  by_cases h1 : alg = 1
  · subst h1
    simp only [FS.start, ckForms, paramsE, x1, hx_new, hx_new0, hx_snew, hx_snew0, eq_self, go_sem, reduceCtorEq, Nat.reduceEqDiff, Nat.reduceLT, Nat.reduceAdd, Nat.reduceSub, ↓reduceIte, Int.reduceBEq]
    refine ok_ch hP 100 (spkRight _ x m (hx.app _)) okkRight rfl (call_ev rfl rfl (by simp only [x1, go_sem])) fun v hs' hq => ?_
    obtain ⟨rfl, rfl⟩ := hq
    by_cases hm : 1 ≤ m.length ∧ m.length ≤ 80
    · have hc : 200 < c.length := by
        have : ¬ c.length ≤ 200 := fun h => hno ⟨.inl rfl, hm, h⟩
        omega
      have e1 : decide (1 ≤ m.length ∧ m.length ≤ 80) = true := by simpa using hm
      simp only [e1, z1, Bool.not_true, Bool.false_eq_true, hx_new, eq_self, go_sem, reduceCtorEq, Nat.reduceEqDiff, Nat.reduceLT, ↓reduceIte]
      refine ok_ch hP 100 (spkInput0 _ z c 160 (hz.app _) hc) okkInput rfl (call_ev rfl rfl (by simp only [z1, go_sem])) fun v hs' hq => ?_
      obtain ⟨rfl, eh⟩ := hq
      simp only [eh, w2, eq_self, go_sem, Nat.reduceEqDiff, Nat.reduceLT, ↓reduceIte]
      exact fin0 hf hQ hw rfl ⟨rfl, rfl⟩
    · have e1 : decide (1 ≤ m.length ∧ m.length ≤ 80) = false := by simpa using hm
      simp only [e1, Bool.not_false, eq_self, go_sem, Nat.reduceEqDiff, Nat.reduceLT, ↓reduceIte]
      exact fin0 hf hQ hw rfl ⟨rfl, rfl⟩
  by_cases h2 : alg = 2
  · subst h2
    simp only [FS.start, ckForms, paramsE, x1, hx_new, hx_new0, hx_snew, hx_snew0, eq_self, go_sem, reduceCtorEq, Nat.reduceEqDiff, Nat.reduceLT, Nat.reduceAdd, Nat.reduceSub, ↓reduceIte, Int.reduceBEq]
    refine ok_ch hP 100 (spkRight _ x m (hx.app _)) okkRight rfl (call_ev rfl rfl (by simp only [x1, go_sem])) fun v hs' hq => ?_
    obtain ⟨rfl, rfl⟩ := hq
    by_cases hm : 1 ≤ m.length ∧ m.length ≤ 80
    · have hc : 200 < c.length := by
        have : ¬ c.length ≤ 200 := fun h => hno ⟨.inr rfl, hm, h⟩
        omega
      have e1 : decide (1 ≤ m.length ∧ m.length ≤ 80) = true := by simpa using hm
      simp only [e1, z1, Bool.not_true, Bool.false_eq_true, hx_new, eq_self, go_sem, reduceCtorEq, Nat.reduceEqDiff, Nat.reduceLT, ↓reduceIte]
      refine ok_ch hP 100 (spkInput0 _ z c 128 (hz.app _) hc) okkInput rfl (call_ev rfl rfl (by simp only [z1, go_sem])) fun v hs' hq => ?_
      obtain ⟨rfl, eh⟩ := hq
      simp only [eh, w2, eq_self, go_sem, Nat.reduceEqDiff, Nat.reduceLT, ↓reduceIte]
      exact fin0 hf hQ hw rfl ⟨rfl, rfl⟩
    · have e1 : decide (1 ≤ m.length ∧ m.length ≤ 80) = false := by simpa using hm
      simp only [e1, Bool.not_false, eq_self, go_sem, Nat.reduceEqDiff, Nat.reduceLT, ↓reduceIte]
      exact fin0 hf hQ hw rfl ⟨rfl, rfl⟩
  have e1 : (alg == 1) = false := by simpa using h1
  have e2 : (alg == 2) = false := by simpa using h2
  simp only [FS.start, ckForms, paramsE, e1, e2, hx_new, hx_new0, hx_snew, hx_snew0, eq_self, go_sem, reduceCtorEq, Nat.reduceEqDiff, Nat.reduceLT, Nat.reduceAdd, Nat.reduceSub, ↓reduceIte, Int.reduceBEq]
  exact fin0 hf hQ hw rfl ⟨rfl, rfl⟩

theorem spkKey (H : List SO) (alg : Int) (x z : SV) (m c : List Int) (hx : Byt H x m) (hz : Byt H z c) (hr : Rng m) (hk : keyOk alg m c) : Spec Try.prog 25 [.int .i64 alg, x, z] H fun v hs => ∃ y o, v = .tup [y, .int .i64 0] ∧ hs = H ++ [o] ∧ OwnG H.length (keyF alg m c) y o := by
  obtain ⟨h1, h2, h3⟩ := hk
  rcases h1 with rfl | rfl
  · exact spkKey1 H x z m c hx hz h2 h3
  · exact spkKey2 H x z m c hx hz h2 h3 hr
#print axioms spkKey
end Go.Pv
