/- kdf: the input, the step. -/
import Derived.Test.YtifoaokodgbhjaaSu
namespace Go.Pv
open Go Go.Proofs
def ckInput : FnC := ⟨17, [(.t 4), (.t 5)], (.seq (.reg [(.mk (some 4) none (.mv (.c .nils))), (.mk (some 5) none (.mv (.c (.int .i64 0))))]) (.seq (.seq (.reg [(.mk (some 6) none (.mv (.t 0))), (.mk (some 7) none (.len (.t 6))), (.mk (some 8) none (.bin .gtr (.t 7) (.c (.int .i64 200))))]) (.cond (.t 8) (.seq (.reg [(.mk (some 4) none (.mv (.c .nils))), (.mk (some 5) none (.mv (.c (.int .i64 2))))]) .ret) .skip)) (.seq (.reg [(.mk (some 9) none (.bsl 5 1 [(.run .u8 1 [0])] [(0, (1, (.c (.int .u8 1))))])), (.mk (some 10) none (.bsl 5 6 [(.run .u8 6 [0, 0, 0, 0, 0, 0])] [(0, (1, (.c (.int .u8 84)))), (1, (1, (.c (.int .u8 67)))), (2, (1, (.c (.int .u8 80)))), (3, (1, (.c (.int .u8 45)))), (4, (1, (.c (.int .u8 65)))), (5, (1, (.c (.int .u8 79))))])), (.mk (some 11) none (.mark (.t 10))), (.mk (some 12) none (.mv (.t 0))), (.mk (some 13) none (.mv (.t 1))), (.mk (some 14) none (.call (.c (.fn 28 [])) [(.t 13), (.c (.int .i64 2))])), (.mk (some 15) none (.bsl 27 4 [.nils, .nils, .nils, .nils] [(0, (1, (.t 9))), (1, (1, (.t 11))), (2, (1, (.t 12))), (3, (1, (.t 14)))])), (.mk (some 16) none (.call (.c (.fn 27 [])) [(.t 15)])), (.mk (some 4) none (.mv (.t 16))), (.mk (some 5) none (.mv (.c (.int .i64 0))))]) .ret)))⟩
theorem okkInput : FnOk Try.prog 11 ckInput := fnOk_mk Try.f11 (by kernel_rfl) (by kernel_rfl) (by kernel_rfl) (by kernel_rfl) (by kernel_rfl)
def ckRight : FnC := ⟨11, [(.t 2)], (.seq (.reg [(.mk (some 2) none (.mv (.c (.bool false))))]) (.seq (.reg [(.mk (some 3) none (.mv (.t 0))), (.mk (some 4) none (.len (.t 3))), (.mk (some 5) none (.bin .geq (.t 4) (.c (.int .i64 1)))), (.mk (some 6) none (.mv (.t 5))), (.mk (some 7) (some (6, true)) (.mv (.t 0))), (.mk (some 8) (some (6, true)) (.len (.t 7))), (.mk (some 9) (some (6, true)) (.bin .leq (.t 8) (.c (.int .i64 80)))), (.mk (some 10) none (.pick (.t 6) (.t 9) (.c (.bool false)))), (.mk (some 2) none (.mv (.t 10)))]) .ret))⟩
theorem okkRight : FnOk Try.prog 39 ckRight := fnOk_mk Try.f39 (by kernel_rfl) (by kernel_rfl) (by kernel_rfl) (by kernel_rfl) (by kernel_rfl)
def ckStep : FnC := ⟨25, [(.t 2), (.t 3)], (.seq (.reg [(.mk (some 2) none (.mv (.c .nils))), (.mk (some 3) none (.mv (.c (.int .i64 0))))]) (.seq (.block 0 (.seq (.reg [(.mk (some 7) none (.mv (.t 0))), (.mk (some 8) none (.call (.c (.fn 39 [])) [(.t 7)])), (.mk (some 9) none (.un .not (.t 8))), (.mk (some 6) none (.mv (.t 9)))]) (.cond (.t 6) (.seq (.reg [(.mk (some 2) none (.mv (.c .nils))), (.mk (some 3) none (.mv (.c (.int .i64 2))))]) .ret) (.seq (.reg [(.mk (some 11) none (.mv (.t 0))), (.mk (some 12) none (.len (.t 11))), (.mk (some 13) none (.bin .eql (.t 12) (.c (.int .i64 16)))), (.mk (some 10) none (.mv (.t 13)))]) (.cond (.t 10) (.seq (.reg [(.mk (some 14) none (.mv (.t 0))), (.mk (some 15) none (.call (.c (.fn 40 [])) [(.t 14)])), (.mk (some 2) none (.mv (.t 15))), (.mk (some 3) none (.mv (.c (.int .i64 0))))]) .ret) .skip))))) (.seq (.reg [(.mk (some 17) none (.mks 5 1 1 [(.int .u8 0)] (.c (.int .i64 16)) (.c (.int .i64 16)))), (.mk (some 18) none (.mv (.t 0))), (.mk (some 19) none (.bsl 27 1 [.nils] [(0, (1, (.t 18)))])), (.mk (some 20) none (.call (.c (.fn 41 [])) [(.t 17), (.t 19)])), (.mk (some 16) none (.mv (.t 20))), (.mk (some 21) none (.ext (.t 16) 0)), (.mk (some 22) none (.ext (.t 16) 1)), (.mk (some 4) none (.al 91 [(.run .u8 16 (List.replicate 16 0))])), (.mk none none (.sta (.t 4) (.t 21) 16)), (.mk (some 5) none (.mv (.t 22)))]) (.seq (.reg [(.mk (some 23) none (.sla 16 1 (.t 4) none none)), (.mk (some 24) none (.mv (.t 5))), (.mk (some 2) none (.mv (.t 23))), (.mk (some 3) none (.mv (.t 24)))]) .ret))))⟩
theorem okkStep : FnOk Try.prog 26 ckStep := fnOk_mk Try.f26 (by kernel_rfl) (by kernel_rfl) (by kernel_rfl) (by kernel_rfl) (by kernel_rfl)


/-- What comes out, with new rows. -/
theorem gq_rows {H hs : List SO} {Q : SV → List SO → Prop} {x y : SV} {js : List Nat} {os : List SO} (hw : Wf H) (hk : ∀ u, u < H.length → hs[u]? = H[u]?) (hjs : ∀ j ∈ js, H.length ≤ j) (hnd : js.Nodup) (hl : os.length = js.length)
    (ho : ∀ (i j : Nat), js[i]? = some j → hs[j]? = os[i]?) (hr : ∀ o ∈ os, (∀ σ, o.ren σ = o) ∧ o.bnd (H.length + js.length) = true) (hy : x = y.ren (List.range H.length ++ js)) (hyb : y.bnd (H.length + js.length) = true) (hQ : Q y (H ++ os)) : GQ H.length Q x hs := by
  have hn : (List.range H.length ++ js).Nodup := by
    rw [List.nodup_append]
    refine ⟨List.nodup_range, hnd, ?_⟩
    intro a ha b hb
    simp at ha
    have := hjs b hb
    omega
  have hg : ∀ i, i < H.length → (List.range H.length ++ js)[i]? = some i := by
    intro i hi
    rw [List.getElem?_append_left (by simpa using hi)]
    exact List.getElem?_range hi
  refine ⟨List.range H.length ++ js, y, H ++ os, by simp [hl], hn, hg, ?_, hy, by simpa [hl] using hyb, hQ⟩
  intro i o' ho'
  by_cases hi : i < H.length
  · rw [List.getElem?_append_left hi] at ho'
    exact ⟨i, hg i hi, .inr ⟨by rw [hk i hi]; exact ho', hw i o' ho'⟩⟩
  · rw [List.getElem?_append_right (by omega)] at ho'
    have hlt : i - H.length < js.length := by rw [← hl]; exact (List.getElem?_eq_some_iff.1 ho').1
    have hm := hr o' (List.mem_of_getElem? ho')
    refine ⟨js[i - H.length], ?_, .inl ⟨?_, by simpa [hl] using hm.2⟩⟩
    · rw [List.getElem?_append_right (by simp; omega)]
      simp [List.getElem?_eq_getElem hlt]
    · rw [hm.1, ho (i - H.length) _ (List.getElem?_eq_getElem hlt)]
      exact ho'
theorem row_at (n j : Nat) : (List.range n ++ [j])[n]? = some j := by
  rw [List.getElem?_append_right (by simp)]; simp

theorem byt_run {H : List SO} {t n ty a b : Nat} {L : List Int} (h : H[t]? = some (.cells [.run .u8 n L] ty a b)) (hL : L.length = n) : Byt H (.sl t 0 n n) L := by
  subst hL
  refine .inr ⟨t, 0, L.length, _, ty, a, b, rfl, Nat.le_refl _, h, rowB_run rfl (by omega) (by simp [part])⟩
/-- A row of one's own, of any type. -/
def OwnG (t : Nat) (l : List Int) (x : SV) (o : SO) : Prop := ∃ cap L ty, l.length ≤ cap ∧ L.length = cap ∧ L.take l.length = l ∧ x = .sl t 0 l.length cap ∧ o = .cells [.run .u8 cap L] ty 0 0
theorem Own.g {t : Nat} {l : List Int} {x : SV} {o : SO} (h : Own t l x o) : OwnG t l x o := by
  obtain ⟨cap, L, h1, h2, h3, h4, h5⟩ := h
  exact ⟨cap, L, 5, h1, h2, h3, h4, h5⟩
theorem OwnG.byt {t : Nat} {l : List Int} {x : SV} {o : SO} {H : List SO} (h : OwnG t l x o) (ht : H[t]? = some o) : Byt H x l := by
  obtain ⟨cap, L, ty, h1, h2, h3, h4, rfl⟩ := h
  exact .inr ⟨t, 0, cap, _, ty, 0, 0, h4, h1, ht, rowB_run h2 (by omega) (by simpa [part] using h3)⟩
theorem OwnG.one {t : Nat} {l : List Int} {x : SV} {o : SO} (h : OwnG t l x o) : x.one = true := by
  obtain ⟨cap, L, ty, h1, h2, h3, rfl, rfl⟩ := h; rfl
theorem OwnG.c1 {t : Nat} {l : List Int} {x : SV} {o : SO} (h : OwnG t l x o) : x.c1 = true := by
  obtain ⟨cap, L, ty, h1, h2, h3, rfl, rfl⟩ := h; rfl
/-- What comes out: a row of one's own, and a number. -/
theorem gq_own {H hs : List SO} {Q : SV → List SO → Prop} {v : SV} {j : Nat} {l : List Int} {o : SO} (y : SV) (hyb : y.bnd 0 = true) (hw : Wf H) (hk : ∀ u, u < H.length → hs[u]? = H[u]?) (hj : H.length ≤ j) (ho : hs[j]? = some o) (hown : OwnG j l v o)
    (hQ : ∀ v' o', OwnG H.length l v' o' → Q (.tup [v', y]) (H ++ [o'])) : GQ H.length Q (.tup [v, y]) hs := by
  obtain ⟨cap, L, ty, c1, c2, c3, rfl, rfl⟩ := hown
  refine gq_rows (y := .tup [.sl H.length 0 l.length cap, y]) (js := [j]) (os := [.cells [.run .u8 cap L] ty 0 0]) hw hk (by simpa using hj) (by simp) rfl ?_ ?_ ?_ ?_ (hQ _ _ ⟨cap, L, ty, c1, c2, c3, rfl, rfl⟩)
  · intro i j' h
    match i, h with
    | 0, h => simp at h; subst h; exact ho
    | i + 1, h => simp at h
  · intro o ho'
    simp at ho'
    subst ho'
    exact ⟨fun _ => rfl, rfl⟩
  · simp only [SV.ren, rens, List.getD, row_at, Option.getD_some, ren_bnd0 y hyb]
  · simp [SV.bnd, bnds, bnd_mono (Nat.zero_le _) y hyb]

theorem spkRight (H : List SO) (x : SV) (c : List Int) (hx : Byt H x c) : Spec Try.prog 39 [x] H fun v hs => v = .bool (decide (1 ≤ c.length ∧ c.length ≤ 80)) ∧ hs = H := by
  obtain ⟨x1, x2, x3, x4⟩ := hx.facts
  have hlen := hx.len
  refine spec_h okkRight (by simp only [x1, go_sem]) (of_ble rfl) fun C hP hf hQ h0 hw hbd => ?_
  apply vc_ok 100
  by_cases h1 : 1 ≤ c.length
  · have e1 : decide ((1 : Int) ≤ (c.length : Int)) = true := by simp; omega
    simp only [FS.start, ckRight, paramsE, hlen, e1, eq_self, go_sem, reduceCtorEq, Nat.reduceEqDiff, Nat.reduceLT, ↓reduceIte]
    refine fin00 hf hQ hw rfl ⟨?_, rfl⟩
    congr 1
    by_cases h2 : c.length ≤ 80
    · simp [h1, h2]; omega
    · simp [h1, h2]; omega
  · have e1 : decide ((1 : Int) ≤ (c.length : Int)) = false := by simp; omega
    simp only [FS.start, ckRight, paramsE, hlen, e1, eq_self, go_sem, reduceCtorEq, Nat.reduceEqDiff, Nat.reduceLT, ↓reduceIte]
    refine fin00 hf hQ hw rfl ⟨?_, rfl⟩
    simp [h1]

/-- The input of a context. -/
def inpF (c : List Int) (bits : Int) : List Int := [1] ++ ([84, 67, 80, 45, 65, 79] ++ (c ++ highB bits))

theorem spkInput (H : List SO) (x : SV) (c : List Int) (bits : Int) (hx : Byt H x c) (hl : c.length ≤ 200) : Spec Try.prog 11 [x, .int .u16 bits] H fun v hs => ∃ y o, v = .tup [y, .int .i64 0] ∧ hs = H ++ [o] ∧ OwnG H.length (inpF c bits) y o := by
  obtain ⟨x1, x2, x3, x4⟩ := hx.facts
  have hlen := hx.len
  refine spec_h okkInput (by simp only [x1, go_sem]) (of_ble rfl) fun C hP hf hQ h0 hw hbd => ?_
  apply vc_ok 100
  have e1 : decide ((200 : Int) < (c.length : Int)) = false := by simp; omega
  simp only [FS.start, ckInput, paramsE, hlen, e1, hx_new, hx_snew, eq_self, go_sem, reduceCtorEq, Nat.reduceEqDiff, Nat.reduceLT, Nat.reduceAdd, ↓reduceIte]
  refine ok_ch hP 100 (spkHighB _ bits) okkHighB rfl rfl fun v hs' hq => ?_
  obtain ⟨rfl, rfl⟩ := hq
  simp only [x2, x3, x4, eq_self, go_sem, Nat.reduceEqDiff, Nat.reduceLT, Nat.reduceAdd, ↓reduceIte]
  have hcat : ([[1], [84, 67, 80, 45, 65, 79], c, highB bits] : List (List Int)).flatten = inpF c bits := by simp [inpF]
  have hG : ∀ l, Byt (H ++ l) x c := fun l => hx.app l
  refine ok_ch hP 100 (spConcat _ (H.length + 3) [.sl H.length 0 1 1, .sl (H.length + 1) 0 6 6, x, .sl (H.length + 2) 0 2 2] [[1], [84, 67, 80, 45, 65, 79], c, highB bits] 27 0 0 (by simp only [go_sem])
    ⟨byt_run (by simp only [go_sem]; rfl) rfl, byt_run (by simp only [go_sem]; rfl) rfl, hG _, byt_run (by simp only [go_sem]; rfl) rfl, trivial⟩ (by simp) (by rw [hcat]; simp [inpF, highB]; omega)) okConcat rfl rfl fun v hs' hq => ?_
  rw [hcat] at hq
  rcases hq with ⟨hnil, _, _⟩ | ⟨o, rfl, hown⟩
  · simp [inpF] at hnil
  · have ho := hown.g.one
    have ho1 := hown.g.c1
    simp only [ho, eq_self, go_sem, Nat.reduceEqDiff, Nat.reduceLT, ↓reduceIte]
    refine ⟨hf.symm, ?_⟩
    rw [hQ]
    refine gq_own (j := H.length + 4) (o := o) (l := inpF c bits) _ rfl hw (fun u hu => by simp only [hu, hx_old, eq_self]) (by omega) (by simp only [go_sem]) ?_ fun v' o' h => ⟨v', o', rfl, rfl, h⟩
    have hg := hown.g
    simp only [len_app, List.length_cons, List.length_nil, Nat.reduceAdd] at hg
    exact hg

theorem spkInput0 (H : List SO) (x : SV) (c : List Int) (bits : Int) (hx : Byt H x c) (hl : 200 < c.length) : Spec Try.prog 11 [x, .int .u16 bits] H fun v hs => v = .tup [.nils, .int .i64 2] ∧ hs = H := by
  obtain ⟨x1, x2, x3, x4⟩ := hx.facts
  have hlen := hx.len
  refine spec_h okkInput (by simp only [x1, go_sem]) (of_ble rfl) fun C hP hf hQ h0 hw hbd => ?_
  apply vc_ok 100
  have e1 : decide ((200 : Int) < (c.length : Int)) = true := by simp; omega
  simp only [FS.start, ckInput, paramsE, hlen, e1, eq_self, go_sem, reduceCtorEq, Nat.reduceEqDiff, Nat.reduceLT, ↓reduceIte]
  exact fin00 hf hQ hw rfl ⟨rfl, rfl⟩

/-- The step of a master key. -/
def stepF (m : List Int) : List Int := if m.length = 16 then m else cmacF (List.replicate 16 0) m
theorem cmacF_rng (k m : List Int) : Rng (cmacF k m) := adkF_rng _ _
theorem adkF_len (s k : List Int) : (adkF s k).length = 16 := by
  simp only [adkF, eachF]
  rw [it_len (fun i l => by simp [eachS])]
  simp
theorem cmacF_len (k m : List Int) : (cmacF k m).length = 16 := adkF_len _ _
theorem stepF_len (m : List Int) : (stepF m).length = 16 := by
  unfold stepF
  split
  · assumption
  · exact cmacF_len _ _
theorem stepF_rng {m : List Int} (h : Rng m) : Rng (stepF m) := by
  unfold stepF
  split
  · exact h
  · exact cmacF_rng _ _

theorem spkStep0 (H : List SO) (x : SV) (c : List Int) (hx : Byt H x c) (hl : ¬ (1 ≤ c.length ∧ c.length ≤ 80)) : Spec Try.prog 26 [x] H fun v hs => v = .tup [.nils, .int .i64 2] ∧ hs = H := by
  obtain ⟨x1, x2, x3, x4⟩ := hx.facts
  refine spec_h okkStep (by simp only [x1, go_sem]) (of_ble rfl) fun C hP hf hQ h0 hw hbd => ?_
  apply vc_ok 100
  simp only [FS.start, ckStep, paramsE, x1, eq_self, go_sem, reduceCtorEq, Nat.reduceLT, ↓reduceIte]
  refine ok_ch hP 100 (spkRight _ x c hx) okkRight rfl (call_ev rfl rfl (by simp only [x1, go_sem])) fun v hs' hq => ?_
  obtain ⟨rfl, eh⟩ := hq
  have e1 : decide (1 ≤ c.length ∧ c.length ≤ 80) = false := by simpa using hl
  simp only [eh, e1, Bool.not_false, eq_self, go_sem, Nat.reduceEqDiff, Nat.reduceLT, ↓reduceIte]
  exact fin00 hf hQ hw rfl ⟨rfl, rfl⟩

theorem spkStep (H : List SO) (x : SV) (c : List Int) (hx : Byt H x c) (hl : 1 ≤ c.length ∧ c.length ≤ 80) : Spec Try.prog 26 [x] H fun v hs => ∃ y o, v = .tup [y, .int .i64 0] ∧ hs = H ++ [o] ∧ OwnG H.length (stepF c) y o := by
  obtain ⟨x1, x2, x3, x4⟩ := hx.facts
  have hlen := hx.len
  refine spec_h okkStep (by simp only [x1, go_sem]) (of_ble rfl) fun C hP hf hQ h0 hw hbd => ?_
  apply vc_ok 100
  simp only [FS.start, ckStep, paramsE, x1, eq_self, go_sem, reduceCtorEq, Nat.reduceLT, ↓reduceIte]
  refine ok_ch hP 100 (spkRight _ x c hx) okkRight rfl (call_ev rfl rfl (by simp only [x1, go_sem])) fun v hs' hq => ?_
  obtain ⟨rfl, eh⟩ := hq
  have e1 : decide (1 ≤ c.length ∧ c.length ≤ 80) = true := by simpa using hl
  by_cases h16 : c.length = 16
  · have e2 : ((c.length : Int) == 16) = true := by simp; omega
    simp only [eh, e1, e2, hlen, x1, Bool.not_true, Bool.false_eq_true, eq_self, go_sem, reduceCtorEq, Nat.reduceLT, ↓reduceIte]
    refine ok_ch hP 100 (spCloneH _ x c hx (by omega)) okClone rfl (call_ev rfl rfl (by simp only [x1, go_sem])) fun v hs' hq => ?_
    rcases hq with ⟨_, rfl, _, _⟩ | ⟨o, rfl, hown⟩
    · simp at h16
    · have ho := hown.g.one
      have ho1 := hown.g.c1
      simp only [ho, eq_self, go_sem, Nat.reduceEqDiff, Nat.reduceLT, ↓reduceIte]
      refine ⟨hf.symm, ?_⟩
      rw [hQ]
      refine gq_own (j := H.length) (o := o) (l := stepF c) _ rfl hw (fun u hu => by simp only [hu, hx_old, eq_self]) (by omega) (by simp only [go_sem]) ?_ fun v' o' h => ⟨v', o', rfl, rfl, h⟩
      rw [stepF, if_pos h16]
      exact hown.g
  · have e2 : ((c.length : Int) == 16) = false := by simp; omega
    simp only [eh, e1, e2, hlen, x2, x4, Bool.not_true, Bool.false_eq_true, ne_eq, eq_self, not_false_eq_true, go_sem, reduceCtorEq, Nat.reduceEqDiff, Nat.reduceLT, Int.reduceToNat, Int.reduceLE, ↓reduceIte]
    refine ⟨by decide, ?_⟩
    refine ok_ch hP 100 (spcTag _ (.sl H.length 0 16 16) (List.replicate 16 0) (H.length + 1) [x] [c] 27 0 0 (byt_run (get_app0 _ _) rfl) rfl (rng_zeros 16) (by simp only [go_sem]) ⟨hx.app _, trivial⟩ (by simp) (by simp; omega)) okcTag rfl rfl fun v hs' hq => ?_
    obtain ⟨rfl, rfl⟩ := hq
    simp only [hx_new, hx_snew, eq_self, go_sem, reduceCtorEq, Nat.reduceEqDiff, Nat.reduceLT, Nat.reduceLeDiff, Nat.reduceAdd, ↓reduceIte]
    refine ⟨hf.symm, ?_⟩
    rw [hQ]
    refine gq_own (j := H.length + 2) (o := .cells [.run .u8 16 (cmacF (List.replicate 16 0) ([c] : List (List Int)).flatten)] 91 0 0) (l := stepF c) _ rfl hw (fun u hu => by simp only [hu, hx_old, eq_self]) (by omega) (by simp only [go_sem]) ?_ fun v' o' h => ⟨v', o', rfl, rfl, h⟩
    have e3 : ([c] : List (List Int)).flatten = c := by simp
    rw [stepF, if_neg h16, e3]
    exact ⟨16, _, _, by rw [cmacF_len]; exact Nat.le_refl _, cmacF_len _ _, by rw [cmacF_len, List.take_of_length_le (by rw [cmacF_len]; exact Nat.le_refl _)], by rw [cmacF_len], rfl⟩
end Go.Pv
