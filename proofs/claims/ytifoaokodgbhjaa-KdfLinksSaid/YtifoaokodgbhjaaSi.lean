/- hmac: Tag, Short. -/
import Derived.Test.YtifoaokodgbhjaaSh
namespace Go.Pv
open Go Go.Proofs
def cValues : FnC := ⟨4, [(.t 2)], (.seq (.reg [(.mk (some 1) none (.bx 56 (.t 0))), (.mk (some 2) none (.mv (.c .nilf)))]) (.seq (.reg [(.mk (some 3) none (.mkf 85 [(.t 1)])), (.mk (some 2) none (.mv (.t 3)))]) .ret))⟩
theorem okValues : FnOk Try.prog 71 cValues := fnOk_mk Try.f71 (by kernel_rfl) (by kernel_rfl) (by kernel_rfl) (by kernel_rfl) (by kernel_rfl)
def lValuesCn0 : IC := (.seq (.reg [(.mk (some 8) none (.bin .lss (.t 7) (.t 6)))]) (.seq (.cond (.t 8) .skip (.exit 0)) (.seq (.block 1 (.seq (.reg [(.mk (some 9) none (.ias 1 (.t 5) (.t 7))), (.mk (some 10) none (.ld (.t 9))), (.mk (some 4) none (.mv (.t 10)))]) (.seq (.reg [(.mk (some 11) none (.mv (.t 0))), (.mk (some 12) none (.mv (.t 4))), (.mk (some 13) none (.call (.t 11) [(.t 12)])), (.mk (some 14) none (.un .not (.t 13)))]) (.cond (.t 14) .ret .skip)))) (.reg [(.mk (some 15) none (.bin .add (.t 7) (.c (.int .i64 1)))), (.mk (some 7) none (.mv (.t 15)))]))))
def cValuesC : FnC := ⟨16, [], (.seq (.reg [(.mk (some 5) none (.ld (.t 1))), (.mk (some 6) none (.len (.t 5))), (.mk (some 7) none (.mv (.c (.int .i64 0))))]) (.block 0 (.loop lValuesCn0)))⟩
theorem okValuesC : FnOk Try.prog 85 cValuesC := fnOk_mk Try.f85 (by kernel_rfl) (by kernel_rfl) (by kernel_rfl) (by kernel_rfl) (by kernel_rfl)
def chAll : FnC := ⟨5, [(.t 2)], (.seq (.reg [(.mk (some 2) none (.mv (.c .nilf)))]) (.seq (.reg [(.mk (some 3) none (.mv (.t 0))), (.mk (some 4) none (.call (.c (.fn 71 [])) [(.t 3)])), (.mk (some 2) none (.mv (.t 4)))]) .ret))⟩
theorem okhAll : FnOk Try.prog 57 chAll := fnOk_mk Try.f57 (by kernel_rfl) (by kernel_rfl) (by kernel_rfl) (by kernel_rfl) (by kernel_rfl)
def ahTagn0 : IC := (.reg [(.mk (some 8) none (.mv (.t 20)))])
def bhTagn1 : IC := (.block 1 (.reg [(.mk (some 21) none (.ld (.t 6))), (.mk (some 22) none (.mv (.t 8))), (.mk (some 23) none (.call (.c (.fn 58 [])) [(.t 21), (.t 22)]))]))
def thTagn2 : IC := (.seq (.reg [(.mk (some 24) none (.ld (.t 6))), (.mk (some 25) none (.call (.c (.fn 59 [])) [(.t 24)])), (.mk (some 26) none (.ext (.t 25) 0)), (.mk (some 27) none (.ext (.t 25) 1)), (.mk none none (.sta (.t 4) (.t 26) 20)), (.mk (some 5) none (.mv (.t 27)))]) .ret)
def chTag : FnC := ⟨28, [(.a 4 20), (.t 5)], (.seq (.reg [(.mk (some 4) none (.al 103 [(.run .u8 20 (List.replicate 20 0))])), (.mk (some 5) none (.mv (.c (.int .i64 0))))]) (.seq (.reg [(.mk (some 10) none (.mv (.t 0))), (.mk (some 11) none (.call (.c (.fn 56 [])) [(.t 10)])), (.mk (some 9) none (.mv (.t 11))), (.mk (some 12) none (.ext (.t 9) 0)), (.mk (some 13) none (.ext (.t 9) 1)), (.mk (some 6) none (.al 112 [.nilp])), (.mk none none (.st (.t 6) (.t 12))), (.mk (some 7) none (.mv (.t 13)))]) (.seq (.seq (.reg [(.mk (some 14) none (.mv (.t 7))), (.mk (some 15) none (.bin .neq (.t 14) (.c (.int .i64 0))))]) (.cond (.t 15) (.seq (.reg [(.mk (some 16) none (.bld [(.run .u8 20 (List.replicate 20 0))] [])), (.mk (some 17) none (.mv (.t 7))), (.mk none none (.sta (.t 4) (.t 16) 20)), (.mk (some 5) none (.mv (.t 17)))]) .ret) .skip)) (.seq (.seq (.reg [(.mk (some 18) none (.mv (.t 1))), (.mk (some 19) none (.call (.c (.fn 57 [])) [(.t 18)]))]) (.block 0 (.rf (.t 19) [20] ahTagn0 bhTagn1))) thTagn2))))⟩
theorem okhTag : FnOk Try.prog 48 chTag := fnOk_mk Try.f48 (by kernel_rfl) (by kernel_rfl) (by kernel_rfl) (by kernel_rfl) (by kernel_rfl)
def chShort : FnC := ⟨20, [(.a 4 12), (.t 5)], (.seq (.reg [(.mk (some 4) none (.al 22 [(.run .u8 12 (List.replicate 12 0))])), (.mk (some 5) none (.mv (.c (.int .i64 0))))]) (.seq (.reg [(.mk (some 8) none (.mv (.t 0))), (.mk (some 9) none (.mv (.t 1))), (.mk (some 10) none (.call (.c (.fn 48 [])) [(.t 8), (.t 9)])), (.mk (some 7) none (.mv (.t 10))), (.mk (some 11) none (.ext (.t 7) 0)), (.mk (some 12) none (.ext (.t 7) 1)), (.mk (some 6) none (.al 103 [(.run .u8 20 (List.replicate 20 0))])), (.mk none none (.sta (.t 6) (.t 11) 20)), (.mk (some 5) none (.mv (.t 12)))]) (.seq (.seq (.reg [(.mk (some 13) none (.mv (.t 5))), (.mk (some 14) none (.bin .eql (.t 13) (.c (.int .i64 0))))]) (.cond (.t 14) (.dreg (.tk 0 (.mk (some 15) none (.sla 12 1 (.t 4) none none)) (.one 1 (.mk (some 16) none (.sla 20 1 (.t 6) none none)) [] (.one 2 (.mk (some 17) none (.cpy 1 (.t 15) (.t 16))) [0, 1] .fin)))) .skip)) (.seq (.reg [(.mk (some 18) none (.lda (.t 4) 12)), (.mk (some 19) none (.mv (.t 5))), (.mk none none (.sta (.t 4) (.t 18) 12)), (.mk (some 5) none (.mv (.t 19)))]) .ret))))⟩
theorem okhShort : FnOk Try.prog 54 chShort := fnOk_mk Try.f54 (by kernel_rfl) (by kernel_rfl) (by kernel_rfl) (by kernel_rfl) (by kernel_rfl)


theorem spValues (H : List SO) (t n : Nat) : Spec Try.prog 71 [.sl t 0 n n] H fun v hs => v = .fn 85 [.ptr H.length 0] ∧ hs = H ++ [.cells [.sl t 0 n n] 56 0 0] := by
  refine spec_of_ok okValues rfl (of_ble rfl) fun C hP hf hQ hn => ?_
  apply vc_ok 100
  simp only [FS.start, cValues, paramsE, go_sem, Nat.reduceEqDiff, Nat.reduceLT, ↓reduceIte]
  exact ⟨hf.symm, by rw [hQ]; exact ⟨rfl, rfl⟩⟩
theorem sphAll (H : List SO) (t n : Nat) : Spec Try.prog 57 [.sl t 0 n n] H fun v hs => v = .fn 85 [.ptr H.length 0] ∧ hs = H ++ [.cells [.sl t 0 n n] 56 0 0] := by
  refine spec_of_ok okhAll rfl (of_ble rfl) fun C hP hf hQ hn => ?_
  apply vc_ok 100
  simp only [FS.start, chAll, paramsE, go_sem, reduceCtorEq, Nat.reduceLT, ↓reduceIte]
  refine ok_ch hP 100 (spValues H t n) okValues rfl rfl fun v hs' hq => ?_
  obtain ⟨rfl, rfl⟩ := hq
  simp only [go_sem, Nat.reduceLT, ↓reduceIte]
  exact ⟨hf.symm, by rw [hQ]; exact ⟨rfl, rfl⟩⟩

def isCells : SO → Bool
  | .cells .. => true
  | _ => false
theorem Byt.set {H : List SO} {x : SV} {c : List Int} {u : Nat} {o o' : SO} (h : Byt H x c) (hu : H[u]? = some o) (hno : isCells o = false) : Byt (H.set u o') x c := by
  rcases h with h | ⟨t, off, cap, cs, ty, a, b, h1, h2, h3, h4⟩
  · exact .inl h
  · refine .inr ⟨t, off, cap, cs, ty, a, b, h1, h2, ?_, h4⟩
    rw [hx_ne]
    · exact h3
    · intro e; subst e
      rw [hu] at h3; cases h3; cases hno
theorem HashAt.set {H : List SO} {t : Nat} {m : List Int} {u : Nat} {o o' : SO} (h : HashAt H t m) (hu : H[u]? = some o) (hno : isCells o = false) : HashAt (H.set u o') t m := by
  obtain ⟨b, h1, h2⟩ := h
  refine ⟨b, ?_, h2.set hu hno⟩
  rw [hx_ne]
  · exact h1
  · intro e; subst e
    rw [hu] at h1; cases h1; cases hno
theorem MacAt.set {H : List SO} {t p : Nat} {b m : List Int} {u : Nat} {o o' : SO} (h : MacAt H t p b m) (hu : H[u]? = some o) (hno : isCells o = false) : MacAt (H.set u o') t p b m := by
  obtain ⟨h0, h1, h2⟩ := h
  refine ⟨h0, ?_, h2.set hu hno⟩
  rw [hx_ne]
  · exact h1
  · intro e; subst e
    rw [hu] at h1; cases h1; cases hno
theorem HashAt.app {H : List SO} {t : Nat} {m : List Int} (h : HashAt H t m) (l : List SO) : HashAt (H ++ l) t m := by
  obtain ⟨b, h1, h2⟩ := h
  exact ⟨b, at_old h1 _, h2.app _⟩
theorem HashAt.lt {H : List SO} {t : Nat} {m : List Int} (h : HashAt H t m) : t < H.length := by
  obtain ⟨b, h1, h2⟩ := h
  exact lt_of_at h1
theorem MacAt.app {H : List SO} {t p : Nat} {b m : List Int} (h : MacAt H t p b m) (l : List SO) : MacAt (H ++ l) t p b m := ⟨h.1, at_old h.2.1 _, h.2.2.app _⟩

theorem sphTag (H : List SO) (x : SV) (key : List Int) (t : Nat) (xs : List SV) (cs : List (List Int)) (ty a b : Nat) (hx : Byt H x key) (hk : key.length ≤ 1048576) (ht : H[t]? = some (.cells xs ty a b)) (hp : Parts H xs cs) (hn : xs.length ≤ 1000000) (hb : cs.flatten.length ≤ 800000000) :
    Spec Try.prog 48 [x, .sl t 0 xs.length xs.length] H fun v hs => v = .tup [.agg [.run .u8 20 (hmacF key cs.flatten)], .int .i64 0] ∧ hs = H := by
  obtain ⟨x1, x2, x3, x4⟩ := hx.facts
  have hl := hp.len
  have ho := hp.ones
  have lt := lt_of_at ht
  refine spec_h okhTag (by simp only [x1, go_sem]) (of_ble rfl) fun C hP hf hQ hn' hw hbd => ?_
  apply vc_ok 100
  simp only [FS.start, chTag, paramsE, x1, go_sem, reduceCtorEq, Nat.reduceLT, ↓reduceIte]
  refine ok_ch hP 100 (sphNew _ x key (hx.app _) hk) okhNew rfl (call_ev rfl rfl (by simp only [x1, go_sem])) fun v hs' hq => ?_
  obtain ⟨t0, p0, rfl, ht0, hp0, hm, hk1⟩ := hq
  simp only [len_app, List.length_cons, List.length_nil] at ht0 hp0 hk1
  simp only [go_sem, reduceCtorEq, Nat.reduceEqDiff, Nat.reduceLT, ↓reduceIte, Int.reduceBNe]
  refine ok_ch hP 100 (sphAll _ t xs.length) okhAll rfl rfl fun v hs2 hq => ?_
  obtain ⟨rfl, rfl⟩ := hq
  simp only [go_sem, Nat.reduceLT]
  refine ok_range hP 100 rfl okValuesC (by rfl) (by exact of_ble rfl) ?_
  simp only [FS.start, cValuesC, paramsE, go_sem, reduceCtorEq, Nat.reduceLT, Nat.reduceAdd, ↓reduceIte]
  refine ok_less (env' := [(7, .int .i64 (0 : Nat)), (6, .int .i64 xs.length), (5, .sl t 0 xs.length xs.length), (0, .yld (hs'.length + 3))]) ?_ (by simp only [envSub, go_sem, reduceCtorEq, Nat.reduceEqDiff, ↓reduceIte] <;> rfl)
  refine ok_less2 (env' := [(6, .ptr hs'.length 0), (4, .ptr H.length 0)]) ?_ (by simp only [envSub, go_sem, Nat.reduceEqDiff, ↓reduceIte] <;> rfl)
  have l1 := lt_of_at hm.2.1
  have l2 := hm.2.2.lt
  generalize hE : ([(19, _), _, _, _, _, _, _, _, _, _, _, _, _, _, _] : Env) = envL
  have hE6 : lk envL 6 = some (.ptr hs'.length 0) := by rw [← hE]; rfl
  refine up (p := fun i => ∀ Hi : List SO, Hi[hs'.length]? = some (.cells [.ptr t0 0] 112 0 0) → Hi[hs'.length + 2]? = some (.defd true) → Hi[hs'.length + 3]? = some (.loop .ready none 48 envL 28 [20] ahTagn0 bhTagn1 (hs'.length + 2)) →
      Hi[H.length]? = some (.cells [.run .u8 20 (List.replicate 20 0)] 103 0 0) → MacAt Hi t0 p0 (hblkF key) (cs.take i).flatten → (∀ u, u < H.length → Hi[u]? = H[u]?) →
      Ok C [⟨85, none, 16, [], [(7, .int .i64 i), (6, .int .i64 xs.length), (5, .sl t 0 xs.length xs.length), (0, .yld (hs'.length + 3))], [.c lValuesCn0, .lp lValuesCn0, .blk 0], []⟩,
        ⟨48, none, 28, [.a 4 20, .t 5], [(6, .ptr hs'.length 0), (4, .ptr H.length 0)], [.irf (hs'.length + 3), .blk 0, .c thTagn2], [hs'.length + 2]⟩] Hi) xs.length ?_ ?_ _ (get_app0 _ _) (get_app _ _ _) (get_app _ _ _) ?_ ?_ ?_
  · intro i hi ih Hi f0 f2 f3 fD fm fk
    have h1 : decide ((i : Int) < (xs.length : Int)) = true := by simp; omega
    have h2 := ldR_ones hi ho
    have hx := (hp.at_ i hi).keep fk
    obtain ⟨x1, x2, x3, x4⟩ := hx.facts
    have h4 := tot_succ cs i (by omega)
    have h5 := tot_le cs (i + 1)
    rw [h4] at h5 ih
    rw [List.length_append] at h5
    have ht' : Hi[t]? = some (.cells xs ty a b) := by rw [fk t lt]; exact ht
    have g0 := lt_of_at f0
    have g2 := lt_of_at f2
    have g3 := lt_of_at f3
    have gD := lt_of_at fD
    have n0 : (hs'.length + 3 = hs'.length) = False := by simp
    refine ok_head lValuesCn0.eq_1 (vc_ok 100 _ _ ?_)
    simp only [hd ahTagn0.eq_1, hd bhTagn1.eq_1, h1, h2, ht', x1, f0, f3, n0, hE6, hx_ne, ne_eq, eq_self, not_false_eq_true, go_sem, reduceCtorEq, Nat.reduceEqDiff, Nat.reduceLT, ↓reduceIte]
    refine ⟨⟨by omega, by omega⟩, ?_⟩
    refine ok_ch hP 100 (sphWrite _ t0 p0 _ _ _ _ (fm.set f3 rfl) (hx.set f3 rfl) (by omega)) okhWrite rfl (call_ev rfl rfl (by simp only [x1, go_sem])) fun v hs3 hq => ?_
    obtain ⟨rfl, fm3, hk3⟩ := hq
    simp only [List.length_set] at hk3
    have e0 : hs3[hs'.length]? = some (.cells [.ptr t0 0] 112 0 0) := by rw [hk3 _ g0 (by omega), hx_ne (by omega)]; exact f0
    have e2 : hs3[hs'.length + 2]? = some (.defd true) := by rw [hk3 _ g2 (by omega), hx_ne (by omega)]; exact f2
    have e3 : hs3[hs'.length + 3]? = some (.loop .busy none 48 envL 28 [20] ahTagn0 bhTagn1 (hs'.length + 2)) := by rw [hk3 _ g3 (by omega), hx_eq g3]
    have eD : hs3[H.length]? = some (.cells [.run .u8 20 (List.replicate 20 0)] 103 0 0) := by rw [hk3 _ gD (by omega), hx_ne (by omega)]; exact fD
    have q3 := lt_of_at e3
    simp only [e3, eq_self, go_sem, Nat.reduceEqDiff, Nat.reduceLT, ↓reduceIte]
    refine ok_less (ih _ ?_ ?_ ?_ ?_ (fm3.set e3 rfl) ?_) ?_
    · rw [hx_ne (by omega)]; exact e0
    · rw [hx_ne (by omega)]; exact e2
    · exact hx_eq q3
    · rw [hx_ne (by omega)]; exact eD
    · intro u hu
      rw [hx_ne (by omega), hk3 u (by omega) (by omega), hx_ne (by omega)]
      exact fk u hu
    · simp only [envSub, w64s (show i + 1 < 9223372036854775808 by omega), go_sem, reduceCtorEq, Nat.reduceEqDiff, ↓reduceIte]
  · intro Hi f0 f2 f3 fD fm fk
    have h1 : decide ((xs.length : Int) < (xs.length : Int)) = false := by simp
    have g0 := lt_of_at f0
    have g2 := lt_of_at f2
    have g3 := lt_of_at f3
    have gD := lt_of_at fD
    have n0 : (hs'.length + 3 = hs'.length) = False := by simp
    rw [hl, List.take_length] at fm
    refine ok_head lValuesCn0.eq_1 (vc_ok 100 _ _ ?_)
    simp only [hd thTagn2.eq_1, h1, f0, f3, n0, hx_ne, ne_eq, eq_self, not_false_eq_true, go_sem, Nat.reduceEqDiff, Nat.reduceLT, ↓reduceIte]
    refine ok_ch hP 100 (sphMTag _ t0 p0 _ _ (fm.set f3 rfl) (by omega)) okhMTag rfl rfl fun v hs3 hq => ?_
    obtain ⟨rfl, rfl⟩ := hq
    have n1 : (hs'.length + 3 = H.length) = False := by simp; omega
    have n2 : (hs'.length + 2 = H.length) = False := by simp; omega
    have n3 : (H.length = hs'.length + 2) = False := by simp; omega
    have n4 : (hs'.length + 3 = hs'.length + 2) = False := by simp
    simp only [f2, fD, gD, n1, n2, n3, n4, hx_ne, hx_eq, List.length_set, ne_eq, eq_self, not_false_eq_true, go_sem, Nat.reduceEqDiff, Nat.reduceLT, ↓reduceIte]
    refine ⟨hf.symm, ?_⟩
    rw [hQ]
    refine gq_keep hw ?_ rfl ⟨rfl, rfl⟩
    intro u hu
    have e1 : (H.length = u) = False := by simp; omega
    have e2 : (hs'.length + 2 = u) = False := by simp; omega
    have e3 : (hs'.length + 3 = u) = False := by simp; omega
    simp only [e1, e2, e3, hx_ne, ne_eq, not_false_eq_true]
    exact fk u hu
  · rw [hx_old (by omega), hk1 _ (by omega), get_app0]; rfl
  · exact hm.app _
  · intro u hu
    rw [hx_old (by omega), hk1 u (by omega), hx_old hu]

/-- The short tag. -/
def hshF (key m : List Int) : List Int := (hmacF key m).take 12
theorem sphShort (H : List SO) (x : SV) (key : List Int) (t : Nat) (xs : List SV) (cs : List (List Int)) (ty a b : Nat) (hx : Byt H x key) (hk : key.length ≤ 1048576) (ht : H[t]? = some (.cells xs ty a b)) (hp : Parts H xs cs) (hn : xs.length ≤ 1000000) (hb : cs.flatten.length ≤ 800000000) :
    Spec Try.prog 54 [x, .sl t 0 xs.length xs.length] H fun v hs => v = .tup [.agg [.run .u8 12 (hshF key cs.flatten)], .int .i64 0] ∧ hs = H := by
  obtain ⟨x1, x2, x3, x4⟩ := hx.facts
  have lt := lt_of_at ht
  refine spec_h okhShort (by simp only [x1, go_sem]) (of_ble rfl) fun C hP hf hQ hn' hw hbd => ?_
  apply vc_ok 100
  simp only [FS.start, chShort, paramsE, x1, go_sem, reduceCtorEq, Nat.reduceEqDiff, Nat.reduceLT, ↓reduceIte]
  refine ok_ch hP 100 (sphTag _ x key t xs cs ty a b (hx.app _) hk (at_old ht _) (hp.app _) hn hb) okhTag rfl (call_ev rfl rfl (by simp only [x1, go_sem])) fun v hs' hq => ?_
  obtain ⟨rfl, rfl⟩ := hq
  have z : ((0 : Int) == 0) = true := rfl
  simp only [z, evR_cpy, List.drop_zero, go_sem, reduceCtorEq, Nat.reduceEqDiff, Nat.reduceLT, Nat.reduceLeDiff, ↓reduceIte]
  refine fin0 hf hQ hw rfl ⟨?_, rfl⟩
  rw [hshF]
#print axioms sphShort
end Go.Pv
