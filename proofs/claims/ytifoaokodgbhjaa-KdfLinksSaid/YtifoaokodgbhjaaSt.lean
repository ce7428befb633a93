/- cmac: Tag, Short. -/
import Derived.Test.YtifoaokodgbhjaaSs
namespace Go.Pv
open Go Go.Proofs
def lcTagn0 : IC := (.seq (.reg [(.mk (some 22) none (.bin .lss (.t 21) (.t 20)))]) (.seq (.cond (.t 22) .skip (.exit 0)) (.seq (.block 1 (.seq (.reg [(.mk (some 23) none (.ias 1 (.t 19) (.t 21))), (.mk (some 24) none (.ld (.t 23))), (.mk (some 9) none (.mv (.t 24)))]) (.reg [(.mk (some 25) none (.mv (.t 6))), (.mk (some 26) none (.mv (.t 9))), (.mk (some 27) none (.call (.c (.fn 51 [])) [(.t 25), (.t 26)]))]))) (.reg [(.mk (some 28) none (.bin .add (.t 21) (.c (.int .i64 1)))), (.mk (some 21) none (.mv (.t 28)))]))))
def tcTagn1 : IC := (.seq (.reg [(.mk (some 29) none (.mv (.t 6))), (.mk (some 30) none (.call (.c (.fn 52 [])) [(.t 29)])), (.mk (some 31) none (.ext (.t 30) 0)), (.mk (some 32) none (.ext (.t 30) 1)), (.mk none none (.sta (.t 4) (.t 31) 16)), (.mk (some 5) none (.mv (.t 32)))]) .ret)
def ccTag : FnC := ⟨33, [(.a 4 16), (.t 5)], (.seq (.reg [(.mk (some 4) none (.al 91 [(.run .u8 16 (List.replicate 16 0))])), (.mk (some 5) none (.mv (.c (.int .i64 0))))]) (.seq (.reg [(.mk (some 11) none (.mv (.t 0))), (.mk (some 12) none (.call (.c (.fn 50 [])) [(.t 11)])), (.mk (some 10) none (.mv (.t 12))), (.mk (some 13) none (.ext (.t 10) 0)), (.mk (some 14) none (.ext (.t 10) 1)), (.mk (some 6) none (.mv (.t 13))), (.mk (some 7) none (.mv (.t 14)))]) (.seq (.seq (.reg [(.mk (some 15) none (.mv (.t 7))), (.mk (some 16) none (.bin .neq (.t 15) (.c (.int .i64 0))))]) (.cond (.t 16) (.seq (.reg [(.mk (some 17) none (.bld [(.run .u8 16 (List.replicate 16 0))] [])), (.mk (some 18) none (.mv (.t 7))), (.mk none none (.sta (.t 4) (.t 17) 16)), (.mk (some 5) none (.mv (.t 18)))]) .ret) .skip)) (.seq (.seq (.reg [(.mk (some 19) none (.mv (.t 1))), (.mk (some 20) none (.len (.t 19))), (.mk (some 21) none (.mv (.c (.int .i64 0))))]) (.block 0 (.loop lcTagn0))) tcTagn1))))⟩
theorem okcTag : FnOk Try.prog 41 ccTag := fnOk_mk Try.f41 (by kernel_rfl) (by kernel_rfl) (by kernel_rfl) (by kernel_rfl) (by kernel_rfl)


theorem CmAt.app {H : List SO} {t : Nat} {k m : List Int} (h : CmAt H t k m) (l : List SO) : CmAt (H ++ l) t k m := by
  obtain ⟨c, b, h1, h2, h3, h4⟩ := h
  exact ⟨c, b, at_old h1 _, at_old h2 _, h3, h4.app _⟩

theorem spcTag (H : List SO) (x : SV) (key : List Int) (t : Nat) (xs : List SV) (cs : List (List Int)) (ty a b : Nat) (hx : Byt H x key) (hk : key.length = 16) (hr : Rng key) (ht : H[t]? = some (.cells xs ty a b)) (hp : Parts H xs cs) (hn : xs.length ≤ 1000000) (hb : cs.flatten.length ≤ 800000000) :
    Spec Try.prog 41 [x, .sl t 0 xs.length xs.length] H fun v hs => v = .tup [.agg [.run .u8 16 (cmacF key cs.flatten)], .int .i64 0] ∧ hs = H := by
  obtain ⟨x1, x2, x3, x4⟩ := hx.facts
  have hl := hp.len
  have ho := hp.ones
  have lt := lt_of_at ht
  refine spec_h okcTag (by simp only [x1, go_sem]) (of_ble rfl) fun C hP hf hQ hn' hw hbd => ?_
  apply vc_ok 100
  simp only [FS.start, ccTag, paramsE, x1, go_sem, reduceCtorEq, Nat.reduceLT, ↓reduceIte]
  refine ok_ch hP 100 (spcNew _ x key (hx.app _) hk hr) okcNew rfl (call_ev rfl rfl (by simp only [x1, go_sem])) fun v hs' hq => ?_
  obtain ⟨rfl, rfl⟩ := hq
  have z : ((0 : Int) != 0) = false := rfl
  simp only [z, go_sem, reduceCtorEq, Nat.reduceEqDiff, Nat.reduceLT, Nat.reduceAdd, ↓reduceIte]
  refine ok_less (env' := [(21, .int .i64 (0 : Nat)), (20, .int .i64 xs.length), (19, .sl t 0 xs.length xs.length), (6, .ptr (H.length + 2) 0), (4, .ptr H.length 0)]) ?_ (by simp only [envSub, go_sem, Nat.reduceEqDiff, ↓reduceIte] <;> rfl)
  refine up (p := fun i => ∀ Hi : List SO, Hi[H.length]? = some (.cells [.run .u8 16 (List.replicate 16 0)] 91 0 0) → CmAt Hi (H.length + 2) key (cs.take i).flatten → (∀ u, u < H.length → Hi[u]? = H[u]?) →
      Ok C [⟨41, none, 33, [.a 4 16, .t 5], [(21, .int .i64 i), (20, .int .i64 xs.length), (19, .sl t 0 xs.length xs.length), (6, .ptr (H.length + 2) 0), (4, .ptr H.length 0)], [.c lcTagn0, .lp lcTagn0, .blk 0, .c tcTagn1], []⟩] Hi) xs.length ?_ ?_ _ (get_app0 _ _) ?_ ?_
  · intro i hi ih Hi fD fm fk
    have h1 : decide ((i : Int) < (xs.length : Int)) = true := by simp; omega
    have h2 := ldR_ones hi ho
    have hx := (hp.at_ i hi).keep fk
    obtain ⟨x1, x2, x3, x4⟩ := hx.facts
    have h4 := tot_succ cs i (by omega)
    have h5 := tot_le cs (i + 1)
    rw [h4] at h5 ih
    rw [List.length_append] at h5
    have ht' : Hi[t]? = some (.cells xs ty a b) := by rw [fk t lt]; exact ht
    have gD := lt_of_at fD
    refine ok_head lcTagn0.eq_1 (vc_ok 100 _ _ ?_)
    simp only [h1, h2, ht', x1, eq_self, go_sem, Nat.reduceEqDiff, Nat.reduceLT, ↓reduceIte]
    refine ⟨⟨by omega, by omega⟩, ?_⟩
    refine ok_ch hP 100 (spcWrite _ (H.length + 2) key _ _ _ fm hx (by omega)) okcWrite rfl (call_ev rfl rfl (by simp only [x1, go_sem])) fun v hs3 hq => ?_
    obtain ⟨rfl, fm3, hk3⟩ := hq
    simp only [eq_self, go_sem, Nat.reduceEqDiff, Nat.reduceLT, ↓reduceIte]
    refine ok_less (ih _ ?_ fm3 ?_) ?_
    · rw [hk3 _ gD (by omega)]; exact fD
    · intro u hu
      have : u < Hi.length := by
        by_cases hh : u < Hi.length
        · exact hh
        · have e := fk u hu
          rw [List.getElem?_eq_none (by omega)] at e
          rw [List.getElem?_eq_getElem hu] at e
          cases e
      rw [hk3 u this (by omega)]
      exact fk u hu
    · simp only [envSub, w64s (show i + 1 < 9223372036854775808 by omega), go_sem, Nat.reduceEqDiff, ↓reduceIte]
  · intro Hi fD fm fk
    have h1 : decide ((xs.length : Int) < (xs.length : Int)) = false := by simp
    have gD := lt_of_at fD
    rw [hl, List.take_length] at fm
    refine ok_head lcTagn0.eq_1 (vc_ok 100 _ _ ?_)
    simp only [hd tcTagn1.eq_1, h1, eq_self, go_sem, Nat.reduceEqDiff, Nat.reduceLT, ↓reduceIte]
    refine ok_ch hP 100 (spcMTag _ _ _ _ fm) okcMTag rfl rfl fun v hs3 hq => ?_
    obtain ⟨rfl, eh⟩ := hq
    simp only [eh, fD, gD, hx_eq, eq_self, go_sem, Nat.reduceEqDiff, Nat.reduceLT, ↓reduceIte]
    refine ⟨hf.symm, ?_⟩
    rw [hQ]
    refine gq_keep hw ?_ rfl ⟨rfl, rfl⟩
    intro u hu
    have e1 : (H.length = u) = False := by simp; omega
    simp only [e1, hx_ne, ne_eq, not_false_eq_true]
    exact fk u hu
  · refine ⟨H.length + 1, .nils, ?_, ?_, by omega, .inl ⟨rfl, by simp [crestF]⟩⟩
    · have e : cstF key (cs.take 0).flatten = List.replicate 16 0 := by rw [List.take_zero]; rfl
      rw [e]
      simp only [go_sem]
    · unfold CphAt; simp only [go_sem]
  · intro u hu
    simp only [hu, hx_old, eq_self]

/-- The short tag. -/
def cshF (key m : List Int) : List Int := (cmacF key m).take 12
theorem spcShort (H : List SO) (x : SV) (key : List Int) (t : Nat) (xs : List SV) (cs : List (List Int)) (ty a b : Nat) (hx : Byt H x key) (hk : key.length = 16) (hr : Rng key) (ht : H[t]? = some (.cells xs ty a b)) (hp : Parts H xs cs) (hn : xs.length ≤ 1000000) (hb : cs.flatten.length ≤ 800000000) :
    Spec Try.prog 55 [x, .sl t 0 xs.length xs.length] H fun v hs => v = .tup [.agg [.run .u8 12 (cshF key cs.flatten)], .int .i64 0] ∧ hs = H := by
  obtain ⟨x1, x2, x3, x4⟩ := hx.facts
  have lt := lt_of_at ht
  refine spec_h okcShort (by simp only [x1, go_sem]) (of_ble rfl) fun C hP hf hQ hn' hw hbd => ?_
  apply vc_ok 100
  simp only [FS.start, ccShort, paramsE, x1, go_sem, reduceCtorEq, Nat.reduceEqDiff, Nat.reduceLT, ↓reduceIte]
  refine ok_ch hP 100 (spcTag _ x key t xs cs ty a b (hx.app _) hk hr (at_old ht _) (hp.app _) hn hb) okcTag rfl (call_ev rfl rfl (by simp only [x1, go_sem])) fun v hs' hq => ?_
  obtain ⟨rfl, rfl⟩ := hq
  have z : ((0 : Int) == 0) = true := rfl
  simp only [z, evR_cpy, List.drop_zero, go_sem, reduceCtorEq, Nat.reduceEqDiff, Nat.reduceLT, Nat.reduceLeDiff, ↓reduceIte]
  refine fin0 hf hQ hw rfl ⟨?_, rfl⟩
  rw [cshF]
#print axioms spcShort
end Go.Pv
