/- aes: the cipher. -/
import Derived.Test.YtifoaokodgbhjaaSo
namespace Go.Pv
open Go Go.Proofs
def caNew : FnC := ⟨13, [(.t 2), (.t 3)], (.seq (.reg [(.mk (some 2) none (.mv (.c .nilp))), (.mk (some 3) none (.mv (.c (.int .i64 0))))]) (.seq (.seq (.reg [(.mk (some 4) none (.mv (.t 0))), (.mk (some 5) none (.len (.t 4))), (.mk (some 6) none (.bin .neq (.t 5) (.c (.int .i64 16))))]) (.cond (.t 6) (.seq (.reg [(.mk (some 2) none (.mv (.c .nilp))), (.mk (some 3) none (.mv (.c (.int .i64 2))))]) .ret) .skip)) (.seq (.reg [(.mk (some 7) none (.mv (.t 0))), (.mk (some 8) none (.s2a 16 (.t 7))), (.mk (some 9) none (.lda (.t 8) 16)), (.mk (some 10) none (.call (.c (.fn 75 [])) [(.t 9)])), (.mk (some 11) none (.bld [(.run .u8 16 (List.replicate 16 0)), (.run .u8 16 (List.replicate 16 0)), (.run .u8 16 (List.replicate 16 0)), (.run .u8 16 (List.replicate 16 0)), (.run .u8 16 (List.replicate 16 0)), (.run .u8 16 (List.replicate 16 0)), (.run .u8 16 (List.replicate 16 0)), (.run .u8 16 (List.replicate 16 0)), (.run .u8 16 (List.replicate 16 0)), (.run .u8 16 (List.replicate 16 0)), (.run .u8 16 (List.replicate 16 0)), (.bool false)] [(0, (176, (.t 10))), (176, (1, (.c (.bool true))))])), (.mk (some 12) none (.bx 149 (.t 11))), (.mk (some 2) none (.mv (.t 12))), (.mk (some 3) none (.mv (.c (.int .i64 0))))]) .ret)))⟩
theorem okaNew : FnOk Try.prog 60 caNew := fnOk_mk Try.f60 (by kernel_rfl) (by kernel_rfl) (by kernel_rfl) (by kernel_rfl) (by kernel_rfl)
def caNone : FnC := ⟨12, [(.t 2)], (.seq (.reg [(.mk (some 2) none (.mv (.c (.bool false))))]) (.seq (.reg [(.mk (some 3) none (.mv (.t 0))), (.mk (some 4) none (.eqn 0 false (.t 3) (.c .nilp))), (.mk (some 5) none (.mv (.t 4))), (.mk (some 6) (some (5, false)) (.mv (.t 0))), (.mk (some 7) (some (5, false)) (.nc (.t 6))), (.mk (some 8) (some (5, false)) (.fa 176 (.t 7))), (.mk (some 9) (some (5, false)) (.ld (.t 8))), (.mk (some 10) (some (5, false)) (.un .not (.t 9))), (.mk (some 11) none (.pick (.t 5) (.c (.bool true)) (.t 10))), (.mk (some 2) none (.mv (.t 11)))]) .ret))⟩
theorem okaNone : FnOk Try.prog 92 caNone := fnOk_mk Try.f92 (by kernel_rfl) (by kernel_rfl) (by kernel_rfl) (by kernel_rfl) (by kernel_rfl)
def caSteps : FnC := ⟨6, [(.t 4)], (.seq (.reg [(.mk (some 2) none (.bx 119 (.t 0))), (.mk (some 3) none (.bx 91 (.t 1))), (.mk (some 4) none (.mv (.c .nilf)))]) (.seq (.reg [(.mk (some 5) none (.mkf 98 [(.t 2), (.t 3)])), (.mk (some 4) none (.mv (.t 5)))]) .ret))⟩
theorem okaSteps : FnOk Try.prog 93 caSteps := fnOk_mk Try.f93 (by kernel_rfl) (by kernel_rfl) (by kernel_rfl) (by kernel_rfl) (by kernel_rfl)
def laStepsCn1 : IC := (.seq (.reg [(.mk (some 29) none (.bin .lss (.t 28) (.t 27)))]) (.seq (.cond (.t 29) .skip (.exit 2)) (.seq (.block 3 (.seq (.reg [(.mk (some 30) none (.ias 1 (.t 26) (.t 28))), (.mk (some 31) none (.ld (.t 30))), (.mk (some 9) none (.mv (.t 31)))]) (.seq (.reg [(.mk (some 32) none (.mv (.t 6))), (.mk (some 33) none (.bin .gtr (.t 32) (.c (.int .i64 0))))]) (.cond (.t 33) (.reg [(.mk (some 34) none (.mv (.t 9))), (.mk (some 35) none (.lda (.t 4) 16)), (.mk (some 36) none (.call (.t 34) [(.t 35)])), (.mk none none (.sta (.t 4) (.t 36) 16))]) .skip)))) (.reg [(.mk (some 37) none (.bin .add (.t 28) (.c (.int .i64 1)))), (.mk (some 28) none (.mv (.t 37)))]))))
def taStepsCn2 : IC := (.seq (.reg [(.mk (some 38) none (.mkf 103 [(.t 4), (.t 7)])), (.mk (some 39) none (.call (.c (.fn 102 [])) [(.t 38)])), (.mk none none (.sta (.t 4) (.t 39) 16))]) (.seq (.reg [(.mk (some 40) none (.mv (.t 0))), (.mk (some 41) none (.mv (.t 6))), (.mk (some 42) none (.lda (.t 4) 16)), (.mk (some 43) none (.call (.t 40) [(.t 41), (.t 42)])), (.mk (some 44) none (.un .not (.t 43)))]) (.cond (.t 44) (.exit 0) .skip)))
def taStepsCn3 : IC := (.reg [(.mk (some 45) none (.bin .add (.t 18) (.c (.int .i64 1)))), (.mk (some 18) none (.mv (.t 45)))])
def laStepsCn4 : IC := (.seq (.reg [(.mk (some 19) none (.bin .lss (.t 18) (.c (.int .i64 11))))]) (.seq (.cond (.t 19) .skip (.exit 0)) (.seq (.block 1 (.seq (.reg [(.mk (some 20) none (.mv (.t 18))), (.mk (some 21) none (.idx 11 16 true (.t 17) (.t 18))), (.mk (some 7) none (.al 91 [(.run .u8 16 (List.replicate 16 0))])), (.mk (some 6) none (.mv (.t 20))), (.mk none none (.sta (.t 7) (.t 21) 16))]) (.seq (.seq (.reg [(.mk (some 22) none (.mv (.t 6))), (.mk (some 23) none (.bin .eql (.t 22) (.c (.int .i64 10))))]) (.cond (.t 23) (.reg [(.mk (some 24) none (.mv (.t 5))), (.mk (some 25) none (.slc 1 (.t 24) none (some (.c (.int .i64 2))))), (.mk (some 5) none (.mv (.t 25)))]) .skip)) (.seq (.seq (.reg [(.mk (some 26) none (.mv (.t 5))), (.mk (some 27) none (.len (.t 26))), (.mk (some 28) none (.mv (.c (.int .i64 0))))]) (.block 2 (.loop laStepsCn1))) taStepsCn2)))) taStepsCn3)))
def saStepsCn0 : IC := (.seq (.seq (.reg [(.mk (some 10) none (.ld (.t 1))), (.mk (some 11) none (.call (.c (.fn 92 [])) [(.t 10)]))]) (.cond (.t 11) .ret .skip)) (.seq (.reg [(.mk (some 12) none (.lda (.t 2) 16)), (.mk (some 4) none (.al 91 [(.run .u8 16 (List.replicate 16 0))])), (.mk none none (.sta (.t 4) (.t 12) 16))]) (.seq (.reg [(.mk (some 13) none (.bsl 127 3 [.nilf, .nilf, .nilf] [(0, (1, (.c (.fn 99 [])))), (1, (1, (.c (.fn 100 [])))), (2, (1, (.c (.fn 101 []))))])), (.mk (some 5) none (.mv (.t 13)))]) (.seq (.label 0) (.seq (.reg [(.mk (some 14) none (.ld (.t 1))), (.mk (some 15) none (.nc (.t 14))), (.mk (some 16) none (.fa 0 (.t 15))), (.mk (some 17) none (.lda (.t 16) 176)), (.mk (some 18) none (.mv (.c (.int .i64 0))))]) (.block 0 (.loop laStepsCn4)))))))
def caStepsC : FnC := ⟨46, [], (.scope saStepsCn0)⟩
theorem okaStepsC : FnOk Try.prog 98 caStepsC := fnOk_mk Try.f98 (by kernel_rfl) (by kernel_rfl) (by kernel_rfl) (by kernel_rfl) (by kernel_rfl)
def aaMaken0 : IC := (.reg [(.mk (some 7) none (.al 91 [(.run .u8 16 (List.replicate 16 0))])), (.mk none none (.sta (.t 7) (.t 15) 16))])
def baMaken1 : IC := (.block 1 (.reg [(.mk (some 16) none (.lda (.t 7) 16)), (.mk none none (.sta (.t 4) (.t 16) 16))]))
def taMaken2 : IC := (.seq (.reg [(.mk (some 17) none (.lda (.t 4) 16)), (.mk none none (.sta (.t 4) (.t 17) 16)), (.mk (some 5) none (.mv (.c (.int .i64 0))))]) .ret)
def caMake : FnC := ⟨18, [(.a 4 16), (.t 5)], (.seq (.reg [(.mk (some 3) none (.bx 91 (.t 1))), (.mk (some 4) none (.al 91 [(.run .u8 16 (List.replicate 16 0))])), (.mk (some 5) none (.mv (.c (.int .i64 0))))]) (.seq (.seq (.reg [(.mk (some 8) none (.mv (.t 0))), (.mk (some 9) none (.call (.c (.fn 92 [])) [(.t 8)]))]) (.cond (.t 9) (.seq (.reg [(.mk (some 10) none (.lda (.t 4) 16)), (.mk none none (.sta (.t 4) (.t 10) 16)), (.mk (some 5) none (.mv (.c (.int .i64 1))))]) .ret) .skip)) (.seq (.seq (.reg [(.mk (some 11) none (.mv (.t 0))), (.mk (some 12) none (.lda (.t 3) 16)), (.mk (some 13) none (.call (.c (.fn 93 [])) [(.t 11), (.t 12)]))]) (.block 0 (.rf (.t 13) [14, 15] aaMaken0 baMaken1))) taMaken2)))⟩
theorem okaMake : FnOk Try.prog 77 caMake := fnOk_mk Try.f77 (by kernel_rfl) (by kernel_rfl) (by kernel_rfl) (by kernel_rfl) (by kernel_rfl)


theorem rowsK_10 (k : List Int) : rowsK k 10 = [rndKey k 0, rndKey k 1, rndKey k 2, rndKey k 3, rndKey k 4, rndKey k 5, rndKey k 6, rndKey k 7, rndKey k 8, rndKey k 9, rndKey k 10] := by
  simp only [rowsK, it, List.replicate, List.set_cons_zero, List.set_cons_succ, rndKey, Nat.reduceAdd]

/-- The cells of a cipher. -/
def cphV (k : List Int) : List SV := rowsV (rowsK k 10) ++ [.bool true]
theorem cph_ld (k : List Int) : ldR (cphV k) 176 = .v True (.bool true) := by
  rw [cphV, rowsK_10]; rfl
theorem cph_lda (k : List Int) : ldaR (cphV k) 0 176 = .v True (.agg (rowsV (rowsK k 10))) := by
  rw [cphV, rowsK_10]; rfl
def CphAt (H : List SO) (t : Nat) (k : List Int) : Prop := H[t]? = some (.cells (cphV k) 149 0 0)

theorem spaNew0 (H : List SO) (x : SV) (k : List Int) (hx : Byt H x k) (hl : k.length ≠ 16) (hb : k.length < 1000000) : Spec Try.prog 60 [x] H fun v hs => v = .tup [.nilp, .int .i64 2] ∧ hs = H := by
  obtain ⟨x1, x2, x3, x4⟩ := hx.facts
  have hlen := hx.len
  refine spec_h okaNew (by simp only [x1, go_sem]) (of_ble rfl) fun C hP hf hQ h0 hw hbd => ?_
  have h1 : ((k.length : Int) != 16) = true := by simp; omega
  apply vc_ok 100
  simp only [FS.start, caNew, paramsE, hlen, h1, go_sem, reduceCtorEq, Nat.reduceEqDiff, Nat.reduceLT, ↓reduceIte]
  exact fin00 hf hQ hw rfl ⟨rfl, rfl⟩

theorem spaNew (H : List SO) (x : SV) (k : List Int) (hx : Byt H x k) (hl : k.length = 16) (hr : Rng k) : Spec Try.prog 60 [x] H fun v hs => v = .tup [.ptr H.length 0, .int .i64 0] ∧ hs = H ++ [.cells (cphV k) 149 0 0] := by
  rcases hx with ⟨_, h⟩ | ⟨t, off, cap, cs, ty, a, b, rfl, hc, ht, hB⟩
  · simp [h] at hl
  have lt := lt_of_at ht
  refine spec_h okaNew rfl (of_ble rfl) fun C hP hf hQ h0 hw hbd => ?_
  have h1 : ((k.length : Int) != 16) = false := by simp; omega
  have r := hB.lda 0 16 (by omega)
  rw [Nat.add_zero, List.drop_zero, List.take_of_length_le (by omega)] at r
  apply vc_ok 100
  simp only [FS.start, caNew, paramsE, ht, r, hl, eq_self, go_sem, reduceCtorEq, Nat.reduceLT, Nat.reduceLeDiff, ↓reduceIte, Int.reduceBNe]
  refine ok_ch hP 100 (spaKeys _ k hr) okaKeys rfl rfl fun v hs' hq => ?_
  obtain ⟨rfl, eh⟩ := hq
  simp only [eh, rowsK_10, rowsV, List.map_cons, List.map_nil, go_sem, reduceCtorEq, Nat.reduceEqDiff, Nat.reduceLT, Nat.reduceLeDiff, Nat.reduceAdd, Nat.reduceSub, ↓reduceIte]
  refine ⟨hf.symm, ?_⟩
  rw [hQ]
  refine gq_all hw rfl (by simp [bnds, SV.bnd]) ⟨rfl, ?_⟩
  rw [cphV, rowsK_10]
  rfl

/-- A cipher that one may use. -/
theorem spaNone (H : List SO) (t : Nat) (k : List Int) (h : CphAt H t k) : Spec Try.prog 92 [.ptr t 0] H fun v hs => v = .bool false ∧ hs = H := by
  have lt := lt_of_at h
  unfold CphAt at h
  refine spec_h okaNone rfl (of_ble rfl) fun C hP hf hQ h0 hw hbd => ?_
  apply vc_ok 100
  simp only [FS.start, caNone, paramsE, h, cph_ld, eq_self, go_sem, reduceCtorEq, Nat.reduceEqDiff, Nat.reduceLT, ↓reduceIte]
  exact fin00 hf hQ hw rfl ⟨rfl, rfl⟩

theorem spaSteps (H : List SO) (t : Nat) (s : List Int) (ht : t < H.length) : Spec Try.prog 93 [.ptr t 0, .agg [.run .u8 16 s]] H fun v hs => v = .fn 98 [.ptr H.length 0, .ptr (H.length + 1) 0] ∧ hs = H ++ [.cells [.ptr t 0] 119 0 0, .cells [.run .u8 16 s] 91 0 0] := by
  refine spec_h okaSteps rfl (of_ble rfl) fun C hP hf hQ h0 hw hbd => ?_
  apply vc_ok 100
  simp only [FS.start, caSteps, paramsE, eq_self, go_sem, reduceCtorEq, Nat.reduceEqDiff, Nat.reduceLT, ↓reduceIte]
  refine ⟨hf.symm, ?_⟩
  rw [hQ]
  refine gq_all hw (by simp [SO.bnd, bnds, SV.bnd]; omega) (by simp [bnds, SV.bnd]) ⟨rfl, rfl⟩

/-! ### The rounds -/
structure MkI (H : List SO) (envL : Env) (Hd : List SO) (r st : List Int) : Prop where
  len : H.length + 8 ≤ Hd.length
  old : ∀ u, u < H.length → Hd[u]? = H[u]?
  fF : Hd[H.length + 1]? = some (.cells [.run .u8 16 r] 91 0 0)
  fd : Hd[H.length + 4]? = some (.defd true)
  fL : Hd[H.length + 5]? = some (.loop .ready none 77 envL 18 [14, 15] aaMaken0 baMaken1 (H.length + 4))
  fS : Hd[H.length + 6]? = some (.cells [.run .u8 16 st] 91 0 0)
  fD : Hd[H.length + 7]? = some (.cells [.fn 99 [], .fn 100 [], .fn 101 []] 127 0 0)
section
variable {H Hd : List SO} {envL : Env} {r st : List Int}
theorem MkI.push (I : MkI H envL Hd r st) (l : List SO) : MkI H envL (Hd ++ l) r st := by
  have := I.len
  refine ⟨by simp; omega, fun u hu => ?_, ?_, ?_, ?_, ?_, ?_⟩
  · rw [List.getElem?_append_left (by omega)]; exact I.old u hu
  · rw [List.getElem?_append_left (by omega)]; exact I.fF
  · rw [List.getElem?_append_left (by omega)]; exact I.fd
  · rw [List.getElem?_append_left (by omega)]; exact I.fL
  · rw [List.getElem?_append_left (by omega)]; exact I.fS
  · rw [List.getElem?_append_left (by omega)]; exact I.fD
theorem MkI.other (I : MkI H envL Hd r st) {j : Nat} (hj : H.length + 8 ≤ j) (o : SO) : MkI H envL (Hd.set j o) r st := by
  have := I.len
  refine ⟨by simp; omega, fun u hu => ?_, ?_, ?_, ?_, ?_, ?_⟩
  · rw [List.getElem?_set_ne (by omega)]; exact I.old u hu
  · rw [List.getElem?_set_ne (by omega)]; exact I.fF
  · rw [List.getElem?_set_ne (by omega)]; exact I.fd
  · rw [List.getElem?_set_ne (by omega)]; exact I.fL
  · rw [List.getElem?_set_ne (by omega)]; exact I.fS
  · rw [List.getElem?_set_ne (by omega)]; exact I.fD
theorem MkI.setS (I : MkI H envL Hd r st) (x : List Int) : MkI H envL (Hd.set (H.length + 6) (.cells [.run .u8 16 x] 91 0 0)) r x := by
  have := I.len
  refine ⟨by simp; omega, fun u hu => ?_, ?_, ?_, ?_, ?_, ?_⟩
  · rw [List.getElem?_set_ne (by omega)]; exact I.old u hu
  · rw [List.getElem?_set_ne (by omega)]; exact I.fF
  · rw [List.getElem?_set_ne (by omega)]; exact I.fd
  · rw [List.getElem?_set_ne (by omega)]; exact I.fL
  · exact List.getElem?_set_self (by omega)
  · rw [List.getElem?_set_ne (by omega)]; exact I.fD
theorem MkI.setF (I : MkI H envL Hd r st) (x : List Int) : MkI H envL (Hd.set (H.length + 1) (.cells [.run .u8 16 x] 91 0 0)) x st := by
  have := I.len
  refine ⟨by simp; omega, fun u hu => ?_, ?_, ?_, ?_, ?_, ?_⟩
  · rw [List.getElem?_set_ne (by omega)]; exact I.old u hu
  · exact List.getElem?_set_self (by omega)
  · rw [List.getElem?_set_ne (by omega)]; exact I.fd
  · rw [List.getElem?_set_ne (by omega)]; exact I.fL
  · rw [List.getElem?_set_ne (by omega)]; exact I.fS
  · rw [List.getElem?_set_ne (by omega)]; exact I.fD

/-- The frame below. -/
def mkF (M : Nat) : FS := ⟨77, none, 18, [.a 4 16, .t 5], [(4, .ptr (M + 1) 0)], [.irf (M + 5), .blk 0, .c taMaken2], [M + 4]⟩

theorem lpMakeT {C : Ctx} (hP : C.P = Try.prog) (I : MkI H envL Hd r st) (hE : lk envL 4 = some (.ptr (H.length + 1) 0)) (n B : Nat) (rk : List Int) (rows : List (List Int)) (x : SV) (hn : n < 100) (hB : H.length + 8 ≤ B) (fB : Hd[B]? = some (.cells [.run .u8 16 rk] 91 0 0))
    (K : ∀ He, MkI H envL He (adkF st rk) (adkF st rk) → Ok C [⟨98, none, 46, [], [(18, .int .i64 (n + 1 : Nat)), (17, .agg (rowsV rows)), (5, x), (4, .ptr (H.length + 6) 0), (0, .yld (H.length + 5))], [.c laStepsCn4, .lp laStepsCn4, .blk 0, .sc saStepsCn0], []⟩, mkF H.length] He) :
    Ok C [⟨98, none, 46, [], [(18, .int .i64 n), (17, .agg (rowsV rows)), (5, x), (4, .ptr (H.length + 6) 0), (0, .yld (H.length + 5)), (6, .int .i64 n), (7, .ptr B 0)], [.c taStepsCn2, .blk 1, .c taStepsCn3, .lp laStepsCn4, .blk 0, .sc saStepsCn0], []⟩, mkF H.length] Hd := by
  have f1 := I.fF
  have f4 := I.fd
  have f5 := I.fL
  have f6 := I.fS
  have l1 := lt_of_at f1
  have l5 := lt_of_at f5
  have l6 := lt_of_at f6
  have lB := lt_of_at fB
  apply vc_ok 100
  simp only [hd taStepsCn2.eq_1, mkF, eq_self, go_sem, reduceCtorEq, Nat.reduceEqDiff, Nat.reduceLT, ↓reduceIte]
  refine ok_ch hP 100 (spaEach _ 103 [.ptr (H.length + 6) 0, .ptr B 0] (keyAt st rk) okaStepsCC rfl (by simp [bnds, SV.bnd]; omega) (fun o i hi => spaStepsCC _ (H.length + 6) B 91 91 st rk i hi (at_old f6 _) (at_old fB _))) okaEach rfl rfl fun v hs' hq => ?_
  obtain ⟨rfl, eh⟩ := hq
  have n65 : (H.length + 6 = H.length + 5) = False := by simp
  have n61 : (H.length + 6 = H.length + 1) = False := by simp
  have n51 : (H.length + 5 = H.length + 1) = False := by simp
  have n15 : (H.length + 1 = H.length + 5) = False := by simp
  have n56 : (H.length + 5 = H.length + 6) = False := by simp
  have n16 : (H.length + 1 = H.length + 6) = False := by simp
  simp only [eh, f5, f6, l6, n65, hx_ne, hx_eq, ne_eq, eq_self, not_false_eq_true, go_sem, reduceCtorEq, Nat.reduceEqDiff, Nat.reduceLT, ↓reduceIte]
  have qn : IntKind.i64.wrap ((n : Int) + 1) = ((n + 1 : Nat) : Int) := by rw [w64 (by omega) (by omega)]; omega
  simp only [hd aaMaken0.eq_1, hd baMaken1.eq_1, hd taStepsCn3.eq_1, qn, f1, f5, l1, l5, n65, n61, n51, n15, hE, hx_old, hx_new0, hx_sold, hx_snew0, hx_ne, hx_eq, List.length_set, ne_eq, eq_self, not_false_eq_true, go_sem, Nat.reduceEqDiff, Nat.reduceLT, ↓reduceIte]
  have f7 := I.fD
  have l7 := lt_of_at f7
  have l4 := lt_of_at f4
  have hlen := I.len
  refine ok_less (K _ ⟨by simp; omega, fun u hu => ?_, ?_, ?_, ?_, ?_, ?_⟩) (by simp only [envSub, go_sem, reduceCtorEq, Nat.reduceEqDiff, ↓reduceIte] <;> rfl)
  · have e1 : (H.length + 1 = u) = False := by simp; omega
    have e5 : (H.length + 5 = u) = False := by simp; omega
    have e6 : (H.length + 6 = u) = False := by simp; omega
    have eu : u < Hd.length := by omega
    simp only [e1, e5, e6, eu, hx_old, hx_ne, List.length_set, ne_eq, not_false_eq_true]
    exact I.old u hu
  · simp only [n51, l1, hx_old, hx_ne, hx_eq, List.length_set, ne_eq, not_false_eq_true]
    rfl
  · have e1 : (H.length + 1 = H.length + 4) = False := by simp
    have e5 : (H.length + 5 = H.length + 4) = False := by simp
    have e6 : (H.length + 6 = H.length + 4) = False := by simp
    simp only [e1, e5, e6, l4, f4, hx_old, hx_ne, List.length_set, ne_eq, eq_self, not_false_eq_true]
  · simp only [l5, hx_old, hx_eq, List.length_set, eq_self]
  · simp only [n56, n16, l6, hx_old, hx_ne, hx_eq, List.length_set, ne_eq, not_false_eq_true]
    rfl
  · have e1 : (H.length + 1 = H.length + 7) = False := by simp
    have e5 : (H.length + 5 = H.length + 7) = False := by simp
    have e6 : (H.length + 6 = H.length + 7) = False := by simp
    simp only [e1, e5, e6, l7, f7, hx_old, hx_ne, List.length_set, ne_eq, eq_self, not_false_eq_true]

/-- Within a round, ahead of its `j`th step of `m`. -/
def fJ (M n m j B : Nat) (x : SV) (rows : List (List Int)) : FS :=
  ⟨98, none, 46, [], [(27, .int .i64 m), (28, .int .i64 j), (26, .sl (M + 7) 0 m 3), (18, .int .i64 n), (17, .agg (rowsV rows)), (5, x), (4, .ptr (M + 6) 0), (0, .yld (M + 5)), (6, .int .i64 n), (7, .ptr B 0)],
    [.c laStepsCn1, .lp laStepsCn1, .blk 2, .c taStepsCn2, .blk 1, .c taStepsCn3, .lp laStepsCn4, .blk 0, .sc saStepsCn0], []⟩
def PJ (C : Ctx) (H : List SO) (envL : Env) (r rk : List Int) (n m j B : Nat) (x : SV) (rows : List (List Int)) (st : List Int) : Prop :=
  ∀ Hd, MkI H envL Hd r st → Hd[B]? = some (.cells [.run .u8 16 rk] 91 0 0) → Ok C [fJ H.length n m j B x rows, mkF H.length] Hd
section
variable {C : Ctx} (hP : C.P = Try.prog) {H : List SO} {envL : Env} {r rk st : List Int} {n m j B : Nat} {x : SV} {rows : List (List Int)} (hB : H.length + 8 ≤ B) (hm : m ≤ 3)
include hP hB hm

theorem pjExit (hE : lk envL 4 = some (.ptr (H.length + 1) 0)) (hn : n < 100)
    (K : ∀ He, MkI H envL He (adkF st rk) (adkF st rk) → Ok C [⟨98, none, 46, [], [(18, .int .i64 (n + 1 : Nat)), (17, .agg (rowsV rows)), (5, x), (4, .ptr (H.length + 6) 0), (0, .yld (H.length + 5))], [.c laStepsCn4, .lp laStepsCn4, .blk 0, .sc saStepsCn0], []⟩, mkF H.length] He) :
    PJ C H envL r rk n m m B x rows st := by
  intro Hd I fB
  have _ := hm
  have h1 : decide ((m : Int) < (m : Int)) = false := by simp
  refine ok_head laStepsCn1.eq_1 (vc_ok 7 _ _ ?_)
  simp only [h1, eq_self, go_sem, Nat.reduceEqDiff, Nat.reduceLT, ↓reduceIte]
  exact ok_less (lpMakeT hP I hE n B rk rows x hn hB fB K) (by simp only [envSub, go_sem, reduceCtorEq, Nat.reduceEqDiff, ↓reduceIte] <;> rfl)

theorem pjSkip0 (hj : 0 < m) (K : PJ C H envL r rk 0 m 1 B x rows st) : PJ C H envL r rk 0 m 0 B x rows st := by
  intro Hd I fB
  have _ := hP
  have _ := hB
  have _ := hm
  have h1 : decide ((0 : Int) < (m : Int)) = true := by simp; omega
  have h2 : (0 : Int) < (m : Int) := by omega
  have h3 : (0 : Int) ≤ 0 := by decide
  have f7 := I.fD
  have l7 := lt_of_at f7
  refine ok_head laStepsCn1.eq_1 (vc_ok 100 _ _ ?_)
  simp only [h1, f7, eq_self, go_sem, reduceCtorEq, Nat.reduceEqDiff, Nat.reduceLT, Int.reduceToNat, Int.reduceLT, Int.reduceLE, ↓reduceIte]
  refine ⟨h2, ok_less (K _ I fB) (by simp only [envSub, go_sem, reduceCtorEq, Nat.reduceEqDiff, ↓reduceIte] <;> rfl)⟩

theorem pjRun0 (hj : 0 < m) (hn : 0 < n) (hr : Rng st) (K : PJ C H envL r rk n m 1 B x rows (boxF st)) : PJ C H envL r rk n m 0 B x rows st := by
  intro Hd I fB
  have h1 : decide ((0 : Int) < (m : Int)) = true := by simp; omega
  have h2 : (0 : Int) < (m : Int) := by omega
  have h4 : decide ((0 : Int) < (n : Int)) = true := by simp; omega
  have f7 := I.fD
  have l7 := lt_of_at f7
  have f6 := I.fS
  have l6 := lt_of_at f6
  refine ok_head laStepsCn1.eq_1 (vc_ok 100 _ _ ?_)
  simp only [h1, h4, f7, f6, eq_self, go_sem, reduceCtorEq, Nat.reduceEqDiff, Nat.reduceLT, Int.reduceToNat, Int.reduceLE, ↓reduceIte]
  refine ⟨h2, ?_⟩
  refine ok_ch hP 100 (spaBoxed _ _ (fun i _ => hr i)) okaBoxed rfl rfl fun v hs' hq => ?_
  obtain ⟨rfl, eh⟩ := hq
  simp only [eh, f6, eq_self, go_sem, Nat.reduceEqDiff, Nat.reduceLT, ↓reduceIte]
  have nB : (H.length + 6 = B) = False := by simp; omega
  refine ok_less (K _ (I.setS _) (by simp only [nB, fB, hx_ne, ne_eq, eq_self, not_false_eq_true])) (by simp only [envSub, go_sem, reduceCtorEq, Nat.reduceEqDiff, ↓reduceIte] <;> rfl)

theorem pjSkip1 (hj : 1 < m) (K : PJ C H envL r rk 0 m 2 B x rows st) : PJ C H envL r rk 0 m 1 B x rows st := by
  intro Hd I fB
  have _ := hP
  have _ := hB
  have _ := hm
  have h1 : decide ((1 : Int) < (m : Int)) = true := by simp; omega
  have h2 : (1 : Int) < (m : Int) := by omega
  have h3 : (0 : Int) ≤ 1 := by decide
  have f7 := I.fD
  have l7 := lt_of_at f7
  refine ok_head laStepsCn1.eq_1 (vc_ok 100 _ _ ?_)
  simp only [h1, f7, eq_self, go_sem, reduceCtorEq, Nat.reduceEqDiff, Nat.reduceLT, Int.reduceToNat, Int.reduceLT, Int.reduceLE, ↓reduceIte]
  refine ⟨h2, ok_less (K _ I fB) (by simp only [envSub, go_sem, reduceCtorEq, Nat.reduceEqDiff, ↓reduceIte] <;> rfl)⟩

theorem pjRun1 (hj : 1 < m) (hn : 0 < n) (K : PJ C H envL r rk n m 2 B x rows (movF st)) : PJ C H envL r rk n m 1 B x rows st := by
  intro Hd I fB
  have h1 : decide ((1 : Int) < (m : Int)) = true := by simp; omega
  have h2 : (1 : Int) < (m : Int) := by omega
  have h4 : decide ((0 : Int) < (n : Int)) = true := by simp; omega
  have f7 := I.fD
  have l7 := lt_of_at f7
  have f6 := I.fS
  have l6 := lt_of_at f6
  refine ok_head laStepsCn1.eq_1 (vc_ok 100 _ _ ?_)
  simp only [h1, h4, f7, f6, eq_self, go_sem, reduceCtorEq, Nat.reduceEqDiff, Nat.reduceLT, Int.reduceToNat, Int.reduceLE, ↓reduceIte]
  refine ⟨h2, ?_⟩
  refine ok_ch hP 100 (spaMoved _ _) okaMoved rfl rfl fun v hs' hq => ?_
  obtain ⟨rfl, eh⟩ := hq
  simp only [eh, f6, eq_self, go_sem, Nat.reduceEqDiff, Nat.reduceLT, ↓reduceIte]
  have nB : (H.length + 6 = B) = False := by simp; omega
  refine ok_less (K _ (I.setS _) (by simp only [nB, fB, hx_ne, ne_eq, eq_self, not_false_eq_true])) (by simp only [envSub, go_sem, reduceCtorEq, Nat.reduceEqDiff, ↓reduceIte] <;> rfl)

theorem pjSkip2 (hj : 2 < m) (K : PJ C H envL r rk 0 m 3 B x rows st) : PJ C H envL r rk 0 m 2 B x rows st := by
  intro Hd I fB
  have _ := hP
  have _ := hB
  have _ := hm
  have h1 : decide ((2 : Int) < (m : Int)) = true := by simp; omega
  have h2 : (2 : Int) < (m : Int) := by omega
  have h3 : (0 : Int) ≤ 2 := by decide
  have f7 := I.fD
  have l7 := lt_of_at f7
  refine ok_head laStepsCn1.eq_1 (vc_ok 100 _ _ ?_)
  simp only [h1, f7, eq_self, go_sem, reduceCtorEq, Nat.reduceEqDiff, Nat.reduceLT, Int.reduceToNat, Int.reduceLT, Int.reduceLE, ↓reduceIte]
  refine ⟨h2, ok_less (K _ I fB) (by simp only [envSub, go_sem, reduceCtorEq, Nat.reduceEqDiff, ↓reduceIte] <;> rfl)⟩

theorem pjRun2 (hj : 2 < m) (hn : 0 < n) (K : PJ C H envL r rk n m 3 B x rows (mxdF st)) : PJ C H envL r rk n m 2 B x rows st := by
  intro Hd I fB
  have h1 : decide ((2 : Int) < (m : Int)) = true := by simp; omega
  have h2 : (2 : Int) < (m : Int) := by omega
  have h4 : decide ((0 : Int) < (n : Int)) = true := by simp; omega
  have f7 := I.fD
  have l7 := lt_of_at f7
  have f6 := I.fS
  have l6 := lt_of_at f6
  refine ok_head laStepsCn1.eq_1 (vc_ok 100 _ _ ?_)
  simp only [h1, h4, f7, f6, eq_self, go_sem, reduceCtorEq, Nat.reduceEqDiff, Nat.reduceLT, Int.reduceToNat, Int.reduceLE, ↓reduceIte]
  refine ⟨h2, ?_⟩
  refine ok_ch hP 100 (spaMixed _ _) okaMixed rfl rfl fun v hs' hq => ?_
  obtain ⟨rfl, eh⟩ := hq
  simp only [eh, f6, eq_self, go_sem, Nat.reduceEqDiff, Nat.reduceLT, ↓reduceIte]
  have nB : (H.length + 6 = B) = False := by simp; omega
  refine ok_less (K _ (I.setS _) (by simp only [nB, fB, hx_ne, ne_eq, eq_self, not_false_eq_true])) (by simp only [envSub, go_sem, reduceCtorEq, Nat.reduceEqDiff, ↓reduceIte] <;> rfl)

end
end

/-- Ahead of round `n`. -/
def fH (M n m : Nat) (rows : List (List Int)) : FS :=
  ⟨98, none, 46, [], [(18, .int .i64 n), (17, .agg (rowsV rows)), (5, .sl (M + 7) 0 m 3), (4, .ptr (M + 6) 0), (0, .yld (M + 5))], [.c laStepsCn4, .lp laStepsCn4, .blk 0, .sc saStepsCn0], []⟩
def PH (C : Ctx) (H : List SO) (envL : Env) (r : List Int) (n m : Nat) (rows : List (List Int)) (st : List Int) : Prop :=
  ∀ Hd, MkI H envL Hd r st → Ok C [fH H.length n m rows, mkF H.length] Hd
section
variable {C : Ctx} {H : List SO} {envL : Env} {r st : List Int}
theorem phStep (k : List Int) (n : Nat) (hn : n < 10) (K : ∀ B, H.length + 8 ≤ B → PJ C H envL r (rndKey k n) n 3 0 B (.sl (H.length + 7) 0 3 3) (rowsK k 10) st) : PH C H envL r n 3 (rowsK k 10) st := by
  intro Hd I
  have hl := I.len
  have h1 : decide ((n : Int) < 11) = true := by simp; omega
  have h2 : ((n : Int) == 10) = false := by simp; omega
  have rl := lda_rows (R := rowsK k 10) n (by rw [rowsK_len]; decide) (by rw [rowsK_len]; omega)
  rw [rowsK_at k 10 n (by omega) (by omega), Nat.mul_comm] at rl
  refine ok_head laStepsCn4.eq_1 (vc_ok 100 _ _ ?_)
  simp only [h1, h2, rl, Int.toNat_natCast, Bool.false_eq_true, hx_new0, hx_snew0, eq_self, go_sem, Nat.reduceEqDiff, Nat.reduceLT, ↓reduceIte]
  refine ⟨⟨by omega, by omega⟩, ?_⟩
  exact ok_less (K Hd.length hl _ (I.push _) (by simp only [hx_new0, eq_self, go_sem])) (by simp only [envSub, go_sem, reduceCtorEq, Nat.reduceEqDiff, ↓reduceIte] <;> rfl)
theorem phLast (k : List Int) (K : ∀ B, H.length + 8 ≤ B → PJ C H envL r (rndKey k 10) 10 2 0 B (.sl (H.length + 7) 0 2 3) (rowsK k 10) st) : PH C H envL r 10 3 (rowsK k 10) st := by
  intro Hd I
  have hl := I.len
  have rl := lda_rows (R := rowsK k 10) 10 (by rw [rowsK_len]; decide) (by rw [rowsK_len]; omega)
  rw [rowsK_at k 10 10 (by omega) (by omega)] at rl
  simp only [Nat.reduceMul] at rl
  refine ok_head laStepsCn4.eq_1 (vc_ok 100 _ _ ?_)
  simp only [rl, hx_new0, hx_snew0, eq_self, go_sem, reduceCtorEq, Nat.reduceEqDiff, Nat.reduceLT, Nat.reduceMul, Int.reduceToNat, Int.reduceLT, Int.reduceLE, ↓reduceIte, Int.reduceBEq]
  exact ok_less (K Hd.length hl _ (I.push _) (by simp only [hx_new0, eq_self, go_sem])) (by simp only [envSub, go_sem, reduceCtorEq, Nat.reduceEqDiff, ↓reduceIte] <;> rfl)
theorem phEnd {Q : SV → List SO → Prop} (hf : C.f = 77) (hQ : C.Q = GQ H.length Q) (hw : Wf H) (rows : List (List Int)) (m : Nat) (h : Q (.tup [.agg [.run .u8 16 r], .int .i64 0]) H) : PH C H envL r 11 m rows st := by
  intro Hd I
  have f1 := I.fF
  have f4 := I.fd
  have f5 := I.fL
  have l1 := lt_of_at f1
  have l4 := lt_of_at f4
  have l5 := lt_of_at f5
  have hl := I.len
  refine ok_head laStepsCn4.eq_1 (vc_ok 100 _ _ ?_)
  have n51 : (H.length + 5 = H.length + 1) = False := by simp
  have n54 : (H.length + 5 = H.length + 4) = False := by simp
  have n14 : (H.length + 1 = H.length + 4) = False := by simp
  have n45 : (H.length + 4 = H.length + 5) = False := by simp
  have n41 : (H.length + 4 = H.length + 1) = False := by simp
  simp only [hd taMaken2.eq_1, mkF, f1, f4, f5, l1, n51, n54, n14, n41, hx_ne, hx_eq, List.length_set, ne_eq, eq_self, not_false_eq_true, go_sem, Nat.reduceEqDiff, Nat.reduceLT, Int.reduceLT, ↓reduceIte]
  refine ⟨hf.symm, ?_⟩
  rw [hQ]
  refine gq_keep hw (fun u hu => ?_) rfl h
  rw [List.getElem?_set_ne (by omega), List.getElem?_set_ne (by omega), List.getElem?_set_ne (by omega)]
  exact I.old u hu
end

/-- The state behind round `n`. -/
def aesR (k s : List Int) : Nat → List Int
  | 0 => adkF s (rndKey k 0)
  | n + 1 => adkF (mxdF (movF (boxF (aesR k s n)))) (rndKey k (n + 1))
/-- **A block under a key.** -/
def aesF (k s : List Int) : List Int := adkF (movF (boxF (aesR k s 9))) (rndKey k 10)
theorem adkF_rng (s k : List Int) : Rng (adkF s k) := rng_each fun i => bw_rng _ _ _
theorem aesR_rng (k s : List Int) : ∀ n, Rng (aesR k s n)
  | 0 => adkF_rng _ _
  | _ + 1 => adkF_rng _ _

theorem spaMake (H : List SO) (t : Nat) (k s : List Int) (h : CphAt H t k) : Spec Try.prog 77 [.ptr t 0, .agg [.run .u8 16 s]] H fun v hs => v = .tup [.agg [.run .u8 16 (aesF k s)], .int .i64 0] ∧ hs = H := by
  have lt := lt_of_at h
  refine spec_h okaMake rfl (of_ble rfl) fun C hP hf hQ h0 hw hbd => ?_
  apply vc_ok 100
  simp only [FS.start, caMake, paramsE, eq_self, go_sem, reduceCtorEq, Nat.reduceLT, ↓reduceIte]
  refine ok_ch hP 100 (spaNone _ t k (at_old h _)) okaNone rfl rfl fun v hs' hq => ?_
  obtain ⟨rfl, rfl⟩ := hq
  simp only [hx_new0, eq_self, go_sem, reduceCtorEq, Nat.reduceEqDiff, Nat.reduceLT, ↓reduceIte]
  refine ok_ch hP 100 (spaSteps _ t s (by simp; omega)) okaSteps rfl rfl fun v hs' hq => ?_
  obtain ⟨rfl, rfl⟩ := hq
  simp only [go_sem, Nat.reduceLT, Nat.reduceAdd]
  refine ok_range hP 100 rfl okaStepsC (by rfl) (by exact of_ble rfl) ?_
  simp only [FS.start, caStepsC, hd saStepsCn0.eq_1, paramsE, hx_new, eq_self, go_sem, reduceCtorEq, Nat.reduceLT, Nat.reduceAdd, ↓reduceIte]
  refine ok_ch hP 100 (spaNone _ t k (at_old h _)) okaNone rfl rfl fun v hs' hq => ?_
  obtain ⟨rfl, rfl⟩ := hq
  have hc := h
  unfold CphAt at hc
  simp only [lt, hc, cph_lda, hx_old, hx_new, hx_snew, eq_self, go_sem, reduceCtorEq, Nat.reduceEqDiff, Nat.reduceLT, Nat.reduceAdd, ↓reduceIte]
  refine ok_less (env' := [(18, .int .i64 (0 : Nat)), (17, .agg (rowsV (rowsK k 10))), (5, .sl (H.length + 7) 0 3 3), (4, .ptr (H.length + 6) 0), (0, .yld (H.length + 5))]) ?_ (by simp only [envSub, go_sem, reduceCtorEq, Nat.reduceEqDiff, ↓reduceIte] <;> rfl)
  refine ok_less2 (env' := [(4, .ptr (H.length + 1) 0)]) ?_ (by simp only [envSub, go_sem, Nat.reduceEqDiff, ↓reduceIte] <;> rfl)
  generalize hE : ([(13, _), _, _, _, _, _, _, _, _, _] : Env) = envL
  have hE4 : lk envL 4 = some (.ptr (H.length + 1) 0) := by rw [← hE]; rfl
  clear hE
  have fin : ∀ r m, r = aesF k s → PH C H envL r 11 m (rowsK k 10) r := fun r m e => phEnd hf hQ hw _ m (by rw [e]; exact ⟨rfl, rfl⟩)
  have last : PH C H envL (aesR k s 9) 10 3 (rowsK k 10) (aesR k s 9) := phLast k fun B hB =>
    pjRun0 hP hB (by decide) (by decide) (by decide) (aesR_rng k s 9) (pjRun1 hP hB (by decide) (by decide) (by decide) (pjExit hP hB (by decide) hE4 (by decide) fun He I => fin _ 2 rfl He I))
  have mid : ∀ i, i < 9 → PH C H envL (aesR k s (i + 1)) (i + 1 + 1) 3 (rowsK k 10) (aesR k s (i + 1)) → PH C H envL (aesR k s i) (i + 1) 3 (rowsK k 10) (aesR k s i) := by
    intro i hi K
    exact phStep k (i + 1) (by omega) fun B hB =>
      pjRun0 hP hB (by decide) (by decide) (by omega) (aesR_rng k s i) (pjRun1 hP hB (by decide) (by decide) (by omega) (pjRun2 hP hB (by decide) (by decide) (by omega) (pjExit hP hB (by decide) hE4 (by omega) fun He I => K He I)))
  have one : PH C H envL (aesR k s 0) 1 3 (rowsK k 10) (aesR k s 0) := up (p := fun i => PH C H envL (aesR k s i) (i + 1) 3 (rowsK k 10) (aesR k s i)) 9 mid last
  have zero : PH C H envL (List.replicate 16 0) 0 3 (rowsK k 10) s := phStep k 0 (by decide) fun B hB =>
    pjSkip0 hP hB (by decide) (by decide) (pjSkip1 hP hB (by decide) (by decide) (pjSkip2 hP hB (by decide) (by decide) (pjExit hP hB (by decide) hE4 (by decide) fun He I => one He I)))
  refine zero _ ⟨by simp, fun u hu => ?_, ?_, ?_, ?_, ?_, ?_⟩
  · simp only [hu, hx_old, eq_self]
  all_goals simp only [go_sem]
#print axioms spaMake
end Go.Pv
