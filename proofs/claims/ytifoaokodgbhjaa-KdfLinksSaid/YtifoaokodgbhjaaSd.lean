/- slices.Clone, Grow, Concat on bytes. -/
import Derived.Test.YtifoaokodgbhjaaSc
import Derived.Test.YtifoaokodgbhjaaGreatVx
namespace Go.Pv
open Go Go.Proofs
def cClone : FnC := ⟨8, [(.t 2)], (.seq (.reg [(.mk (some 2) none (.mv (.c .nils)))]) (.seq (.seq (.reg [(.mk (some 3) none (.mv (.t 0))), (.mk (some 4) none (.eqn 1 false (.t 3) (.c .nils)))]) (.cond (.t 4) (.seq (.reg [(.mk (some 2) none (.mv (.c .nils)))]) .ret) .skip)) (.seq (.reg [(.mk (some 5) none (.bsl 5 0 [] [])), (.mk (some 6) none (.mv (.t 0))), (.mk (some 7) none (.app 5 1 1 [(.int .u8 0)] false (.t 5) (.t 6))), (.mk (some 2) none (.mv (.t 7)))]) .ret)))⟩
theorem okClone : FnOk Try.prog 40 cClone := fnOk_mk Try.f40 (by kernel_rfl) (by kernel_rfl) (by kernel_rfl) (by kernel_rfl) (by kernel_rfl)
def cGrow : FnC := ⟨27, [(.t 4)], (.seq (.reg [(.mk (some 4) none (.mv (.c .nils)))]) (.seq (.seq (.reg [(.mk (some 5) none (.mv (.t 1))), (.mk (some 6) none (.bin .lss (.t 5) (.c (.int .i64 0))))]) (.cond (.t 6) (.reg [(.mk (some 7) none .bad), (.mk none none .bad)]) .skip)) (.seq (.seq (.reg [(.mk (some 8) none (.mv (.t 1))), (.mk (some 9) none (.mv (.t 0))), (.mk (some 10) none (.cap (.t 9))), (.mk (some 11) none (.mv (.t 0))), (.mk (some 12) none (.len (.t 11))), (.mk (some 13) none (.bin .sub (.t 10) (.t 12))), (.mk (some 14) none (.bin .sub (.t 8) (.t 13))), (.mk (some 1) none (.mv (.t 14)))]) (.seq (.reg [(.mk (some 15) none (.mv (.t 1))), (.mk (some 16) none (.bin .gtr (.t 15) (.c (.int .i64 0))))]) (.cond (.t 16) (.reg [(.mk (some 17) none (.mv (.t 0))), (.mk (some 18) none (.mv (.t 0))), (.mk (some 19) none (.cap (.t 18))), (.mk (some 20) none (.slc 1 (.t 17) none (some (.t 19)))), (.mk (some 21) none (.mv (.t 1))), (.mk (some 22) none (.app 5 1 1 [(.int .u8 0)] true (.t 20) (.t 21))), (.mk (some 23) none (.mv (.t 0))), (.mk (some 24) none (.len (.t 23))), (.mk (some 25) none (.slc 1 (.t 22) none (some (.t 24)))), (.mk (some 0) none (.mv (.t 25)))]) .skip))) (.seq (.reg [(.mk (some 26) none (.mv (.t 0))), (.mk (some 4) none (.mv (.t 26)))]) .ret))))⟩
theorem okGrow : FnOk Try.prog 42 cGrow := fnOk_mk Try.f42 (by kernel_rfl) (by kernel_rfl) (by kernel_rfl) (by kernel_rfl) (by kernel_rfl)
def lConcatn0 : IC := (.seq (.reg [(.mk (some 12) none (.bin .lss (.t 11) (.t 10)))]) (.seq (.cond (.t 12) .skip (.exit 0)) (.seq (.block 1 (.seq (.reg [(.mk (some 13) none (.ias 1 (.t 9) (.t 11))), (.mk (some 14) none (.ld (.t 13))), (.mk (some 5) none (.mv (.t 14)))]) (.seq (.reg [(.mk (some 15) none (.mv (.t 3))), (.mk (some 16) none (.mv (.t 5))), (.mk (some 17) none (.len (.t 16))), (.mk (some 18) none (.bin .add (.t 15) (.t 17))), (.mk (some 3) none (.mv (.t 18)))]) (.seq (.reg [(.mk (some 19) none (.mv (.t 3))), (.mk (some 20) none (.bin .lss (.t 19) (.c (.int .i64 0))))]) (.cond (.t 20) (.reg [(.mk (some 21) none .bad), (.mk none none .bad)]) .skip))))) (.reg [(.mk (some 22) none (.bin .add (.t 11) (.c (.int .i64 1)))), (.mk (some 11) none (.mv (.t 22)))]))))
def lConcatn1 : IC := (.seq (.reg [(.mk (some 28) none (.bin .lss (.t 27) (.t 26)))]) (.seq (.cond (.t 28) .skip (.exit 2)) (.seq (.block 3 (.seq (.reg [(.mk (some 29) none (.ias 1 (.t 25) (.t 27))), (.mk (some 30) none (.ld (.t 29))), (.mk (some 8) none (.mv (.t 30)))]) (.reg [(.mk (some 31) none (.mv (.t 6))), (.mk (some 32) none (.mv (.t 8))), (.mk (some 33) none (.app 5 1 1 [(.int .u8 0)] false (.t 31) (.t 32))), (.mk (some 6) none (.mv (.t 33)))]))) (.reg [(.mk (some 34) none (.bin .add (.t 27) (.c (.int .i64 1)))), (.mk (some 27) none (.mv (.t 34)))]))))
def tConcatn2 : IC := (.seq (.reg [(.mk (some 35) none (.mv (.t 6))), (.mk (some 2) none (.mv (.t 35)))]) .ret)
def tConcatn3 : IC := (.seq (.reg [(.mk (some 23) none (.mv (.t 3))), (.mk (some 24) none (.call (.c (.fn 42 [])) [(.c .nils), (.t 23)])), (.mk (some 6) none (.mv (.t 24)))]) (.seq (.seq (.reg [(.mk (some 25) none (.mv (.t 0))), (.mk (some 26) none (.len (.t 25))), (.mk (some 27) none (.mv (.c (.int .i64 0))))]) (.block 2 (.loop lConcatn1))) tConcatn2))
def cConcat : FnC := ⟨36, [(.t 2)], (.seq (.reg [(.mk (some 2) none (.mv (.c .nils)))]) (.seq (.reg [(.mk (some 3) none (.mv (.c (.int .i64 0))))]) (.seq (.seq (.reg [(.mk (some 9) none (.mv (.t 0))), (.mk (some 10) none (.len (.t 9))), (.mk (some 11) none (.mv (.c (.int .i64 0))))]) (.block 0 (.loop lConcatn0))) tConcatn3)))⟩
theorem okConcat : FnOk Try.prog 27 cConcat := fnOk_mk Try.f27 (by kernel_rfl) (by kernel_rfl) (by kernel_rfl) (by kernel_rfl) (by kernel_rfl)



theorem spClonen : Spec Try.prog 40 [.nils] [] fun x hs => x = .nils ∧ hs = [] := by
  refine spec_mk okClone rfl (of_ble rfl) fun C hP hf hQ h0 => ?_
  apply vc_ok 100
  simp only [FS.start, cClone, paramsE, go_sem, reduceCtorEq, Nat.reduceLT, ↓reduceIte]
  refine ⟨hf.symm, ?_⟩
  rw [hQ]
  exact gc_drop [] _ rfl rfl rfl ⟨rfl, rfl⟩

theorem spClone (m off len cap ty : Nat) (L : List Int) (hm : off + len ≤ m) (hb : len ≤ 140737488355328) : Spec Try.prog 40 [.sl 0 off len cap] [.cells [.run .u8 m L] ty 0 0]
    fun x hs => ∃ o, hs = [.cells [.run .u8 m L] ty 0 0, o] ∧ Own 1 (part L off len) x o := by
  refine spec_mk okClone rfl (of_ble rfl) fun C hP hf hQ h0 => ?_
  refine ok_wf 0 rfl fun hL => ?_
  apply vc_ok 100
  simp only [FS.start, cClone, paramsE, go_sem, reduceCtorEq, Nat.reduceLT, ↓reduceIte]
  obtain ⟨p, hp1, hp2⟩ := srcC_run (hs := [.cells [.run .u8 m L] ty 0 0, .cells [] 5 0 0]) (t := 0) (cap := cap) (off := off) (len := len) rfl (.inl hL) hm
  refine app_empty (n := len) (l' := part L off len) rfl rfl hp1 hp2 (by simp [part]; omega) hb fun t' cap' L' hs' hc' hl' hL' hcase => ?_
  have hpl : (part L off len).length = len := by simp [part]; omega
  rcases hcase with ⟨rfl, rfl⟩ | ⟨rfl, rfl⟩
  · simp only [go_sem, Nat.reduceLT, ↓reduceIte]
    refine ⟨hf.symm, ?_⟩
    rw [hQ]
    exact gc_drop [.cells [.run .u8 m L] ty 0 0, .cells [.run .u8 cap' L'] 5 0 0] [] rfl rfl rfl ⟨_, rfl, cap', L', by omega, hl', by rw [hpl]; exact hL', by rw [hpl], rfl⟩
  · simp only [go_sem, Nat.reduceLT, Nat.reduceAdd, ↓reduceIte]
    refine ⟨hf.symm, ?_⟩
    rw [hQ]
    exact ⟨[0, 2], .sl 1 0 len cap', [.cells [.run .u8 m L] ty 0 0, .cells [.run .u8 cap' L'] 5 0 0], ⟨rfl, rfl, trivial⟩, rfl, by decide, fun i hi => by simp at hi; subst hi; rfl, rfl, rfl, _, rfl, cap', L', by omega, hl', by rw [hpl]; exact hL', by rw [hpl], rfl⟩
#print axioms spClone

theorem spGrowz : Spec Try.prog 42 [.nils, .int .i64 (0 : Nat)] [] fun x hs => x = .nils ∧ hs = [] := by
  refine spec_mk okGrow rfl (of_ble rfl) fun C hP hf hQ h0 => ?_
  have h1 : IntKind.i64.wrap (0 - IntKind.i64.wrap (0 - 0)) = 0 := by decide
  apply vc_ok 100
  simp only [FS.start, cGrow, paramsE, h1, go_sem, reduceCtorEq, Nat.reduceEqDiff, Nat.reduceLT, Int.reduceLT, ↓reduceIte]
  refine ⟨hf.symm, ?_⟩
  rw [hQ]
  exact gc_drop [] _ rfl rfl rfl ⟨rfl, rfl⟩

theorem spGrow (n : Nat) (h0 : 0 < n) (hb : n ≤ 140737488355328) : Spec Try.prog 42 [.nils, .int .i64 n] [] fun x hs => ∃ cap L, n ≤ cap ∧ L.length = cap ∧ x = .sl 0 0 0 cap ∧ hs = [.cells [.run .u8 cap L] 5 0 0] := by
  refine spec_mk okGrow rfl (of_ble rfl) fun C hP hf hQ hn => ?_
  have h1 : decide ((n : Int) < 0) = false := by simp
  have h2 : IntKind.i64.wrap ((n : Int) - IntKind.i64.wrap (0 - 0)) = (n : Int) := by
    rw [show IntKind.i64.wrap (0 - 0) = 0 by decide, w64 (by omega) (by omega)]; omega
  have h3 : decide ((0 : Int) < (n : Int)) = true := by simp; omega
  apply vc_ok 100
  simp only [FS.start, cGrow, paramsE, h1, h2, h3, go_sem, reduceCtorEq, Nat.reduceEqDiff, Nat.reduceLT, Int.reduceToNat, Int.reduceLE, ↓reduceIte]
  refine app_nil (n := n) (l' := List.replicate n 0) (p2 := (0 : Int) ≤ (n : Int)) rfl rfl (by omega) (by simp) hb (fun h => by omega) fun _ cap' L' hc' hl' hL' => ?_
  simp only [go_sem, reduceCtorEq, Nat.reduceEqDiff, Nat.reduceLT, Int.reduceToNat, Int.reduceLE, ↓reduceIte]
  refine ⟨by omega, hf.symm, ?_⟩
  rw [hQ]
  exact gc_drop [.cells [.run .u8 cap' L'] 5 0 0] [] rfl rfl rfl ⟨cap', L', hc', hl', rfl, rfl⟩
#print axioms spGrow

theorem len_bts {hs : List SO} {x : SV} {c : List Int} (h : Bts hs x c) : lenQ (some x) = .v True (.int .i64 c.length) ∧ x.one = true ∧ x.c1 = true := by
  rcases h with ⟨rfl, rfl⟩ | ⟨t, off, cap, m, L, ty, a, b, rfl, _⟩ <;> exact ⟨rfl, rfl, rfl⟩

end Go.Pv
