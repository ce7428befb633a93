/- MacSame. -/
import Derived.Test.YtifoaokodgbhjaaSk
namespace Go.Pv
open Go Go.Proofs
def dlSamen0 : DT := (.one 23 (.mk (some 50) none (.pick (.t 48) (.t 49) (.c (.bool false)))) [] (.one 24 (.mk (some 8) none (.mv (.t 50))) [] .fin))
def dlSamen1 : DT := (.one 20 (.mk (some 47) none (.pick (.t 43) (.t 46) (.c (.bool false)))) [] (.one 21 (.mk (some 48) none (.mv (.t 47))) [] (.one 22 (.mk (some 49) (some (48, true)) (.call (.c (.fn 8 [])) [])) [21, 20, 19, 16, 17, 18, 15, 10, 7, 14, 8, 9, 6, 2, 13, 5, 0, 1, 11, 12, 3, 4] dlSamen0)))
def dlSamen2 : DT := (.one 14 (.mk (some 41) (some (34, true)) (.eqb false (.t 37) (.t 40))) [] (.one 15 (.mk (some 42) none (.pick (.t 34) (.t 41) (.c (.bool false)))) [] (.one 16 (.mk (some 43) none (.mv (.t 42))) [] (.tk 17 (.mk (some 44) (some (43, true)) (.lda (.t 4) 12)) (.one 18 (.mk (some 45) (some (43, true)) (.lda (.t 4) 12)) [] (.one 19 (.mk (some 46) (some (43, true)) (.call (.c (.fn 7 [])) [(.t 44), (.t 45)])) [17, 18, 16, 15, 10, 7, 14, 8, 9, 6, 2, 13, 5, 0, 1, 11, 12, 3, 4] dlSamen1))))))
def dlSamen3 : DT := (.one 6 (.mk (some 33) none (.eqb false (.t 29) (.t 32))) [] (.one 7 (.mk (some 34) none (.mv (.t 33))) [] (.tk 8 (.mk (some 35) (some (34, true)) (.lda (.t 5) 12)) (.tk 9 (.mk (some 36) (some (34, true)) (.lda (.t 4) 12)) (.tk 11 (.mk (some 38) (some (34, true)) (.lda (.t 4) 12)) (.tk 12 (.mk (some 39) (some (34, true)) (.lda (.t 5) 12)) (.tk 13 (.mk (some 40) (some (34, true)) (.eqa false [(.run .u8 12 (List.replicate 12 0))] (.t 38) (.t 39))) (.one 10 (.mk (some 37) (some (34, true)) (.call (.c (.fn 7 [])) [(.t 35), (.t 36)])) [8, 9, 7, 6, 2, 5, 0, 1, 3, 4] dlSamen2))))))))
def mlSamen0 : IC := (.seq (.dreg (.tk 0 (.mk (some 27) none (.lda (.t 4) 12)) (.tk 1 (.mk (some 28) none (.lda (.t 5) 12)) (.tk 3 (.mk (some 30) none (.lda (.t 4) 12)) (.tk 4 (.mk (some 31) none (.lda (.t 5) 12)) (.tk 5 (.mk (some 32) none (.eqa false [(.run .u8 12 (List.replicate 12 0))] (.t 30) (.t 31))) (.one 2 (.mk (some 29) none (.call (.c (.fn 7 [])) [(.t 27), (.t 28)])) [0, 1] dlSamen3))))))) .ret)
def clSame : FnC := ⟨51, [(.t 8)], (.seq (.reg [(.mk (some 4) none (.bx 22 (.t 0))), (.mk (some 5) none (.bx 22 (.t 1))), (.mk (some 8) none (.mv (.c (.bool false))))]) (.seq (.seq (.reg [(.mk (some 9) none (.mv (.t 2)))]) (.cond (.t 9) (.seq (.reg [(.mk (some 10) none (.lda (.t 4) 12)), (.mk none none (.sta (.t 5) (.t 10) 12))]) (.seq (.reg [(.mk (some 11) none (.mv (.t 3))), (.mk (some 12) none (.bin .rem (.t 11) (.c (.int .i64 96)))), (.mk (some 13) none (.bin .add (.t 12) (.c (.int .i64 96)))), (.mk (some 14) none (.bin .rem (.t 13) (.c (.int .i64 96)))), (.mk (some 3) none (.mv (.t 14)))]) (.reg [(.mk (some 15) none (.mv (.t 3))), (.mk (some 16) none (.bin .quo (.t 15) (.c (.int .i64 8)))), (.mk (some 17) none (.mv (.t 3))), (.mk (some 18) none (.bin .quo (.t 17) (.c (.int .i64 8)))), (.mk (some 19) none (.iaa 12 1 (.t 5) (.t 18))), (.mk (some 20) none (.ld (.t 19))), (.mk (some 21) none (.mv (.t 3))), (.mk (some 22) none (.bin .rem (.t 21) (.c (.int .i64 8)))), (.mk (some 23) none (.cvi .u64 (.t 22))), (.mk (some 24) none (.bin .shl (.c (.int .u8 1)) (.t 23))), (.mk (some 25) none (.bin .xor (.t 20) (.t 24))), (.mk (some 26) none (.iaa 12 1 (.t 5) (.t 16))), (.mk none none (.st (.t 26) (.t 25)))]))) .skip)) mlSamen0))⟩
theorem oklSame : FnOk Try.prog 3 clSame := fnOk_mk Try.f3 (by kernel_rfl) (by kernel_rfl) (by kernel_rfl) (by kernel_rfl) (by kernel_rfl)


/-- All bytes. -/
def Bytes (l : List Int) : Prop := ∀ x ∈ l, 0 ≤ x ∧ x < 256
theorem Bytes.getD {l : List Int} (h : Bytes l) (i : Nat) : 0 ≤ l.getD i 0 ∧ l.getD i 0 < 256 := by
  rw [List.getD_eq_getElem?_getD]
  cases hi : l[i]? with
  | none => simp
  | some x => exact h x (List.mem_of_getElem? hi)

theorem wrap_u8 {n : Nat} (h : n < 256) : IntKind.u8.wrap (n : Int) = n := by
  have hb : IntKind.u8.bits = 8 := rfl
  have hs : IntKind.u8.signed = false := rfl
  simp only [IntKind.wrap, hb, hs]
  simp
  omega
theorem bw8_range (op : BinOp) (x y : Int) : 0 ≤ bw op .u8 x y ∧ bw op .u8 x y < 256 := by
  unfold bw
  have hb : IntKind.u8.bits = 8 := rfl
  have hs : IntKind.u8.signed = false := rfl
  simp only [IntKind.wrap, hb, hs]
  simp
  omega
theorem ofInt8_inj {x y : Int} (hx : 0 ≤ x ∧ x < 256) (hy : 0 ≤ y ∧ y < 256) (h : BitVec.ofInt 8 x = BitVec.ofInt 8 y) : x = y := by
  have := congrArg BitVec.toNat h
  simp only [BitVec.toNat_ofInt] at this
  omega
theorem bw8_or (x y : Int) (hx : 0 ≤ x ∧ x < 256) (hy : 0 ≤ y ∧ y < 256) : bw .or .u8 x y = 0 ↔ x = 0 ∧ y = 0 := by
  have e : bw .or .u8 x y = IntKind.u8.wrap (((BitVec.ofInt 8 x ||| BitVec.ofInt 8 y).toNat : Nat) : Int) := rfl
  rw [e, wrap_u8 (by have := (BitVec.ofInt 8 x ||| BitVec.ofInt 8 y).isLt; omega)]
  constructor
  · intro h
    have h0 : BitVec.ofInt 8 x ||| BitVec.ofInt 8 y = 0#8 := BitVec.eq_of_toNat_eq (by simpa using h)
    rw [BitVec.or_eq_zero_iff] at h0
    exact ⟨ofInt8_inj hx ⟨by omega, by omega⟩ (by simpa using h0.1), ofInt8_inj hy ⟨by omega, by omega⟩ (by simpa using h0.2)⟩
  · rintro ⟨rfl, rfl⟩; rfl
theorem bw8_xor (x y : Int) (hx : 0 ≤ x ∧ x < 256) (hy : 0 ≤ y ∧ y < 256) : bw .xor .u8 x y = 0 ↔ x = y := by
  have e : bw .xor .u8 x y = IntKind.u8.wrap (((BitVec.ofInt 8 x ^^^ BitVec.ofInt 8 y).toNat : Nat) : Int) := rfl
  rw [e, wrap_u8 (by have := (BitVec.ofInt 8 x ^^^ BitVec.ofInt 8 y).isLt; omega)]
  constructor
  · intro h
    have h0 : BitVec.ofInt 8 x ^^^ BitVec.ofInt 8 y = 0#8 := BitVec.eq_of_toNat_eq (by simpa using h)
    rw [BitVec.xor_eq_zero_iff] at h0
    exact ofInt8_inj hx hy h0
  · rintro rfl; simp

theorem sameF_eq {a b : List Int} (ha : Bytes a) (hb : Bytes b) (la : a.length = 12) (lb : b.length = 12) : sameF a b = (a == b) := by
  have key : ∀ n, n ≤ 12 → (0 ≤ it (sameS a b) n 0 ∧ it (sameS a b) n 0 < 256) ∧ (it (sameS a b) n 0 = 0 ↔ ∀ i, i < n → a.getD i 0 = b.getD i 0) := by
    intro n
    induction n with
    | zero => intro _; simp [it]
    | succ n ih =>
      intro hn
      obtain ⟨h1, h2⟩ := ih (by omega)
      refine ⟨bw8_range .or (it (sameS a b) n 0) _, ?_⟩
      show bw .or .u8 (it (sameS a b) n 0) (bw .xor .u8 (a.getD n 0) (b.getD n 0)) = 0 ↔ _
      rw [bw8_or _ _ h1 (bw8_range .xor _ _), bw8_xor _ _ (ha.getD n) (hb.getD n), h2]
      constructor
      · rintro ⟨h3, h4⟩ i hi
        rcases Nat.lt_succ_iff_lt_or_eq.1 hi with h | rfl
        · exact h3 i h
        · exact h4
      · intro h
        exact ⟨fun i hi => h i (by omega), h n (by omega)⟩
  have h12 := (key 12 (Nat.le_refl _)).2
  have : (it (sameS a b) 12 0 = 0) ↔ a = b := by
    rw [h12]
    constructor
    · intro h
      apply List.ext_getElem (by omega)
      intro i hi hi'
      have := h i (by omega)
      simpa [hi, hi'] using this
    · rintro rfl i _; rfl
  unfold sameF
  rw [Bool.eq_iff_iff]
  simp [this]

theorem splSame (H : List SO) (a b : List Int) (near : Bool) (bit : Int) (ha : Bytes a) (hb : Bytes b) (la : a.length = 12) (lb : b.length = 12) :
    Spec Try.prog 3 [.agg [.run .u8 12 a], .agg [.run .u8 12 b], .bool near, .int .i64 bit] H fun v hs => v = .bool true ∧ hs = H := by
  refine spec_h oklSame rfl (of_ble rfl) fun C hP hf hQ hn hw hbd => ?_
  have key : ∀ b : List Int, Bytes b → b.length = 12 → Ok C [⟨3, none, 51, [.t 8], [(4, .ptr H.length 0), (5, .ptr (H.length + 1) 0)], [.c mlSamen0], []⟩] (H ++ [.cells [.run .u8 12 a] 22 0 0, .cells [.run .u8 12 b] 22 0 0]) := by
    intro b hb lb
    have e1 := sameF_eq ha hb la lb
    have e2 := sameF_eq hb ha lb la
    have e3 := sameF_eq ha ha la la
    have e4 : (b == a) = (a == b) := Bool.beq_comm
    have e5 : (a == a) = true := by simp
    have e6 : ∀ x : Bool, (x == x) = true := by intro x; cases x <;> rfl
    refine ok_head mlSamen0.eq_1 (vc_ok 100 _ _ ?_)
    simp only [go_sem, Nat.reduceEqDiff, Nat.reduceLT, Nat.reduceBEq, ↓reduceIte]
    refine ok_dch hP 100 (spmSame _ _ _) okmSame rfl rfl fun v hs2 hq => ?_
    obtain ⟨rfl, rfl⟩ := hq
    simp only [hdd dlSamen3.eq_1, e1, e6, go_sem, Nat.reduceEqDiff, Nat.reduceLT, Nat.reduceBEq, ↓reduceIte]
    refine ok_dch hP 100 (spmSame _ _ _) okmSame rfl rfl fun v hs2 hq => ?_
    obtain ⟨rfl, rfl⟩ := hq
    simp only [hdd dlSamen2.eq_1, e2, e4, e6, go_sem, Nat.reduceEqDiff, Nat.reduceLT, Nat.reduceBEq, ↓reduceIte]
    refine ok_dch hP 100 (spmSame _ _ _) okmSame rfl rfl fun v hs2 hq => ?_
    obtain ⟨rfl, rfl⟩ := hq
    simp only [hdd dlSamen1.eq_1, e3, e5, e6, go_sem, Nat.reduceEqDiff, Nat.reduceLT, Nat.reduceBEq, ↓reduceIte]
    refine ok_dch hP 100 (splWorks5 _) oklWorks5 rfl rfl fun v hs2 hq => ?_
    obtain ⟨rfl, rfl⟩ := hq
    simp only [hdd dlSamen0.eq_1, go_sem, Nat.reduceEqDiff, Nat.reduceLT, ↓reduceIte]
    exact fin0 hf hQ hw rfl ⟨rfl, rfl⟩
  cases near with
  | false =>
    apply vc_ok 13
    simp only [FS.start, clSame, paramsE, go_sem, reduceCtorEq, Nat.reduceEqDiff, Nat.reduceLT, Nat.reduceAdd, ↓reduceIte]
    exact ok_less (key b hb lb) (by simp only [envSub, go_sem, Nat.reduceEqDiff, ↓reduceIte] <;> rfl)
  | true =>
    have w1 : IntKind.i64.wrap (Int.tmod bit 96 + 96) = Int.tmod bit 96 + 96 := by
      have := Int.tmod_lt_of_pos bit (show (0 : Int) < 96 by decide)
      have := Int.lt_tmod_of_pos bit (show (0 : Int) < 96 by decide)
      exact w64 (by omega) (by omega)
    obtain ⟨q, hq, hqe⟩ : ∃ q : Nat, q < 12 ∧ IntKind.i64.wrap (Int.tdiv (Int.tmod (Int.tmod bit 96 + 96) 96) 8) = (q : Int) := by
      have h1 := Int.lt_tmod_of_pos bit (show (0 : Int) < 96 by decide)
      have h2 : 0 ≤ Int.tmod bit 96 + 96 := by omega
      rw [Int.tmod_eq_emod_of_nonneg h2, Int.tdiv_eq_ediv_of_nonneg (by omega), w64 (by omega) (by omega)]
      exact ⟨((Int.tmod bit 96 + 96) % 96 / 8).toNat, by omega, by omega⟩
    have z1 : ((96 : Int) ≠ 0) := by decide
    have z2 : ((8 : Int) ≠ 0) := by decide
    apply vc_ok 40
    simp only [FS.start, clSame, paramsE, w1, hqe, hq, go_sem, reduceCtorEq, Nat.reduceEqDiff, Nat.reduceLT, Nat.reduceAdd, ↓reduceIte]
    refine ⟨by decide, by decide, by decide, by decide, ⟨by omega, by omega⟩, by decide, ⟨by omega, by omega⟩, ?_⟩
    refine ok_less (key _ ?_ ?_) (by simp only [envSub, go_sem, Nat.reduceEqDiff, ↓reduceIte] <;> rfl)
    · intro x hx
      rcases List.mem_or_eq_of_mem_set hx with h | rfl
      · exact ha x h
      · exact bw8_range _ _ _
    · simpa using la
#print axioms splSame
end Go.Pv
