/- law 6: a connection's context, by definition. -/
import Derived.Test.YtifoaokodgbhjaaSz
namespace Go.Pv
open Go Go.Proofs
def drContextn0 : DT := (.one 6 (.mk (some 10) none (.app 5 1 1 [(.int .u8 0)] false (.t 6) (.t 9))) [2, 5, 1, 4, 0, 3] (.one 7 (.mk (some 3) none (.mv (.t 10))) [] .fin))
def drContextn1 : DT := (.one 5 (.mk (some 9) none (.call (.c (.fn 31 [])) [(.t 8)])) [4, 2, 3, 1, 0] drContextn0)
def drContextn2 : DT := (.one 8 (.mk (some 38) none (.app 5 1 1 [(.int .u8 0)] false (.t 34) (.t 37))) [4, 7, 0, 3, 6, 2, 5, 1] (.one 9 (.mk (some 2) none (.mv (.t 38))) [] .fin))
def drContextn3 : DT := (.one 4 (.mk (some 34) none (.app 5 1 1 [(.int .u8 0)] false (.t 30) (.t 33))) [0, 3, 2, 1] (.one 7 (.mk (some 37) none (.call (.c (.fn 31 [])) [(.t 36)])) [6, 4, 5, 0, 3, 2, 1] drContextn2))
def crContext : FnC := ⟨39, [(.t 2)], (.seq (.reg [(.mk (some 1) none (.bx 38 (.t 0))), (.mk (some 2) none (.mv (.c .nils)))]) (.seq (.dreg (.tk 0 (.mk (some 4) none (.fa 0 (.t 1))) (.tk 1 (.mk (some 5) none (.ld (.t 4))) (.tk 3 (.mk (some 7) none (.fa 1 (.t 1))) (.tk 4 (.mk (some 8) none (.ld (.t 7))) (.one 2 (.mk (some 6) none (.call (.c (.fn 31 [])) [(.t 5)])) [1, 0] drContextn1)))))) (.seq (.reg [(.mk (some 11) none (.mv (.t 3))), (.mk (some 12) none (.fa 2 (.t 1))), (.mk (some 13) none (.ld (.t 12))), (.mk (some 14) none (.bin .quo (.t 13) (.c (.int .u16 256)))), (.mk (some 15) none (.cvi .u8 (.t 14))), (.mk (some 16) none (.fa 2 (.t 1))), (.mk (some 17) none (.ld (.t 16))), (.mk (some 18) none (.bin .rem (.t 17) (.c (.int .u16 256)))), (.mk (some 19) none (.cvi .u8 (.t 18))), (.mk (some 20) none (.fa 3 (.t 1))), (.mk (some 21) none (.ld (.t 20))), (.mk (some 22) none (.bin .quo (.t 21) (.c (.int .u16 256)))), (.mk (some 23) none (.cvi .u8 (.t 22))), (.mk (some 24) none (.fa 3 (.t 1))), (.mk (some 25) none (.ld (.t 24))), (.mk (some 26) none (.bin .rem (.t 25) (.c (.int .u16 256)))), (.mk (some 27) none (.cvi .u8 (.t 26))), (.mk (some 28) none (.bsl 5 4 [(.run .u8 4 [0, 0, 0, 0])] [(0, (1, (.t 15))), (1, (1, (.t 19))), (2, (1, (.t 23))), (3, (1, (.t 27)))])), (.mk (some 29) none (.app 5 1 1 [(.int .u8 0)] false (.t 11) (.t 28))), (.mk (some 3) none (.mv (.t 29)))]) (.seq (.dreg (.tk 0 (.mk (some 30) none (.mv (.t 3))) (.tk 1 (.mk (some 31) none (.fa 4 (.t 1))) (.tk 2 (.mk (some 32) none (.ld (.t 31))) (.tk 5 (.mk (some 35) none (.fa 5 (.t 1))) (.tk 6 (.mk (some 36) none (.ld (.t 35))) (.one 3 (.mk (some 33) none (.call (.c (.fn 31 [])) [(.t 32)])) [2, 1] drContextn3))))))) .ret))))⟩
theorem okrContext : FnOk Try.prog 15 crContext := fnOk_mk Try.f15 (by kernel_rfl) (by kernel_rfl) (by kernel_rfl) (by kernel_rfl) (by kernel_rfl)
def crTurned : FnC := ⟨16, [(.a 2 6)], (.seq (.reg [(.mk (some 1) none (.bx 38 (.t 0))), (.mk (some 2) none (.al 38 [(.int .u32 0), (.int .u32 0), (.int .u16 0), (.int .u16 0), (.int .u32 0), (.int .u32 0)]))]) (.seq (.reg [(.mk (some 3) none (.fa 1 (.t 1))), (.mk (some 4) none (.ld (.t 3))), (.mk (some 5) none (.fa 0 (.t 1))), (.mk (some 6) none (.ld (.t 5))), (.mk (some 7) none (.fa 3 (.t 1))), (.mk (some 8) none (.ld (.t 7))), (.mk (some 9) none (.fa 2 (.t 1))), (.mk (some 10) none (.ld (.t 9))), (.mk (some 11) none (.fa 5 (.t 1))), (.mk (some 12) none (.ld (.t 11))), (.mk (some 13) none (.fa 4 (.t 1))), (.mk (some 14) none (.ld (.t 13))), (.mk (some 15) none (.bld [(.int .u32 0), (.int .u32 0), (.int .u16 0), (.int .u16 0), (.int .u32 0), (.int .u32 0)] [(0, (1, (.t 4))), (1, (1, (.t 6))), (2, (1, (.t 8))), (3, (1, (.t 10))), (4, (1, (.t 12))), (5, (1, (.t 14)))])), (.mk none none (.sta (.t 2) (.t 15) 6))]) .ret))⟩
theorem okrTurned : FnOk Try.prog 17 crTurned := fnOk_mk Try.f17 (by kernel_rfl) (by kernel_rfl) (by kernel_rfl) (by kernel_rfl) (by kernel_rfl)
def crFour : FnC := ⟨18, [(.t 2)], (.seq (.reg [(.mk (some 2) none (.mv (.c .nils)))]) (.seq (.reg [(.mk (some 3) none (.mv (.t 0))), (.mk (some 4) none (.bin .quo (.t 3) (.c (.int .u32 16777216)))), (.mk (some 5) none (.cvi .u8 (.t 4))), (.mk (some 6) none (.mv (.t 0))), (.mk (some 7) none (.bin .quo (.t 6) (.c (.int .u32 65536)))), (.mk (some 8) none (.bin .rem (.t 7) (.c (.int .u32 256)))), (.mk (some 9) none (.cvi .u8 (.t 8))), (.mk (some 10) none (.mv (.t 0))), (.mk (some 11) none (.bin .quo (.t 10) (.c (.int .u32 256)))), (.mk (some 12) none (.bin .rem (.t 11) (.c (.int .u32 256)))), (.mk (some 13) none (.cvi .u8 (.t 12))), (.mk (some 14) none (.mv (.t 0))), (.mk (some 15) none (.bin .rem (.t 14) (.c (.int .u32 256)))), (.mk (some 16) none (.cvi .u8 (.t 15))), (.mk (some 17) none (.bsl 5 4 [(.run .u8 4 [0, 0, 0, 0])] [(0, (1, (.t 5))), (1, (1, (.t 9))), (2, (1, (.t 13))), (3, (1, (.t 16)))])), (.mk (some 2) none (.mv (.t 17)))]) .ret))⟩
theorem okrFour : FnOk Try.prog 31 crFour := fnOk_mk Try.f31 (by kernel_rfl) (by kernel_rfl) (by kernel_rfl) (by kernel_rfl) (by kernel_rfl)


section
variable {D : Env → List SO → List (Nat × Nat) → Prop} {S : Prop} {N : Nat} {env : Env} {hs : List SO} {T : List (Nat × Nat)} {dst : Option Nat}
/-- **Bytes behind bytes of one's own row.** -/
theorem app_owd {ex ey : Ex} {zeros : Bool} {t len cap n ty : Nat} {L l' : List Int} {p2 : Prop} (hx : ev env ex = some (.sl t 0 len cap)) (ht : hs[t]? = some (.cells [.run .u8 cap L] ty 0 0))
    (hy : srcZ hs 1 [.int .u8 0] zeros (ev env ey) = some (p2, [.run .u8 n l'], n)) (hp2 : p2) (hlen : len ≤ cap) (hL : L.length = cap) (hl' : l'.length = n) (hbig : len + n ≤ 140737488355328)
    (H : ∀ (t' cap' : Nat) (L' : List Int) (hs' : List SO), len + n ≤ cap' → L'.length = cap' → L'.take (len + n) = L.take len ++ l' →
      ((t' = t ∧ cap' = cap ∧ hs' = hs.set t (.cells [.run .u8 cap' L'] ty 0 0)) ∨ (t' = hs.length ∧ cap < len + n ∧ hs' = hs ++ [.cells [.run .u8 cap' L'] 5 0 0])) → (keepT hs hs' T ∧ dnx D N env hs' T (.sl t' 0 (len + n) cap') dst)) :
    don1 D S N env hs T dst (evR (.app 5 1 1 [.int .u8 0] zeros ex ey) env hs) := by
  rw [evR_app, hx, hy]
  obtain ⟨p1, hs1, hp1⟩ := srcC_run (cap := cap) (off := 0) (len := len) ht (.inl hL) (by omega)
  simp only [srcO, hs1, appQ, ht, appQ2, Nat.mul_one, List.drop_zero]
  have grow : cap < len + n → ∀ c, len + n ≤ c → (keepT hs (hs ++ [.cells (growC [.int .u8 0] [.run .u8 len (L.take len)] [.run .u8 n l'] (len + n) c) 5 0 0]) T ∧ dnx D N env (hs ++ [.cells (growC [.int .u8 0] [.run .u8 len (L.take len)] [.run .u8 n l'] (len + n) c) 5 0 0]) T (.sl hs.length 0 (len + n) c) dst) := by
    intro hlt c hc
    simp only [growC, flatI, if_true]
    refine H _ c _ _ hc ?_ ?_ (.inr ⟨rfl, hlt, rfl⟩)
    · simp; omega
    · rw [List.take_append_of_le_length (by simp; omega), List.take_of_length_le (by simp; omega)]
  have inpl : len + n ≤ cap → (keepT hs (hs.set t (.cells [.run .u8 cap (L.take len ++ l' ++ L.drop (len + n))] ty 0 0)) T ∧ dnx D N env (hs.set t (.cells [.run .u8 cap (L.take len ++ l' ++ L.drop (len + n))] ty 0 0)) T (.sl t 0 (len + n) cap) dst) := by
    intro hc
    refine H t cap _ _ hc ?_ ?_ (.inl ⟨rfl, rfl, rfl⟩)
    · simp; omega
    · rw [List.take_append_of_le_length (by simp; omega), List.take_of_length_le (by simp; omega)]
  by_cases h0 : 0 + len = 0 ∧ n = cap
  · obtain ⟨h1, rfl⟩ := h0
    have hl0 : len = 0 := by omega
    subst hl0
    simp only [staC, and_self, if_true, appQ3, don1]
    refine ⟨⟨hp1, hp2, by omega, fun _ => ⟨trivial, by simp [free]⟩⟩, ?_⟩
    rw [if_pos (by omega)]
    have := inpl (by omega)
    have e : List.take 0 L ++ l' ++ List.drop (0 + n) L = l' := by simp; omega
    rw [e] at this
    exact this
  · simp only [staC, and_self, if_true]
    rw [if_neg h0]
    simp only [appQ3, don1]
    refine ⟨⟨hp1, hp2, by omega, fun h => ⟨by omega, by simp [free]⟩⟩, ?_⟩
    split
    · rename_i h
      have := inpl h
      simpa [Nat.zero_add, Nat.add_comm] using this
    · exact grow (by omega)
end

def fourF (n : Int) : List Int := [IntKind.u8.wrap (IntKind.u32.wrap (Int.tdiv n 16777216)), IntKind.u8.wrap (Int.tmod (IntKind.u32.wrap (Int.tdiv n 65536)) 256), IntKind.u8.wrap (Int.tmod (IntKind.u32.wrap (Int.tdiv n 256)) 256), IntKind.u8.wrap (Int.tmod n 256)]
theorem sprFour (H : List SO) (n : Int) : Spec Try.prog 31 [.int .u32 n] H fun v hs => v = .sl H.length 0 4 4 ∧ hs = H ++ [.cells [.run .u8 4 (fourF n)] 5 0 0] := by
  refine spec_h okrFour rfl (of_ble rfl) fun C hP hf hQ h0 hw hbd => ?_
  apply vc_ok 100
  simp only [FS.start, crFour, paramsE, ne_eq, eq_self, not_false_eq_true, go_sem, reduceCtorEq, Nat.reduceEqDiff, Nat.reduceLT, Int.reduceEq, ↓reduceIte]
  refine ⟨hf.symm, ?_⟩
  rw [hQ]
  exact gq_all hw rfl (by simp [SV.bnd]) ⟨rfl, rfl⟩

theorem sprTurned (H : List SO) (a b p q f g : Int) : Spec Try.prog 17 [lnkV a b p q f g] H fun v hs => v = lnkV b a q p g f ∧ hs = H := by
  refine spec_h okrTurned rfl (of_ble rfl) fun C hP hf hQ h0 hw hbd => ?_
  apply vc_ok 100
  simp only [FS.start, crTurned, paramsE, lnkV, hx_new, hx_new0, hx_snew, eq_self, go_sem, reduceCtorEq, Nat.reduceEqDiff, Nat.reduceLT, Nat.reduceAdd, Nat.reduceSub, ↓reduceIte]
  exact fin0 hf hQ hw rfl ⟨rfl, rfl⟩

def portF (p : Int) : List Int := [IntKind.u8.wrap (IntKind.u16.wrap (Int.tdiv p 256)), IntKind.u8.wrap (Int.tmod p 256)]
def rctxF (a b p q f g : Int) : List Int := fourF a ++ (fourF b ++ (portF p ++ (portF q ++ (fourF f ++ fourF g))))

theorem sprContext (H : List SO) (a b p q f g : Int) : Spec Try.prog 15 [lnkV a b p q f g] H fun v hs => ∃ o, hs = H ++ [o] ∧ OwnG H.length (rctxF a b p q f g) v o := by
  refine spec_h okrContext rfl (of_ble rfl) fun C hP hf hQ h0 hw hbd => ?_
  apply vc_ok 100
  simp only [FS.start, crContext, paramsE, lnkV, hx_new0, eq_self, go_sem, Nat.reduceEqDiff, Nat.reduceLT, Nat.reduceBEq, ↓reduceIte]
  refine ok_dch hP 100 (sprFour _ a) okrFour rfl rfl fun v hs' hq => ?_
  obtain ⟨rfl, rfl⟩ := hq
  simp only [hdd drContextn1.eq_1, hx_new0, eq_self, go_sem, Nat.reduceEqDiff, Nat.reduceLT, Nat.reduceBEq, ↓reduceIte]
  refine ok_dch hP 100 (sprFour _ b) okrFour rfl rfl fun v hs' hq => ?_
  obtain ⟨rfl, rfl⟩ := hq
  simp only [hdd drContextn0.eq_1, eq_self, go_sem, Nat.reduceLT, Nat.reduceAdd, Nat.reduceBEq, ↓reduceIte]
  refine app_owd (t := H.length + 1) (len := 4) (cap := 4) (n := 4) (ty := 5) (L := fourF a) (l' := fourF b) (p2 := True) rfl (by simp only [go_sem]) (by simp only [srcZ, go_sem, ↓reduceIte]) trivial (by decide) rfl rfl (by decide) fun t0 cap0 L0 M0 hc0 hl0 hL0 hcase0 => ?_
  rcases hcase0 with ⟨_, rfl, _⟩ | ⟨rfl, _, rfl⟩
  · omega
  simp only [hx_new0, ne_eq, eq_self, not_false_eq_true, go_sem, Nat.reduceEqDiff, Nat.reduceLT, Nat.reduceAdd, Int.reduceEq, ↓reduceIte]
  refine app_own (t := H.length + 3) (len := 8) (cap := cap0) (n := 4) (ty := 5) (L := L0) (l' := portF p ++ portF q) (p2 := True) rfl (by simp only [go_sem]) (by simp only [srcZ, go_sem, ↓reduceIte] <;> rfl) trivial (by omega) hl0 rfl (by decide) fun t1 cap1 L1 M1 hc1 hl1 hL1 hcase1 => ?_
  have F : H.length + 5 ≤ M1.length ∧ H.length + 1 ≤ t1 ∧ (∀ u, u < H.length → M1[u]? = H[u]?) ∧ M1[H.length]? = some (.cells [.int .u32 a, .int .u32 b, .int .u16 p, .int .u16 q, .int .u32 f, .int .u32 g] 38 0 0) ∧ M1[t1]? = some (.cells [.run .u8 cap1 L1] 5 0 0) := by
    rcases hcase1 with ⟨rfl, rfl, rfl⟩ | ⟨rfl, _, rfl⟩
    · refine ⟨by simp, by omega, fun u hu => ?_, ?_, ?_⟩
      · have e1 : (H.length + 3 = u) = False := by simp; omega
        simp only [hu, hx_old, hx_snew, eq_self]
      · have e1 : (H.length + 3 = H.length) = False := by simp
        simp only [go_sem]
      · simp only [go_sem]
    · refine ⟨by simp, by simp <;> omega, fun u hu => ?_, ?_, ?_⟩
      · rw [List.getElem?_append_left (by simp; omega), List.getElem?_append_left hu]
      · simp only [go_sem]
      · simp only [go_sem, Nat.reduceAdd]
  obtain ⟨m1, m2, m3, m4, m5⟩ := F
  clear hcase1
  have g4 := lt_of_at m4
  have g5 := lt_of_at m5
  simp only [m4, eq_self, go_sem, Nat.reduceEqDiff, Nat.reduceLT, Nat.reduceAdd, Nat.reduceBEq, ↓reduceIte]
  refine ok_dch hP 100 (sprFour _ f) okrFour rfl rfl fun v hs' hq => ?_
  obtain ⟨rfl, rfl⟩ := hq
  refine ⟨by simp only [m4, g4, hx_old, eq_self, go_sem, Nat.reduceBEq, ↓reduceIte], ?_⟩
  simp only [hdd drContextn3.eq_1, eq_self, go_sem, Nat.reduceLT, Nat.reduceBEq, ↓reduceIte]
  refine app_owd (t := t1) (len := 12) (cap := cap1) (n := 4) (ty := 5) (L := L1) (l' := fourF f) (p2 := True) rfl (by simp only [m5, g5, hx_old, eq_self, go_sem]) (by simp only [srcZ, hx_new0, eq_self, go_sem, ↓reduceIte]) trivial (by omega) hl1 rfl (by decide) fun t2 cap2 L2 M2 hc2 hl2 hL2 hcase2 => ?_
  have F2 : M1.length + 1 ≤ M2.length ∧ H.length + 1 ≤ t2 ∧ (∀ u, u < H.length → M2[u]? = H[u]?) ∧ M2[H.length]? = some (.cells [.int .u32 a, .int .u32 b, .int .u16 p, .int .u16 q, .int .u32 f, .int .u32 g] 38 0 0) ∧ M2[t2]? = some (.cells [.run .u8 cap2 L2] 5 0 0) := by
    rcases hcase2 with ⟨rfl, rfl, rfl⟩ | ⟨rfl, _, rfl⟩
    · refine ⟨by simp, m2, fun u hu => ?_, ?_, ?_⟩
      · rw [List.getElem?_set_ne (by omega), List.getElem?_append_left (by omega)]; exact m3 u hu
      · rw [List.getElem?_set_ne (by omega), List.getElem?_append_left (by omega)]; exact m4
      · exact hx_eq (by simp; omega)
    · refine ⟨by simp, by simp <;> omega, fun u hu => ?_, ?_, ?_⟩
      · rw [List.getElem?_append_left (by simp; omega), List.getElem?_append_left (by omega)]; exact m3 u hu
      · rw [List.getElem?_append_left (by simp; omega), List.getElem?_append_left (by omega)]; exact m4
      · exact get_app0 _ _
  obtain ⟨n1, n2, n3, n4, n5⟩ := F2
  clear hcase2
  have h4 := lt_of_at n4
  have h5 := lt_of_at n5
  refine ⟨⟨by rw [n4, List.getElem?_append_left g4, m4], trivial⟩, ?_⟩
  simp only [eq_self, go_sem, Nat.reduceEqDiff, Nat.reduceLT, Nat.reduceAdd, Nat.reduceBEq, ↓reduceIte]
  refine ok_dch hP 100 (sprFour _ g) okrFour rfl rfl fun v hs' hq => ?_
  obtain ⟨rfl, rfl⟩ := hq
  refine ⟨by simp only [eq_self, go_sem, Nat.reduceBEq, ↓reduceIte], ?_⟩
  simp only [hdd drContextn2.eq_1, eq_self, go_sem, Nat.reduceLT, Nat.reduceBEq, ↓reduceIte]
  refine app_owd (t := t2) (len := 16) (cap := cap2) (n := 4) (ty := 5) (L := L2) (l' := fourF g) (p2 := True) rfl (by simp only [n5, h5, hx_old, eq_self, go_sem]) (by simp only [srcZ, hx_new0, eq_self, go_sem, ↓reduceIte]) trivial (by omega) hl2 rfl (by decide) fun t3 cap3 L3 M3 hc3 hl3 hL3 hcase3 => ?_
  have F3 : H.length ≤ t3 ∧ (∀ u, u < H.length → M3[u]? = H[u]?) ∧ M3[t3]? = some (.cells [.run .u8 cap3 L3] 5 0 0) := by
    rcases hcase3 with ⟨rfl, rfl, rfl⟩ | ⟨rfl, _, rfl⟩
    · refine ⟨by omega, fun u hu => ?_, ?_⟩
      · rw [List.getElem?_set_ne (by omega), List.getElem?_append_left (by omega)]; exact n3 u hu
      · exact hx_eq (by simp; omega)
    · refine ⟨by simp <;> omega, fun u hu => ?_, ?_⟩
      · rw [List.getElem?_append_left (by simp; omega), List.getElem?_append_left (by omega)]; exact n3 u hu
      · exact get_app0 _ _
  obtain ⟨q2, q3, q5⟩ := F3
  clear hcase3
  refine ⟨trivial, ?_⟩
  simp only [eq_self, go_sem, Nat.reduceLT, Nat.reduceAdd, ↓reduceIte]
  refine ⟨hf.symm, ?_⟩
  rw [hQ]
  have hlen : (rctxF a b p q f g).length = 20 := rfl
  have hL : L3.take 20 = rctxF a b p q f g := by
    simp only [Nat.reduceAdd] at hL0 hL1 hL2 hL3
    rw [hL3, hL2, hL1, hL0]
    simp only [rctxF, List.append_assoc]
    rfl
  refine gq_ownS (j := t3) (l := rctxF a b p q f g) hw q3 q2 q5 ⟨cap3, L3, 5, by rw [hlen]; exact hc3, hl3, by rw [hlen]; exact hL, by rw [hlen], rfl⟩ fun v' o' h => ⟨o', rfl, h⟩

/-! ### The same numbers -/
theorem u8_mod (x : Int) : IntKind.u8.wrap x = x % 256 := by simp [IntKind.wrap, IntKind.bits, IntKind.signed]
theorem u16_mod (x : Int) : IntKind.u16.wrap x = x % 65536 := by simp [IntKind.wrap, IntKind.bits, IntKind.signed]
theorem u32_mod (x : Int) : IntKind.u32.wrap x = x % 4294967296 := by simp [IntKind.wrap, IntKind.bits, IntKind.signed]
theorem u64_mod (x : Int) : IntKind.u64.wrap x = x % 18446744073709551616 := by simp [IntKind.wrap, IntKind.bits, IntKind.signed]
theorem nextU32 {n : Int} (h : 0 ≤ n ∧ n < 4294967296) : nextU .u32 n = n / 256 := by
  have e : (2 : Int) ^ min 8 64 = 256 := rfl
  rw [nextU, e, u32_mod, u64_mod, Int.fdiv_eq_ediv_of_nonneg _ (by decide)]; omega
theorem nextU16 {n : Int} (h : 0 ≤ n ∧ n < 65536) : nextU .u16 n = n / 256 := by
  have e : (2 : Int) ^ min 8 64 = 256 := rfl
  rw [nextU, e, u16_mod, u64_mod, Int.fdiv_eq_ediv_of_nonneg _ (by decide)]; omega
theorem highD_eq {n : Int} (h : 0 ≤ n ∧ n < 4294967296) : highD n = fourF n := by
  have n1 := nextU32 h
  have n2 := nextU32 (n := n / 256) (by omega)
  have n3 := nextU32 (n := n / 256 / 256) (by omega)
  simp only [highD, fourF, n1, n2, n3, u8_mod, u32_mod]
  rw [Int.tdiv_eq_ediv_of_nonneg h.1, Int.tdiv_eq_ediv_of_nonneg h.1, Int.tdiv_eq_ediv_of_nonneg h.1, Int.tmod_eq_emod_of_nonneg (by omega), Int.tmod_eq_emod_of_nonneg (by omega), Int.tmod_eq_emod_of_nonneg h.1]
  congr 1
  · omega
  · congr 1
    · omega
    · congr 1
      · omega
      · congr 1
        omega
theorem highB_eq {n : Int} (h : 0 ≤ n ∧ n < 65536) : highB n = portF n := by
  have n1 := nextU16 h
  simp only [highB, portF, n1, u8_mod, u16_mod]
  rw [Int.tdiv_eq_ediv_of_nonneg h.1, Int.tmod_eq_emod_of_nonneg h.1]
  congr 1
  · omega
  · congr 1
    omega
theorem ctxF_eq {a b p q f g : Int} (ha : 0 ≤ a ∧ a < 4294967296) (hb : 0 ≤ b ∧ b < 4294967296) (hp : 0 ≤ p ∧ p < 65536) (hq : 0 ≤ q ∧ q < 65536) (hf : 0 ≤ f ∧ f < 4294967296) (hg : 0 ≤ g ∧ g < 4294967296) : ctxF a b p q f g = rctxF a b p q f g := by
  rw [ctxF, rctxF, highD_eq ha, highD_eq hb, highB_eq hp, highB_eq hq, highD_eq hf, highD_eq hg]
end Go.Pv
