/- aes: the keys of the rounds. -/
import Derived.Test.YtifoaokodgbhjaaSn
import Derived.Test.YtifoaokodgbhjaaSl
namespace Go.Pv
open Go Go.Proofs
def daKeysn0 : DT := (.one 11 (.mk (some 47) none (.iaa 16 1 (.t 7) (.t 36))) [] (.one 12 (.mk none none (.st (.t 47) (.t 46))) [11, 10, 0, 1, 2, 3, 4, 5, 6, 7, 8, 9] .fin))
def laKeysn1 : IC := (.seq (.reg [(.mk (some 21) none (.bin .lss (.t 20) (.c (.int .i64 16))))]) (.seq (.cond (.t 21) .skip (.exit 2)) (.seq (.block 3 (.seq (.reg [(.mk (some 22) none (.mv (.t 20))), (.mk (some 8) none (.mv (.t 22)))]) (.block 4 (.seq (.reg [(.mk (some 34) none (.mv (.t 8))), (.mk (some 35) none (.bin .eql (.t 34) (.c (.int .i64 0)))), (.mk (some 33) none (.mv (.t 35)))]) (.cond (.t 33) (.dreg (.tk 0 (.mk (some 36) none (.mv (.t 8))) (.tk 1 (.mk (some 37) none (.mv (.t 8))) (.tk 2 (.mk (some 38) none (.iaa 16 1 (.t 6) (.t 37))) (.tk 3 (.mk (some 39) none (.ld (.t 38))) (.tk 4 (.mk (some 40) none (.iaa 16 1 (.t 6) (.c (.int .i64 13)))) (.tk 5 (.mk (some 41) none (.ld (.t 40))) (.tk 6 (.mk (some 42) none (.iaa 256 1 (.t 4) (.t 41))) (.tk 7 (.mk (some 43) none (.ld (.t 42))) (.one 8 (.mk (some 44) none (.mv (.t 3))) [] (.one 9 (.mk (some 45) none (.bsl 5 3 [(.run .u8 3 [0, 0, 0])] [(0, (1, (.t 39))), (1, (1, (.t 43))), (2, (1, (.t 44)))])) [3, 7, 8, 2, 6, 1, 5, 4] (.one 10 (.mk (some 46) none (.call (.c (.fn 90 [])) [(.t 45)])) [9, 3, 7, 8, 2, 6, 1, 5, 4] daKeysn0)))))))))))) (.seq (.reg [(.mk (some 49) none (.mv (.t 8))), (.mk (some 50) none (.bin .lss (.t 49) (.c (.int .i64 4)))), (.mk (some 48) none (.mv (.t 50)))]) (.cond (.t 48) (.dreg (.tk 0 (.mk (some 51) none (.mv (.t 8))) (.tk 1 (.mk (some 52) none (.mv (.t 8))) (.tk 2 (.mk (some 53) none (.iaa 16 1 (.t 6) (.t 52))) (.tk 3 (.mk (some 54) none (.ld (.t 53))) (.one 4 (.mk (some 55) none (.mv (.t 8))) [] (.one 5 (.mk (some 56) none (.bin .add (.t 55) (.c (.int .i64 1)))) [] (.one 6 (.mk (some 57) none (.bin .rem (.t 56) (.c (.int .i64 4)))) [] (.one 7 (.mk (some 58) none (.bin .add (.c (.int .i64 12)) (.t 57))) [] (.one 8 (.mk (some 59) none (.iaa 16 1 (.t 6) (.t 58))) [] (.one 9 (.mk (some 60) none (.ld (.t 59))) [] (.one 10 (.mk (some 61) none (.iaa 256 1 (.t 4) (.t 60))) [] (.one 11 (.mk (some 62) none (.ld (.t 61))) [] (.one 12 (.mk (some 63) none (.bin .xor (.t 54) (.t 62))) [] (.one 13 (.mk (some 64) none (.iaa 16 1 (.t 7) (.t 51))) [] (.one 14 (.mk none none (.st (.t 64) (.t 63))) [13, 12, 0, 1, 2, 3, 4, 5, 6, 7, 8, 9, 10, 11] .fin)))))))))))))))) (.dreg (.tk 0 (.mk (some 23) none (.mv (.t 8))) (.tk 1 (.mk (some 24) none (.mv (.t 8))) (.tk 2 (.mk (some 25) none (.bin .sub (.t 24) (.c (.int .i64 4)))) (.tk 3 (.mk (some 26) none (.iaa 16 1 (.t 7) (.t 25))) (.tk 4 (.mk (some 27) none (.ld (.t 26))) (.one 5 (.mk (some 28) none (.mv (.t 8))) [] (.one 6 (.mk (some 29) none (.iaa 16 1 (.t 6) (.t 28))) [] (.one 7 (.mk (some 30) none (.ld (.t 29))) [] (.one 8 (.mk (some 31) none (.bin .xor (.t 27) (.t 30))) [] (.one 9 (.mk (some 32) none (.iaa 16 1 (.t 7) (.t 23))) [] (.one 10 (.mk none none (.st (.t 32) (.t 31))) [9, 8, 0, 1, 2, 3, 4, 5, 6, 7] .fin))))))))))))))))))) (.reg [(.mk (some 65) none (.bin .add (.t 20) (.c (.int .i64 1)))), (.mk (some 20) none (.mv (.t 65)))]))))
def taKeysn2 : IC := (.seq (.reg [(.mk (some 66) none (.mv (.t 5))), (.mk (some 67) none (.lda (.t 7) 16)), (.mk (some 68) none (.iaa 11 16 (.t 2) (.t 66))), (.mk none none (.sta (.t 68) (.t 67) 16))]) (.reg [(.mk (some 69) none (.mv (.t 3))), (.mk (some 70) none (.call (.c (.fn 91 [])) [(.t 69), (.c (.int .u8 2))])), (.mk (some 3) none (.mv (.t 70)))]))
def taKeysn3 : IC := (.reg [(.mk (some 14) none (.mv (.t 5))), (.mk (some 15) none (.bin .add (.t 14) (.c (.int .i64 1)))), (.mk (some 5) none (.mv (.t 15)))])
def laKeysn4 : IC := (.seq (.seq (.reg [(.mk (some 12) none (.mv (.t 5))), (.mk (some 13) none (.bin .leq (.t 12) (.c (.int .i64 10))))]) (.cond (.t 13) .skip (.exit 0))) (.seq (.block 1 (.seq (.reg [(.mk (some 16) none (.mv (.t 5))), (.mk (some 17) none (.bin .sub (.t 16) (.c (.int .i64 1)))), (.mk (some 18) none (.iaa 11 16 (.t 2) (.t 17))), (.mk (some 19) none (.lda (.t 18) 16)), (.mk (some 6) none (.al 91 [(.run .u8 16 (List.replicate 16 0))])), (.mk none none (.sta (.t 6) (.t 19) 16))]) (.seq (.reg [(.mk (some 7) none (.al 91 [(.run .u8 16 (List.replicate 16 0))]))]) (.seq (.seq (.reg [(.mk (some 20) none (.mv (.c (.int .i64 0))))]) (.block 2 (.loop laKeysn1))) taKeysn2)))) taKeysn3))
def taKeysn5 : IC := (.seq (.reg [(.mk (some 71) none (.lda (.t 2) 176)), (.mk none none (.sta (.t 2) (.t 71) 176))]) .ret)
def caKeys : FnC := ⟨72, [(.a 2 176)], (.seq (.reg [(.mk (some 1) none (.bx 91 (.t 0))), (.mk (some 2) none (.al 146 (List.replicate 11 (.run .u8 16 (List.replicate 16 0)))))]) (.seq (.reg [(.mk (some 9) none (.lda (.t 1) 16)), (.mk (some 10) none (.iaa 11 16 (.t 2) (.c (.int .i64 0)))), (.mk none none (.sta (.t 10) (.t 9) 16))]) (.seq (.reg [(.mk (some 3) none (.mv (.c (.int .u8 1))))]) (.seq (.reg [(.mk (some 11) none (.call (.c (.fn 89 [])) [])), (.mk (some 4) none (.al 166 [(.run .u8 256 (List.replicate 256 0))])), (.mk none none (.sta (.t 4) (.t 11) 256))]) (.seq (.seq (.reg [(.mk (some 5) none (.mv (.c (.int .i64 1))))]) (.block 0 (.loop laKeysn4))) taKeysn5)))))⟩
theorem okaKeys : FnOk Try.prog 75 caKeys := fnOk_mk Try.f75 (by kernel_rfl) (by kernel_rfl) (by kernel_rfl) (by kernel_rfl) (by kernel_rfl)


/-! ### Rows of rows -/
def rowsV (R : List (List Int)) : List SV := R.map (SV.run .u8 16)
theorem dropC_rows : ∀ (n : Nat) (R : List (List Int)), n ≤ R.length → dropC (rowsV R) (16 * n) = some (rowsV (R.drop n))
  | 0, R, _ => by cases R <;> simp [rowsV, dropC]
  | n + 1, [], h => by simp at h
  | n + 1, r :: R, h => by
    have h1 : (16 * (n + 1) = 0) = False := by simp
    have h2 : (16 ≤ 16 * (n + 1)) = True := by simp; omega
    have ih := dropC_rows n R (by simpa using h)
    simp only [rowsV] at ih
    simp only [rowsV, List.map_cons, dropC, h1, h2, if_true, if_false, List.drop_succ_cons, show 16 * (n + 1) - 16 = 16 * n by omega, ih]
theorem subC_rows (n : Nat) (R : List (List Int)) (h : n < R.length) : subC (rowsV R) (16 * n) 16 = some [.run .u8 16 (R.getD n [])] := by
  rw [subC, dropC_rows n R (by omega)]
  have e : R.drop n = R.getD n [] :: R.drop (n + 1) := by
    rw [List.drop_eq_getElem_cons h, List.getD_eq_getElem?_getD, List.getElem?_eq_getElem h]; rfl
  rw [e]
  simp only [rowsV, List.map_cons, Option.bind_some, takeC]
  cases (R.drop (n + 1)) <;> simp [takeC]
theorem splC_rows (d : List Int) : ∀ (n : Nat) (R : List (List Int)), n < R.length → splC (rowsV R) (16 * n) 16 [.run .u8 16 d] = some (rowsV (R.set n d))
  | n, [], h => by simp at h
  | 0, r :: R, h => by
    simp only [rowsV, List.map_cons, Nat.mul_zero, List.set_cons_zero]
    rw [splC]
    have := dropC_rows 0 R (by omega)
    simp only [Nat.mul_zero, rowsV, List.drop_zero] at this
    simp [dropC, this]
  | n + 1, r :: R, h => by
    have h1 : (16 * (n + 1) = 0) = False := by simp
    have h2 : (16 ≤ 16 * (n + 1)) = True := by simp; omega
    have ih := splC_rows d n R (by simpa using h)
    simp only [rowsV] at ih
    simp only [rowsV, List.map_cons, List.set_cons_succ]
    rw [splC]
    simp only [h1, h2, if_true, if_false, show 16 * (n + 1) - 16 = 16 * n by omega, ih, Option.map_some]
theorem lda_rows {R : List (List Int)} (n : Nat) (h2 : 2 ≤ R.length) (h : n < R.length) : ldaR (rowsV R) (16 * n) 16 = .v True (.agg [.run .u8 16 (R.getD n [])]) := by
  have := subC_rows n R h
  match R, h2 with
  | a :: b :: R, _ =>
    simp only [rowsV, List.map_cons] at this ⊢
    simp only [ldaR, this]
theorem sta_rows {R : List (List Int)} (n : Nat) (d : List Int) (h2 : 2 ≤ R.length) (h : n < R.length) : staC (rowsV R) (16 * n) 16 [.run .u8 16 d] = some (True, rowsV (R.set n d)) := by
  have := splC_rows d n R h
  match R, h2 with
  | a :: b :: R, _ =>
    simp only [rowsV, List.map_cons] at this ⊢
    have hw : wid [SV.run .u8 16 d] = 16 := rfl
    have ha : allOne [SV.run .u8 16 d] = true := rfl
    simp only [staC, this, hw, ha, and_self, if_true]

theorem lda_all {R : List (List Int)} (h : R.length = 11) : ldaR (rowsV R) 0 176 = .v True (.agg (rowsV R)) :=
  match R, h with
  | [_, _, _, _, _, _, _, _, _, _, _], _ => rfl
theorem sta_all {R S : List (List Int)} (h : R.length = 11) (h2 : S.length = 11) : staC (rowsV R) 0 176 (rowsV S) = some (True, rowsV S) :=
  match R, h, S, h2 with
  | [_, _, _, _, _, _, _, _, _, _, _], _, [_, _, _, _, _, _, _, _, _, _, _], _ => rfl

theorem bnds_rows (n : Nat) : ∀ R : List (List Int), bnds n (rowsV R) = true
  | [] => rfl
  | r :: R => by
    have := bnds_rows n R
    simp only [rowsV] at this
    simp only [rowsV, List.map_cons, bnds, SV.bnd, this, Bool.and_self]

/-! ### Bytes stay bytes -/
def Rng (l : List Int) : Prop := ∀ i, 0 ≤ l.getD i 0 ∧ l.getD i 0 < 256
theorem wrap_u8_rng (x : Int) : 0 ≤ IntKind.u8.wrap x ∧ IntKind.u8.wrap x < 256 := by
  have e : IntKind.u8.wrap x = x % 256 := by simp [IntKind.wrap, IntKind.bits, IntKind.signed]
  rw [e]; omega
theorem bw_rng (op : BinOp) (x y : Int) : 0 ≤ bw op .u8 x y ∧ bw op .u8 x y < 256 := wrap_u8_rng _
theorem foldl_rng : ∀ (l : List Int) (a : Int), 0 ≤ a ∧ a < 256 → 0 ≤ l.foldl (bw .xor .u8) a ∧ l.foldl (bw .xor .u8) a < 256
  | [], _, h => h
  | x :: l, a, _ => foldl_rng l _ (bw_rng _ _ _)
theorem xorF_rng (l : List Int) : 0 ≤ xorF l ∧ xorF l < 256 := foldl_rng l 0 (by decide)
theorem mulG_rng : ∀ (k : Nat) (a b r : Int), 0 ≤ r ∧ r < 256 → 0 ≤ mulG k a b r ∧ mulG k a b r < 256
  | 0, _, _, _, h => h
  | k + 1, a, b, r, h => by
    rw [mulG]
    split
    · exact h
    · apply mulG_rng
      split
      · exact bw_rng _ _ _
      · exact h
theorem mulF_rng (a b : Int) : 0 ≤ mulF a b ∧ mulF a b < 256 := mulG_rng _ _ _ _ (by decide)
theorem rng_set {l : List Int} (h : Rng l) (i : Nat) {x : Int} (hx : 0 ≤ x ∧ x < 256) : Rng (l.set i x) := by
  intro j
  simp only [List.getD_eq_getElem?_getD, List.getElem?_set]
  split
  · split
    · exact hx
    · decide
  · exact h j
theorem rng_it {f : Nat → List Int → List Int} (h : ∀ i l, Rng l → Rng (f i l)) : ∀ (n : Nat) (l : List Int), Rng l → Rng (it f n l)
  | 0, _, hl => hl
  | n + 1, l, hl => h n _ (rng_it h n l hl)
theorem rng_zeros (n : Nat) : Rng (List.replicate n 0) := by
  intro i
  simp only [List.getD_eq_getElem?_getD, List.getElem?_replicate]
  split <;> decide
theorem rng_each {f : Nat → Int} (h : ∀ i, 0 ≤ f i ∧ f i < 256) : Rng (eachF f) := rng_it (fun i _ hl => rng_set hl i (h i)) _ _ (rng_zeros 16)
theorem Bytes.rng {l : List Int} (h : Bytes l) : Rng l := h.getD
theorem tab_rng : Rng vaTable := Bytes.rng (by
  have h : (vaTable.all fun x => decide (0 ≤ x) && decide (x < 256)) = true := by kernel_rfl
  intro x hx
  simpa using List.all_eq_true.1 h x hx)

/-! ### The keys -/
def tabA (x : Int) : Int := vaTable.getD x.toNat 0
def keyV (w : List Int) (rc : Int) (d : List Int) (i : Nat) : Int :=
  if i = 0 then xorF [w.getD 0 0, tabA (w.getD 13 0), rc] else if i < 4 then bw .xor .u8 (w.getD i 0) (tabA (w.getD (12 + (i + 1) % 4) 0)) else bw .xor .u8 (d.getD (i - 4) 0) (w.getD i 0)
def keyS (w : List Int) (rc : Int) (i : Nat) (d : List Int) : List Int := d.set i (keyV w rc d i)
/-- The round's key behind `w`. -/
def nxtKey (w : List Int) (rc : Int) : List Int := it (keyS w rc) 16 (List.replicate 16 0)
def rconF : Nat → Int
  | 0 => 1
  | n + 1 => mulF (rconF n) 2
def rndKey (k : List Int) : Nat → List Int
  | 0 => k
  | n + 1 => nxtKey (rndKey k n) (rconF n)
theorem nxtKey_rng (w : List Int) (rc : Int) : Rng (nxtKey w rc) := by
  refine rng_it (fun i l hl => rng_set hl i ?_) _ _ (rng_zeros 16)
  unfold keyV
  split
  · exact xorF_rng _
  · split <;> exact bw_rng _ _ _
theorem rndKey_rng {k : List Int} (h : Rng k) : ∀ n, Rng (rndKey k n)
  | 0 => h
  | n + 1 => nxtKey_rng _ _
/-- The keys of the rounds up to the `n`th. -/
def rowsK (k : List Int) (n : Nat) : List (List Int) := it (fun i R => R.set (i + 1) (rndKey k (i + 1))) n ((List.replicate 11 (List.replicate 16 0)).set 0 k)

theorem rowsK_len (k : List Int) : ∀ n, (rowsK k n).length = 11
  | 0 => by simp [rowsK, it]
  | n + 1 => by have := rowsK_len k n; simp only [rowsK, it, List.length_set] at this ⊢; exact this
theorem rowsK_at (k : List Int) : ∀ (n j : Nat), n ≤ 10 → j ≤ n → (rowsK k n).getD j [] = rndKey k j
  | 0, j, _, hj => by
    obtain rfl : j = 0 := by omega
    simp [rowsK, it, rndKey]
  | n + 1, j, hn, hj => by
    have e : rowsK k (n + 1) = (rowsK k n).set (n + 1) (rndKey k (n + 1)) := rfl
    have hl := rowsK_len k n
    rw [e, List.getD_eq_getElem?_getD, List.getElem?_set]
    split
    · rename_i h
      subst h
      rw [if_pos (by omega)]; rfl
    · rw [← List.getD_eq_getElem?_getD]
      exact rowsK_at k n j (by omega) (by omega)

theorem lpKeys {C : Ctx} (hP : C.P = Try.prog) (G : List SO) (R T a b : Nat) (w : List Int) (rc : Int) (n : SV) (hR : Rng w) (na : (b = a) = False) (nT : (b = T) = False)
    (fa : G[a]? = some (.cells [.run .u8 16 w] 91 0 0)) (fb : G[b]? = some (.cells [.run .u8 16 (List.replicate 16 0)] 91 0 0)) (fT : G[T]? = some (.cells [.run .u8 256 vaTable] 166 0 0))
    (K : ∀ Hd : List SO, G.length ≤ Hd.length → (∀ u, u < G.length → u ≠ b → Hd[u]? = G[u]?) → Hd[b]? = some (.cells [.run .u8 16 (nxtKey w rc)] 91 0 0) →
      Ok C [⟨75, none, 72, [.a 2 176], [(5, n), (7, .ptr b 0), (2, .ptr R 0), (3, .int .u8 rc), (4, .ptr T 0)], [.c taKeysn2, .blk 1, .c taKeysn3, .lp laKeysn4, .blk 0, .c taKeysn5], []⟩] Hd) :
    Ok C [⟨75, none, 72, [.a 2 176], [(20, .int .i64 (0 : Nat)), (6, .ptr a 0), (4, .ptr T 0), (3, .int .u8 rc), (7, .ptr b 0), (5, n), (2, .ptr R 0)], [.c laKeysn1, .lp laKeysn1, .blk 2, .c taKeysn2, .blk 1, .c taKeysn3, .lp laKeysn4, .blk 0, .c taKeysn5], []⟩] G := by
  have la := lt_of_at fa
  have lb := lt_of_at fb
  have lT := lt_of_at fT
  have key : ∀ Hd : List SO, G.length ≤ Hd.length → (∀ u, u < G.length → u ≠ b → Hd[u]? = G[u]?) → Hd[b]? = some (.cells [.run .u8 16 (it (keyS w rc) 0 (List.replicate 16 0))] 91 0 0) →
      Ok C [⟨75, none, 72, [.a 2 176], [(20, .int .i64 (0 : Nat)), (6, .ptr a 0), (4, .ptr T 0), (3, .int .u8 rc), (7, .ptr b 0), (5, n), (2, .ptr R 0)], [.c laKeysn1, .lp laKeysn1, .blk 2, .c taKeysn2, .blk 1, .c taKeysn3, .lp laKeysn4, .blk 0, .c taKeysn5], []⟩] Hd := by
    refine up (p := fun i => ∀ Hd : List SO, G.length ≤ Hd.length → (∀ u, u < G.length → u ≠ b → Hd[u]? = G[u]?) → Hd[b]? = some (.cells [.run .u8 16 (it (keyS w rc) i (List.replicate 16 0))] 91 0 0) →
      Ok C [⟨75, none, 72, [.a 2 176], [(20, .int .i64 i), (6, .ptr a 0), (4, .ptr T 0), (3, .int .u8 rc), (7, .ptr b 0), (5, n), (2, .ptr R 0)], [.c laKeysn1, .lp laKeysn1, .blk 2, .c taKeysn2, .blk 1, .c taKeysn3, .lp laKeysn4, .blk 0, .c taKeysn5], []⟩] Hd) 16 ?_ ?_
    · intro i hi Kn Hd hl hk gb
      have ga : Hd[a]? = some (.cells [.run .u8 16 w] 91 0 0) := by rw [hk a la (fun h => by simp [h] at na)]; exact fa
      have gT : Hd[T]? = some (.cells [.run .u8 256 vaTable] 166 0 0) := by rw [hk T lT (fun h => by simp [h] at nT)]; exact fT
      have ma := lt_of_at ga
      have mb := lt_of_at gb
      have mT := lt_of_at gT
      have h1 : decide ((i : Int) < 16) = true := by simp; omega
      rcases Nat.lt_or_ge 0 i with h0 | h0
      · rcases Nat.lt_or_ge i 4 with h4 | h4
        · obtain ⟨x, hx⟩ : ∃ x : Nat, w.getD (12 + (i + 1) % 4) 0 = x := ⟨(w.getD (12 + (i + 1) % 4) 0).toNat, by have := hR (12 + (i + 1) % 4); omega⟩
          have hx2 : x < 256 := by have := hR (12 + (i + 1) % 4); omega
          have h3 : (((i : Int)) == 0) = false := by simp; omega
          have h4 : decide ((i : Int) < 4) = true := by simp; omega
          have q1 : IntKind.i64.wrap (12 + Int.tmod (IntKind.i64.wrap ((i : Int) + 1)) 4) = ((12 + (i + 1) % 4 : Nat) : Int) := by
            rw [w64 (x := (i : Int) + 1) (by omega) (by omega), Int.tmod_eq_emod_of_nonneg (by omega), w64 (by omega) (by omega)]; omega
          refine ok_head laKeysn1.eq_1 (vc_ok 100 _ _ ?_)
          simp only [h1, h3, h4, q1, hx, ga, gb, gT, Bool.false_eq_true, ne_eq, eq_self, not_false_eq_true, go_sem, Nat.reduceEqDiff, Nat.reduceLT, Nat.reduceBEq, Int.reduceEq, ↓reduceIte]
          refine ⟨⟨by omega, by omega⟩, by omega, ⟨by omega, by omega⟩, by omega, ⟨by omega, by omega⟩, by omega, ⟨by omega, by omega⟩, by omega, ?_⟩
          refine ok_less (env' := [(20, .int .i64 (i + 1 : Nat)), (6, .ptr a 0), (4, .ptr T 0), (3, .int .u8 rc), (7, .ptr b 0), (5, n), (2, .ptr R 0)]) (Kn _ (by simp only [List.length_set]; exact hl) (fun u hu hub => ?_) ?_) (by simp only [envSub, w64s (show i + 1 < 9223372036854775808 by omega), go_sem, Nat.reduceEqDiff, ↓reduceIte])
          · have e1 : (b = u) = False := by simp; omega
            simp only [e1, hx_ne, ne_eq, not_false_eq_true]
            exact hk u hu hub
          · simp only [mb, hx_eq]
            simp only [it, keyS, keyV, tabA, hx, Int.toNat_natCast, show (i = 0) = False by simp; omega, show (i < 4) = True by simp; omega, if_false, if_true]
        · have h3 : (((i : Int)) == 0) = false := by simp; omega
          have h4 : decide ((i : Int) < 4) = false := by simp; omega
          have q1 : IntKind.i64.wrap ((i : Int) - 4) = ((i - 4 : Nat) : Int) := by
            rw [w64 (by omega) (by omega)]; omega
          refine ok_head laKeysn1.eq_1 (vc_ok 100 _ _ ?_)
          simp only [h1, h3, h4, q1, ga, gb, Bool.false_eq_true, eq_self, go_sem, Nat.reduceEqDiff, Nat.reduceLT, Nat.reduceBEq, ↓reduceIte]
          refine ⟨⟨by omega, by omega⟩, by omega, ⟨by omega, by omega⟩, by omega, ⟨by omega, by omega⟩, by omega, ?_⟩
          refine ok_less (env' := [(20, .int .i64 (i + 1 : Nat)), (6, .ptr a 0), (4, .ptr T 0), (3, .int .u8 rc), (7, .ptr b 0), (5, n), (2, .ptr R 0)]) (Kn _ (by simp only [List.length_set]; exact hl) (fun u hu hub => ?_) ?_) (by simp only [envSub, w64s (show i + 1 < 9223372036854775808 by omega), go_sem, Nat.reduceEqDiff, ↓reduceIte])
          · have e1 : (b = u) = False := by simp; omega
            simp only [e1, hx_ne, ne_eq, not_false_eq_true]
            exact hk u hu hub
          · simp only [mb, hx_eq]
            simp only [it, keyS, keyV, tabA, show (i = 0) = False by simp; omega, show (i < 4) = False by simp; omega, if_false]
      · obtain rfl : i = 0 := by omega
        obtain ⟨x, hx⟩ : ∃ x : Nat, w.getD 13 0 = x := ⟨(w.getD 13 0).toNat, by have := hR 13; omega⟩
        have hx2 : x < 256 := by have := hR 13; omega
        refine ok_head laKeysn1.eq_1 (vc_ok 100 _ _ ?_)
        simp only [hx, ga, gT, eq_self, go_sem, Nat.reduceEqDiff, Nat.reduceLT, Nat.reduceBEq, Int.reduceToNat, Int.reduceLT, Int.reduceLE, ↓reduceIte, Int.reduceBEq]
        refine ⟨⟨by omega, by omega⟩, by omega, ?_⟩
        refine ok_dch hP 100 (spaAdd _ Hd.length 5 3 [w.getD 0 0, vaTable.getD x 0, rc] (by simp only [hx_new0, eq_self, go_sem]) rfl (by decide)) okaAdd rfl rfl fun v hs' hq => ?_
        obtain ⟨rfl, rfl⟩ := hq
        have nb : (b = Hd.length) = False := by simp; omega
        simp only [hdd daKeysn0.eq_1, gb, mb, hx_old, hx_sold, eq_self, go_sem, Nat.reduceEqDiff, Nat.reduceLT, Int.reduceToNat, Int.reduceLT, Int.reduceLE, ↓reduceIte]
        refine ok_less (env' := [(20, .int .i64 (0 + 1 : Nat)), (6, .ptr a 0), (4, .ptr T 0), (3, .int .u8 rc), (7, .ptr b 0), (5, n), (2, .ptr R 0)]) (Kn _ (by simp; omega) (fun u hu hub => ?_) ?_) (by simp only [envSub, go_sem, Nat.reduceEqDiff, ↓reduceIte] <;> rfl)
        · have e1 : (b = u) = False := by simp; omega
          have e2 : u < Hd.length := by omega
          simp only [e1, e2, hx_old, hx_ne, List.length_set, ne_eq, not_false_eq_true]
          exact hk u hu hub
        · simp only [mb, hx_old, hx_eq, List.length_set]
          simp only [it, keyS, keyV, tabA, hx, Int.toNat_natCast, if_true]
    · intro Hd hl hk gb
      refine ok_head laKeysn1.eq_1 (vc_ok 7 _ _ ?_)
      simp only [eq_self, go_sem, Nat.reduceLT, Int.reduceLT, ↓reduceIte]
      exact ok_less (K Hd hl hk gb) (by simp only [envSub, go_sem, Nat.reduceEqDiff, ↓reduceIte] <;> rfl)
  exact key G (Nat.le_refl _) (fun u _ _ => rfl) fb

theorem spaKeys (H : List SO) (k : List Int) (hk0 : Rng k) : Spec Try.prog 75 [.agg [.run .u8 16 k]] H fun v hs => v = .agg (rowsV (rowsK k 10)) ∧ hs = H := by
  refine spec_h okaKeys rfl (of_ble rfl) fun C hP hf hQ h0 hw hbd => ?_
  have er : List.replicate 11 (SV.run .u8 16 (List.replicate 16 0)) = rowsV (List.replicate 11 (List.replicate 16 0)) := rfl
  have s0 := sta_rows (R := List.replicate 11 (List.replicate 16 0)) 0 k (by simp) (by simp)
  simp only [Nat.mul_zero] at s0
  apply vc_ok 100
  simp only [FS.start, caKeys, paramsE, er, s0, go_sem, Nat.reduceEqDiff, Nat.reduceLT, Int.reduceToNat, Int.reduceLT, Int.reduceLE, ↓reduceIte]
  refine ok_ch hP 100 (spaTable _) okaTable rfl rfl fun v hs' hq => ?_
  obtain ⟨rfl, rfl⟩ := hq
  simp only [go_sem, Nat.reduceEqDiff, Nat.reduceLT, Nat.reduceAdd, ↓reduceIte]
  refine ok_less (env' := [(5, .int .i64 (0 + 1 : Nat)), (2, .ptr (H.length + 1) 0), (4, .ptr (H.length + 2) 0), (3, .int .u8 (rconF 0))]) ?_ (by simp only [envSub, go_sem, Nat.reduceEqDiff, ↓reduceIte] <;> rfl)
  have key : ∀ Hd : List SO, H.length + 3 ≤ Hd.length → (∀ u, u < H.length → Hd[u]? = H[u]?) → Hd[H.length + 1]? = some (.cells (rowsV (rowsK k 0)) 146 0 0) → Hd[H.length + 2]? = some (.cells [.run .u8 256 vaTable] 166 0 0) →
      Ok C [⟨75, none, 72, [.a 2 176], [(5, .int .i64 (0 + 1 : Nat)), (2, .ptr (H.length + 1) 0), (4, .ptr (H.length + 2) 0), (3, .int .u8 (rconF 0))], [.c laKeysn4, .lp laKeysn4, .blk 0, .c taKeysn5], []⟩] Hd := by
    refine up (p := fun i => ∀ Hd : List SO, H.length + 3 ≤ Hd.length → (∀ u, u < H.length → Hd[u]? = H[u]?) → Hd[H.length + 1]? = some (.cells (rowsV (rowsK k i)) 146 0 0) → Hd[H.length + 2]? = some (.cells [.run .u8 256 vaTable] 166 0 0) →
      Ok C [⟨75, none, 72, [.a 2 176], [(5, .int .i64 (i + 1 : Nat)), (2, .ptr (H.length + 1) 0), (4, .ptr (H.length + 2) 0), (3, .int .u8 (rconF i))], [.c laKeysn4, .lp laKeysn4, .blk 0, .c taKeysn5], []⟩] Hd) 10 ?_ ?_
    · intro i hi K Hd hl hk f1 f2
      have h1 : decide (((i + 1 : Nat) : Int) ≤ 10) = true := by simp; omega
      have q1 : IntKind.i64.wrap (((i + 1 : Nat) : Int) - 1) = (i : Int) := by rw [w64 (by omega) (by omega)]; omega
      have l1 := lt_of_at f1
      have l2 := lt_of_at f2
      refine ok_head laKeysn4.eq_1 (vc_ok 100 _ _ ?_)
      have rl := lda_rows (R := rowsK k i) i (by rw [rowsK_len]; decide) (by rw [rowsK_len]; omega)
      rw [rowsK_at k i i (by omega) (by omega), Nat.mul_comm] at rl
      simp only [h1, q1, f1, rl, hx_new0, hx_snew0, eq_self, go_sem, Nat.reduceEqDiff, Nat.reduceLT, ↓reduceIte]
      refine ⟨⟨by omega, by omega⟩, ?_⟩
      refine ok_less (env' := [(20, .int .i64 (0 : Nat)), (6, .ptr Hd.length 0), (4, .ptr (H.length + 2) 0), (3, .int .u8 (rconF i)), (7, .ptr (Hd.length + 1) 0), (5, .int .i64 (i + 1 : Nat)), (2, .ptr (H.length + 1) 0)]) ?_ (by simp only [envSub, go_sem, Nat.reduceEqDiff, ↓reduceIte] <;> rfl)
      refine lpKeys hP _ (H.length + 1) (H.length + 2) Hd.length (Hd.length + 1) (rndKey k i) (rconF i) _ (rndKey_rng hk0 i) (by simp) (by simp; omega) (by simp only [hx_new0, eq_self, go_sem]) (by simp only [hx_new, eq_self, go_sem]) (by simp only [f2, l2, hx_old, eq_self, go_sem]) fun He hl2 hk2 gb => ?_
      have mb := lt_of_at gb
      have g1 : He[H.length + 1]? = some (.cells (rowsV (rowsK k i)) 146 0 0) := by
        rw [hk2 _ (by simp; omega) (by omega)]; simp only [f1, l1, hx_old, eq_self, go_sem]
      have g2 : He[H.length + 2]? = some (.cells [.run .u8 256 vaTable] 166 0 0) := by
        rw [hk2 _ (by simp; omega) (by omega)]; simp only [f2, l2, hx_old, eq_self, go_sem]
      have m1 := lt_of_at g1
      have m2 := lt_of_at g2
      have rs := sta_rows (R := rowsK k i) (i + 1) (nxtKey (rndKey k i) (rconF i)) (by rw [rowsK_len]; decide) (by rw [rowsK_len]; omega)
      rw [Nat.mul_comm] at rs
      apply vc_ok 100
      simp only [hd taKeysn2.eq_1, g1, gb, rs, eq_self, go_sem, Nat.reduceEqDiff, Nat.reduceLT, ↓reduceIte]
      refine ⟨⟨by omega, by omega⟩, ?_⟩
      refine ok_ch hP 100 (spaMul _ _ _) okaMul rfl rfl fun v hs' hq => ?_
      obtain ⟨rfl, rfl⟩ := hq
      simp only [hd taKeysn3.eq_1, go_sem, Nat.reduceEqDiff, Nat.reduceLT, ↓reduceIte]
      refine ok_less (env' := [(5, .int .i64 (i + 1 + 1 : Nat)), (2, .ptr (H.length + 1) 0), (4, .ptr (H.length + 2) 0), (3, .int .u8 (rconF (i + 1)))]) (K _ ?_ ?_ ?_ ?_) ?_
      · simp at hl2 ⊢; omega
      · intro u hu
        have e1 : (H.length + 1 = u) = False := by simp; omega
        have e2 : u < Hd.length := by omega
        simp only [e1, hx_ne, ne_eq, not_false_eq_true]
        rw [hk2 u (by simp; omega) (by omega)]
        simp only [e2, hx_old]
        exact hk u hu
      · simp only [m1, hx_eq]
        rfl
      · rw [List.getElem?_set_ne (by omega)]; exact g2
      · have q2 : IntKind.i64.wrap (((i + 1 : Nat) : Int) + 1) = ((i + 1 + 1 : Nat) : Int) := by rw [w64 (by omega) (by omega)]; omega
        simp only [envSub, q2, rconF, go_sem, Nat.reduceEqDiff, ↓reduceIte]
    · intro Hd hl hk f1 f2
      have l1 := lt_of_at f1
      refine ok_head laKeysn4.eq_1 (vc_ok 100 _ _ ?_)
      have rl := lda_all (rowsK_len k 10)
      have rs := sta_all (rowsK_len k 10) (rowsK_len k 10)
      simp only [hd taKeysn5.eq_1, f1, l1, rl, rs, hx_eq, eq_self, go_sem, Nat.reduceEqDiff, Nat.reduceLT, Nat.reduceAdd, Int.reduceLE, ↓reduceIte]
      refine ⟨hf.symm, ?_⟩
      rw [hQ]
      have hx : (SV.agg (rowsV (rowsK k 10))).bnd H.length = true := by
        simp only [SV.bnd]
        exact bnds_rows _ _
      refine gq_keep hw ?_ hx ⟨rfl, rfl⟩
      intro u hu
      have e1 : (H.length + 1 = u) = False := by simp; omega
      simp only [e1, hx_ne, ne_eq, not_false_eq_true]
      exact hk u hu
  exact key _ (by simp) (fun u hu => by simp only [hu, hx_old, eq_self]) (by simp only [go_sem] <;> rfl) (by simp only [go_sem])
end Go.Pv
