/- sha1.Hash. -/
import Derived.Test.YtifoaokodgbhjaaSe
namespace Go.Pv
open Go Go.Proofs
def csNone : FnC := ⟨12, [(.t 2)], (.seq (.reg [(.mk (some 2) none (.mv (.c (.bool false))))]) (.seq (.reg [(.mk (some 3) none (.mv (.t 0))), (.mk (some 4) none (.eqn 0 false (.t 3) (.c .nilp))), (.mk (some 5) none (.mv (.t 4))), (.mk (some 6) (some (5, false)) (.mv (.t 0))), (.mk (some 7) (some (5, false)) (.nc (.t 6))), (.mk (some 8) (some (5, false)) (.fa 7 (.t 7))), (.mk (some 9) (some (5, false)) (.ld (.t 8))), (.mk (some 10) (some (5, false)) (.un .not (.t 9))), (.mk (some 11) none (.pick (.t 5) (.c (.bool true)) (.t 10))), (.mk (some 2) none (.mv (.t 11)))]) .ret))⟩
theorem oksNone : FnOk Try.prog 81 csNone := fnOk_mk Try.f81 (by kernel_rfl) (by kernel_rfl) (by kernel_rfl) (by kernel_rfl) (by kernel_rfl)
def csNew : FnC := ⟨4, [(.t 0)], (.seq (.reg [(.mk (some 0) none (.mv (.c .nilp)))]) (.seq (.reg [(.mk (some 1) none (.call (.c (.fn 80 [])) [])), (.mk (some 2) none (.bld [.nils, (.run .u32 5 [0, 0, 0, 0, 0]), (.int .i64 0), (.bool false)] [(1, (5, (.t 1))), (7, (1, (.c (.bool true))))])), (.mk (some 3) none (.bx 158 (.t 2))), (.mk (some 0) none (.mv (.t 3)))]) .ret))⟩
theorem oksNew : FnOk Try.prog 68 csNew := fnOk_mk Try.f68 (by kernel_rfl) (by kernel_rfl) (by kernel_rfl) (by kernel_rfl) (by kernel_rfl)
def csBlocks : FnC := ⟨6, [(.t 4)], (.seq (.reg [(.mk (some 2) none (.bx 173 (.t 0))), (.mk (some 3) none (.bx 27 (.t 1))), (.mk (some 4) none (.mv (.c .nilf)))]) (.seq (.reg [(.mk (some 5) none (.mkf 94 [(.t 2), (.t 3)])), (.mk (some 4) none (.mv (.t 5)))]) .ret))⟩
theorem oksBlocks : FnOk Try.prog 82 csBlocks := fnOk_mk Try.f82 (by kernel_rfl) (by kernel_rfl) (by kernel_rfl) (by kernel_rfl) (by kernel_rfl)
def dsBlocksCn0 : DT := (.one 7 (.mk (some 4) none (.mv (.t 12))) [] .fin)
def lsBlocksCn1 : IC := (.seq (.seq (.reg [(.mk (some 13) none (.mv (.t 4))), (.mk (some 14) none (.len (.t 13))), (.mk (some 15) none (.bin .geq (.t 14) (.c (.int .i64 64))))]) (.cond (.t 15) .skip (.exit 0))) (.block 1 (.seq (.reg [(.mk (some 16) none (.mv (.t 4))), (.mk (some 17) none (.s2a 64 (.t 16))), (.mk (some 18) none (.lda (.t 17) 64)), (.mk (some 5) none (.al 132 [(.run .u8 64 (List.replicate 64 0))])), (.mk none none (.sta (.t 5) (.t 18) 64))]) (.seq (.reg [(.mk (some 19) none (.mv (.t 4))), (.mk (some 20) none (.slc 1 (.t 19) (some (.c (.int .i64 64))) none)), (.mk (some 4) none (.mv (.t 20)))]) (.seq (.reg [(.mk (some 21) none (.ld (.t 1))), (.mk (some 22) none (.mv (.t 4))), (.mk (some 23) none (.nc (.t 21))), (.mk (some 24) none (.fa 0 (.t 23))), (.mk none none (.st (.t 24) (.t 22)))]) (.seq (.reg [(.mk (some 25) none (.mv (.t 0))), (.mk (some 26) none (.lda (.t 5) 64)), (.mk (some 27) none (.call (.t 25) [(.t 26)])), (.mk (some 28) none (.un .not (.t 27)))]) (.cond (.t 28) .ret .skip)))))))
def tsBlocksCn2 : IC := (.reg [(.mk (some 29) none (.ld (.t 1))), (.mk (some 30) none (.mv (.t 4))), (.mk (some 31) none (.nc (.t 29))), (.mk (some 32) none (.fa 0 (.t 31))), (.mk none none (.st (.t 32) (.t 30)))])
def csBlocksC : FnC := ⟨33, [], (.seq (.dreg (.tk 0 (.mk (some 6) none (.ld (.t 1))) (.tk 1 (.mk (some 7) none (.nc (.t 6))) (.tk 2 (.mk (some 8) none (.fa 0 (.t 7))) (.tk 3 (.mk (some 9) none (.ld (.t 8))) (.one 4 (.mk (some 10) none (.ld (.t 2))) [] (.one 5 (.mk (some 11) none (.bsl 27 2 [.nils, .nils] [(0, (1, (.t 9))), (1, (1, (.t 10)))])) [3, 4, 2, 1, 0] (.one 6 (.mk (some 12) none (.call (.c (.fn 27 [])) [(.t 11)])) [5, 3, 4, 2, 1, 0] dsBlocksCn0)))))))) (.seq (.block 0 (.loop lsBlocksCn1)) tsBlocksCn2))⟩
theorem oksBlocksC : FnOk Try.prog 94 csBlocksC := fnOk_mk Try.f94 (by kernel_rfl) (by kernel_rfl) (by kernel_rfl) (by kernel_rfl) (by kernel_rfl)
def dsWriten0 : DT := (.one 7 (.mk (some 21) none (.nc (.t 14))) [] (.one 8 (.mk (some 22) none (.fa 1 (.t 21))) [] (.one 9 (.mk none none (.sta (.t 22) (.t 20) 5)) [8, 6, 0, 1, 2, 3, 4, 5, 7] .fin)))
def asWriten1 : IC := (.reg [(.mk (some 5) none (.al 132 [(.run .u8 64 (List.replicate 64 0))])), (.mk none none (.sta (.t 5) (.t 13) 64))])
def bsWriten2 : IC := (.block 1 (.dreg (.tk 0 (.mk (some 14) none (.ld (.t 2))) (.tk 1 (.mk (some 15) none (.ld (.t 2))) (.tk 2 (.mk (some 16) none (.nc (.t 15))) (.tk 3 (.mk (some 17) none (.fa 1 (.t 16))) (.tk 4 (.mk (some 18) none (.lda (.t 17) 5)) (.one 5 (.mk (some 19) none (.lda (.t 5) 64)) [] (.one 6 (.mk (some 20) none (.call (.c (.fn 83 [])) [(.t 18), (.t 19)])) [4, 5, 3, 2, 1] dsWriten0)))))))))
def tsWriten3 : IC := (.seq (.reg [(.mk (some 23) none (.ld (.t 2))), (.mk (some 24) none (.nc (.t 23))), (.mk (some 25) none (.fa 6 (.t 24))), (.mk (some 26) none (.ld (.t 25))), (.mk (some 27) none (.mv (.t 1))), (.mk (some 28) none (.len (.t 27))), (.mk (some 29) none (.bin .add (.t 26) (.t 28))), (.mk (some 30) none (.nc (.t 23))), (.mk (some 31) none (.fa 6 (.t 30))), (.mk none none (.st (.t 31) (.t 29)))]) (.seq (.reg [(.mk (some 4) none (.mv (.c (.int .i64 0))))]) .ret))
def csWrite : FnC := ⟨32, [(.t 4)], (.seq (.reg [(.mk (some 2) none (.bx 135 (.t 0))), (.mk (some 4) none (.mv (.c (.int .i64 0))))]) (.seq (.seq (.reg [(.mk (some 6) none (.ld (.t 2))), (.mk (some 7) none (.call (.c (.fn 81 [])) [(.t 6)]))]) (.cond (.t 7) (.seq (.reg [(.mk (some 4) none (.mv (.c (.int .i64 1))))]) .ret) .skip)) (.seq (.seq (.reg [(.mk (some 8) none (.ld (.t 2))), (.mk (some 9) none (.nc (.t 8))), (.mk (some 10) none (.fa 0 (.t 9))), (.mk (some 11) none (.mv (.t 1))), (.mk (some 12) none (.call (.c (.fn 82 [])) [(.t 10), (.t 11)]))]) (.block 0 (.rf (.t 12) [13] asWriten1 bsWriten2))) tsWriten3)))⟩
theorem oksWrite : FnOk Try.prog 69 csWrite := fnOk_mk Try.f69 (by kernel_rfl) (by kernel_rfl) (by kernel_rfl) (by kernel_rfl) (by kernel_rfl)


def firstS : List Int := [1732584193, 4023233417, 2562383102, 271733878, 3285377520]
/-- The state behind `n` blocks. -/
def absN : Nat → List Int → List Int → List Int
  | 0, st, _ => st
  | n + 1, st, l => absN n (blkF st (l.take 64)) (l.drop 64)
def stF (m : List Int) : List Int := absN (m.length / 64) firstS m
def restF (m : List Int) : List Int := m.drop (64 * (m.length / 64))

def hashC (b : SV) (st : List Int) (n : Nat) : SO := .cells [b, .run .u32 5 st, .int .i64 n, .bool true] 158 0 0
/-- At `t` lies the sum under way of `m`. -/
def HashAt (H : List SO) (t : Nat) (m : List Int) : Prop := ∃ b, H[t]? = some (hashC b (stF m) m.length) ∧ Byt H b (restF m)

theorem absN_add : ∀ (a b : Nat) (st l : List Int), absN (a + b) st l = absN b (absN a st l) (l.drop (64 * a))
  | 0, b, st, l => by simp [absN]
  | a + 1, b, st, l => by
    rw [show a + 1 + b = (a + b) + 1 by omega, absN, absN_add a b, absN, List.drop_drop, show 64 + 64 * a = 64 * (a + 1) by omega]
theorem absN_app : ∀ (a : Nat) (st l q : List Int), 64 * a ≤ l.length → absN a st (l ++ q) = absN a st l
  | 0, st, l, q, _ => rfl
  | a + 1, st, l, q, h => by
    rw [absN, absN, List.take_append_of_le_length (by omega), List.drop_append_of_le_length (by omega), absN_app a _ _ _ (by simp; omega)]
theorem stF_app (m q : List Int) : stF (m ++ q) = absN ((restF m ++ q).length / 64) (stF m) (restF m ++ q) := by
  unfold stF restF
  have h : (m ++ q).length / 64 = m.length / 64 + (m.drop (64 * (m.length / 64)) ++ q).length / 64 := by simp; omega
  rw [h, absN_add, absN_app _ _ _ _ (by omega), List.drop_append_of_le_length (by omega)]
theorem restF_app (m q : List Int) : restF (m ++ q) = (restF m ++ q).drop (64 * ((restF m ++ q).length / 64)) := by
  unfold restF
  have h : (m ++ q).length / 64 = m.length / 64 + (m.drop (64 * (m.length / 64)) ++ q).length / 64 := by simp; omega
  rw [h, Nat.mul_add, ← List.drop_drop, List.drop_append_of_le_length (by omega)]

theorem spsNone (H : List SO) (t : Nat) (m : List Int) (h : HashAt H t m) : Spec Try.prog 81 [.ptr t 0] H fun v hs => v = .bool false ∧ hs = H := by
  obtain ⟨b, h1, h2⟩ := h
  have hn := h2.nr
  refine spec_h oksNone rfl (of_ble rfl) fun C hP hf hQ h0 hw hbd => ?_
  apply vc_ok 100
  simp only [FS.start, csNone, paramsE, h1, hashC, hn, go_sem, reduceCtorEq, Nat.reduceEqDiff, Nat.reduceLT, Nat.reduceSub, ↓reduceIte]
  exact fin00 hf hQ hw rfl ⟨rfl, rfl⟩

theorem spsBlockH (H : List SO) (st b : List Int) : Spec Try.prog 83 [.agg [.run .u32 5 st], .agg [.run .u8 64 b]] H fun x hs => x = .agg [.run .u32 5 (blkF st b)] ∧ hs = H := spec_val (spsBlock st b) rfl rfl H

/-- What the walk is to know of a slice that it does not see. -/
structure Opq (x : SV) : Prop where
  one : x.one = true
  c1 : x.c1 = true
  nr : ∀ k n l, (x = .run k n l) = False
  na : ∀ l, (x = .agg l) = False

theorem absN_succ : ∀ (n : Nat) (st l : List Int), absN (n + 1) st l = blkF (absN n st l) ((l.drop (64 * n)).take 64)
  | 0, st, l => by simp [absN]
  | n + 1, st, l => by
    rw [absN, absN_succ n, absN, List.drop_drop]
    rw [show 64 + 64 * n = 64 * (n + 1) by omega]

/-- The rounds of `Write`, and what is behind them. -/
theorem lpWrite {C : Ctx} (hP : C.P = Try.prog) (hf : C.f = 69) {H : List SO} {Q : SV → List SO → Prop} (hQ : C.Q = GQ H.length Q) (hw : Wf H) (t L0 L1 L3 L4 T n cap : Nat) (L all st0 q : List Int) (x : SV) (hx : lenQ (some x) = .v True (.int .i64 q.length))
    (envL : Env) (hE : lk envL 2 = some (.ptr L0 0)) (hL : L.length = cap) (tyA tyB : Nat) (hn : n + q.length < 9223372036854775808)
    (n0 : (t = L0) = False) (n1 : (t = L1) = False) (n3 : (t = L3) = False) (n4 : (t = L4) = False) (nT : (t = T) = False) (m0 : (L4 = L0) = False) (m1 : (L4 = L1) = False) (mt : (L4 = t) = False) (m3 : (L4 = L3) = False) (mT : (L4 = T) = False) (k3 : (L3 = t) = False) (kT : (L3 = T) = False)
    (ht : t < H.length) (h3 : H.length ≤ L3) (h4 : H.length ≤ L4) (hT : H.length ≤ T)
    (hR : ∀ off cap', RowB [.run .u8 cap L] off (all.drop (64 * (all.length / 64))) → all.length - 64 * (all.length / 64) ≤ cap' →
      Q (.int .i64 0) (H.set t (hashC (.sl H.length off (all.length - 64 * (all.length / 64)) cap') (absN (all.length / 64) st0 all) (n + q.length)) ++ [.cells [.run .u8 cap L] 5 0 0])) :
    ∀ (k i off cap' : Nat) (Hi : List SO) (bi : SV), i + k = all.length / 64 → RowB [.run .u8 cap L] off (all.drop (64 * i)) → all.length - 64 * i ≤ cap' → Opq bi →
      Hi[t]? = some (hashC bi (absN i st0 all) n) → Hi[L0]? = some (.cells [.ptr t 0] tyA 0 0) → Hi[L1]? = some (.cells [.ptr t 0] tyB 0 0) → Hi[L3]? = some (.defd true) → Hi[L4]? = some (.loop .ready none 69 envL 32 [13] asWriten1 bsWriten2 L3) → Hi[T]? = some (.cells [.run .u8 cap L] 5 0 0) →
      (∀ u, u < H.length → u ≠ t → Hi[u]? = H[u]?) →
      Ok C [⟨94, none, 33, [], [(4, .sl T off (all.length - 64 * i) cap'), (1, .ptr L1 0), (0, .yld L4)], [.c lsBlocksCn1, .lp lsBlocksCn1, .blk 0, .c tsBlocksCn2], []⟩, ⟨69, none, 32, [.t 4], [(2, .ptr L0 0), (1, x)], [.irf L4, .blk 0, .c tsWriten3], [L3]⟩] Hi := by
  intro k
  induction k with
  | zero =>
    intro i off cap' Hi bi hi hr hc hb ft f0 f1 f3 f4 fT hk
    have h1 : decide ((64 : Int) ≤ ((all.length - 64 * i : Nat) : Int)) = false := by simp; omega
    have h2 : IntKind.i64.wrap ((n : Int) + (q.length : Int)) = ((n + q.length : Nat) : Int) := by rw [w64 (by omega) (by omega)]; omega
    obtain ⟨b1, b2, b3, b4⟩ := hb
    have lt := lt_of_at ft
    have l0 := lt_of_at f0
    have l1 := lt_of_at f1
    have l3 := lt_of_at f3
    have l4 := lt_of_at f4
    have lT := lt_of_at fT
    obtain rfl : i = all.length / 64 := by omega
    refine ok_head lsBlocksCn1.eq_1 (vc_ok 100 _ _ ?_)
    simp only [hd tsBlocksCn2.eq_1, hd tsWriten3.eq_1, h1, h2, hx, b3, lt, ft, f0, f1, f3, f4, n0, n3, n4, m0, mt, m3, hashC, hx_ne, hx_eq, ne_eq, eq_self, not_false_eq_true, go_sem, Nat.reduceEqDiff, Nat.reduceLT, Nat.reduceSub, ↓reduceIte]
    refine ⟨hf.symm, ?_⟩
    rw [hQ]
    refine gq_set1 (j := T) (m := cap) (L := L) (ty2 := 5) hw ht ?_ hT ?_ ?_ rfl rfl (hR off cap' hr hc)
    · intro u hu hut
      have e1 : (t = u) = False := by simp; omega
      have e3 : (L3 = u) = False := by simp; omega
      have e4 : (L4 = u) = False := by simp; omega
      simp only [e1, e3, e4, hx_ne, ne_eq, not_false_eq_true]
      exact hk u hu hut
    · simp only [nT, mT, kT, fT, hx_ne, ne_eq, eq_self, not_false_eq_true]
    · simp only [k3, lt, hx_ne, hx_eq, List.length_set, ne_eq, eq_self, not_false_eq_true]
  | succ k ih =>
    intro i off cap' Hi bi hi hr hc hb ft f0 f1 f3 f4 fT hk
    have h1 : decide ((64 : Int) ≤ ((all.length - 64 * i : Nat) : Int)) = true := by simp; omega
    have r1 := hr.lda 0 64 (by simp; omega)
    simp only [Nat.add_zero, List.drop_zero] at r1
    obtain ⟨b1, b2, b3, b4⟩ := hb
    have lt := lt_of_at ft
    have l0 := lt_of_at f0
    have l1 := lt_of_at f1
    have l3 := lt_of_at f3
    have l4 := lt_of_at f4
    have lT := lt_of_at fT
    refine ok_head lsBlocksCn1.eq_1 (vc_ok 100 _ _ ?_)
    simp only [hd asWriten1.eq_1, h1, r1, b3, lt, l1, l4, ft, f1, f4, fT, n4, hashC, hx_old, hx_new, hx_new0, hx_sold, hx_snew, hx_snew0, hx_ne, List.length_set, ne_eq, eq_self, not_false_eq_true, go_sem, reduceCtorEq, Nat.reduceEqDiff, Nat.reduceLT, Int.reduceToNat, Int.reduceLE, ↓reduceIte]
    refine ⟨by omega, ⟨by omega, by omega⟩, ?_⟩
    simp only [hd bsWriten2.eq_1, lt, l0, f0, n0, m0, mt, hE, hx_old, hx_new, hx_ne, hx_eq, List.length_set, ne_eq, eq_self, not_false_eq_true, go_sem, reduceCtorEq, Nat.reduceEqDiff, Nat.reduceLT, Nat.reduceLeDiff, Nat.reduceSub, Nat.reduceBEq, ↓reduceIte]
    refine ok_dch hP 100 (spsBlockH _ _ _) oksBlock rfl rfl fun v hs' hq => ?_
    obtain ⟨rfl, rfl⟩ := hq
    simp only [hdd dsWriten0.eq_1, lt, l0, l4, f0, n0, n4, m0, mt, hx_old, hx_sold, hx_ne, hx_eq, List.length_set, ne_eq, eq_self, not_false_eq_true, go_sem, reduceCtorEq, Nat.reduceEqDiff, Nat.reduceLT, Nat.reduceLeDiff, Nat.reduceSub, Nat.reduceBEq, ↓reduceIte]
    rw [show all.length - 64 * i - 64 = all.length - 64 * (i + 1) by omega]
    have hr' := hr.step (cap := cap') (k := 64) (by simp; omega) (by simp; omega)
    rw [List.drop_drop, show 64 * i + 64 = 64 * (i + 1) by omega] at hr'
    rw [← absN_succ]
    refine ok_less (ih (i + 1) _ (cap' - 64) _ (.sl T (if cap' = 64 then off else off + 64) (all.length - 64 * (i + 1)) (cap' - 64)) (by omega) hr' (by omega) ⟨rfl, rfl, fun _ _ _ => by simp, fun _ => by simp⟩ ?_ ?_ ?_ ?_ ?_ ?_ ?_) (by simp only [envSub, go_sem, reduceCtorEq, Nat.reduceEqDiff, ↓reduceIte] <;> rfl)
    · simp only [mt, lt, hashC, hx_old, hx_ne, hx_eq, List.length_set, ne_eq, eq_self, not_false_eq_true]
    · simp only [n0, m0, f0, l0, hx_old, hx_ne, List.length_set, ne_eq, eq_self, not_false_eq_true]
    · simp only [n1, m1, f1, l1, hx_old, hx_ne, List.length_set, ne_eq, eq_self, not_false_eq_true]
    · simp only [n3, m3, f3, l3, hx_old, hx_ne, List.length_set, ne_eq, eq_self, not_false_eq_true]
    · simp only [l4, hx_old, hx_eq, List.length_set, eq_self]
    · simp only [nT, mT, fT, lT, hx_old, hx_ne, List.length_set, ne_eq, eq_self, not_false_eq_true]
    · intro u hu hut
      have e1 : (t = u) = False := by simp; omega
      have e4 : (L4 = u) = False := by simp; omega
      have e5 : u < Hi.length := by omega
      simp only [e1, e4, e5, hx_old, hx_ne, List.length_set, ne_eq, not_false_eq_true]
      exact hk u hu hut

theorem spsWrite (H : List SO) (t : Nat) (m q : List Int) (x : SV) (h : HashAt H t m) (hx : Byt H x q) (hb : m.length + q.length ≤ 1000000000) :
    Spec Try.prog 69 [.ptr t 0, x] H fun v hs => v = .int .i64 0 ∧ HashAt hs t (m ++ q) ∧ ∀ u, u < H.length → u ≠ t → hs[u]? = H[u]? := by
  have hno := spsNone (H ++ [.cells [.ptr t 0] 135 0 0]) t m (by obtain ⟨b, h1, h2⟩ := h; exact ⟨b, at_old h1 _, h2.app _⟩)
  obtain ⟨b, h1, h2⟩ := h
  obtain ⟨b1, b2, b3, b4⟩ := h2.facts
  obtain ⟨x1, x2, x3, x4⟩ := hx.facts
  refine spec_h oksWrite (by simp only [x1, go_sem]) (of_ble rfl) fun C hP hf hQ h0 hw hbd => ?_
  apply vc_ok 100
  simp only [FS.start, csWrite, paramsE, go_sem, Nat.reduceEqDiff, Nat.reduceLT, ↓reduceIte]
  refine ok_ch hP 100 hno oksNone rfl rfl fun v hs' hq => ?_
  obtain ⟨rfl, rfl⟩ := hq
  simp only [x1, go_sem, reduceCtorEq, Nat.reduceEqDiff, Nat.reduceLT, ↓reduceIte]
  refine ok_in hP 100 (by rfl) (by exact call_ev rfl rfl (by simp only [x1, go_sem])) oksBlocks (by rfl) (by exact of_ble rfl) ?_
  simp only [FS.start, csBlocks, paramsE, x2, x4, go_sem, reduceCtorEq, Nat.reduceEqDiff, Nat.reduceLT, Nat.reduceAdd, ↓reduceIte]
  refine ok_range hP 100 rfl oksBlocksC (by rfl) (by exact of_ble rfl) ?_
  have lt := lt_of_at h1
  have hlen := hx.len
  simp only [FS.start, csBlocksC, paramsE, x2, x3, x4, b2, b3, b4, lt, h1, hashC, hx_old, hx_new, eq_self, go_sem, reduceCtorEq, Nat.reduceEqDiff, Nat.reduceLT, Nat.reduceAdd, Nat.reduceBEq, ↓reduceIte]
  have hcat : ([restF m, q] : List (List Int)).flatten = restF m ++ q := by simp
  have hlr : (restF m).length ≤ m.length := by simp [restF]
  refine ok_dch hP 100 (spConcat _ (H.length + 5) [b, x] [restF m, q] 27 0 0 (by simp only [go_sem]) ⟨h2.app _, hx.app _, trivial⟩ (by simp) (by rw [hcat]; simp; omega)) okConcat rfl rfl fun v hs' hq => ?_
  rw [hcat] at hq
  rcases hq with ⟨hnil, rfl, rfl⟩ | ⟨o, rfl, hown⟩
  · have hq0 : restF m = [] ∧ q = [] := by simpa using hnil
    obtain ⟨hr0, rfl⟩ := hq0
    have h3 : IntKind.i64.wrap ((m.length : Int) + 0) = (m.length : Int) := by rw [w64 (by omega) (by omega)]; omega
    have hlen' : lenQ (some x) = .v True (.int .i64 0) := hlen
    simp only [hdd dsBlocksCn0.eq_1, go_sem, Nat.reduceLT, ↓reduceIte]
    refine ok_head lsBlocksCn1.eq_1 (vc_ok 100 _ _ ?_)
    simp only [hd tsBlocksCn2.eq_1, hd tsWriten3.eq_1, hlen', h3, b3, lt, h1, hashC, hx_old, hx_new, hx_new0, hx_sold, hx_snew, hx_eq, List.length_set, List.set_set, eq_self, go_sem, reduceCtorEq, Nat.reduceEqDiff, Nat.reduceLT, Nat.reduceSub, Int.reduceLE, ↓reduceIte]
    refine ⟨hf.symm, ?_⟩
    rw [hQ]
    refine gq_set0 (cs := [.nils, .run .u32 5 (stF m), .int .i64 m.length, .bool true]) (ty := 158) hw lt ?_ ?_ rfl rfl ⟨rfl, ⟨.nils, ?_, .inl ⟨rfl, by rw [List.append_nil]; exact hr0⟩⟩, ?_⟩
    · intro u hu hut
      have e1 : (t = u) = False := by simp; omega
      simp only [e1, hu, hx_old, hx_ne, List.length_set, ne_eq, eq_self, not_false_eq_true]
    · simp only [lt, hx_old, hx_eq, List.length_set, eq_self]
    · simp only [List.append_nil, lt, hashC, hx_eq, eq_self]
    · intro u hu hut
      have e1 : (t = u) = False := by simp; omega
      simp only [e1, hx_ne, ne_eq, eq_self, not_false_eq_true]
  · obtain ⟨cap, L, c1, c2, c3, rfl, rfl⟩ := hown
    simp only [hdd dsBlocksCn0.eq_1, go_sem, Nat.reduceLT, Nat.reduceAdd, ↓reduceIte]
    refine ok_less (env' := [(4, .sl (H.length + 6) 0 ((restF m ++ q).length - 64 * 0) cap), (1, .ptr (H.length + 1) 0), (0, .yld (H.length + 4))]) ?_ (by simp only [envSub, go_sem, reduceCtorEq, Nat.reduceEqDiff, ↓reduceIte] <;> rfl)
    refine ok_less2 (env' := [(2, .ptr H.length 0), (1, x)]) ?_ (by simp only [envSub, go_sem, reduceCtorEq, Nat.reduceEqDiff, ↓reduceIte] <;> rfl)
    refine lpWrite hP hf hQ hw t H.length (H.length + 1) (H.length + 3) (H.length + 4) (H.length + 6) m.length cap L (restF m ++ q) (stF m) q x hlen [(12, .fn 94 [.ptr (H.length + 1) 0, .ptr (H.length + 2) 0]), (11, x), (10, .ptr t 0), (9, .ptr t 0), (8, .ptr t 0), (7, .bool false), (6, .ptr t 0), (4, .int .i64 0), (2, .ptr H.length 0), (0, .ptr t 0), (1, x)] rfl c2 135 173 (by omega) (by simp; omega) (by simp; omega) (by simp; omega) (by simp; omega) (by simp; omega) (by simp) (by simp) (by simp; omega) (by simp) (by simp) (by simp; omega) (by simp) lt (by omega) (by omega) (by omega) ?_
      ((restF m ++ q).length / 64) 0 0 cap _ b (by omega) ?_ (by omega) ⟨b1, b2, b3, b4⟩ ?_ ?_ ?_ ?_ ?_ ?_ ?_
    · intro off cap' hr hc
      refine ⟨rfl, ⟨.sl H.length off ((restF m ++ q).length - 64 * ((restF m ++ q).length / 64)) cap', ?_, .inr ⟨H.length, off, cap', [.run .u8 cap L], 5, 0, 0, ?_, ?_, ?_, ?_⟩⟩, ?_⟩
      · rw [stF_app]
        simp only [List.length_append, lt, hashC, hx_old, hx_eq, List.length_set, eq_self]
      · rw [restF_app, List.length_drop]
      · rw [restF_app, List.length_drop]; exact hc
      · simp only [hx_new0, List.length_set, eq_self]; rfl
      · rw [restF_app]; exact hr
      · intro u hu hut
        have e1 : (t = u) = False := by simp; omega
        simp only [e1, hu, hx_old, hx_ne, List.length_set, ne_eq, eq_self, not_false_eq_true]
    · exact rowB_run c2 (by simpa using c1) (by simpa [part] using c3)
    · simp only [lt, h1, absN, hashC, hx_old, eq_self]
    · simp only [go_sem]
    · simp only [go_sem]
    · simp only [go_sem]
    · simp only [go_sem]
    · simp only [go_sem]
    · intro u hu hut
      simp only [hu, hx_old, eq_self]
#print axioms spsWrite
end Go.Pv
