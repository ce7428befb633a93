/- cmac: writing. -/
import Derived.Test.YtifoaokodgbhjaaSr
namespace Go.Pv
open Go Go.Proofs
def ccBlocks : FnC := ⟨6, [(.t 4)], (.seq (.reg [(.mk (some 2) none (.bx 106 (.t 0))), (.mk (some 3) none (.bx 27 (.t 1))), (.mk (some 4) none (.mv (.c .nilf)))]) (.seq (.reg [(.mk (some 5) none (.mkf 76 [(.t 2), (.t 3)])), (.mk (some 4) none (.mv (.t 5)))]) .ret))⟩
theorem okcBlocks : FnOk Try.prog 62 ccBlocks := fnOk_mk Try.f62 (by kernel_rfl) (by kernel_rfl) (by kernel_rfl) (by kernel_rfl) (by kernel_rfl)
def dcBlocksCn1 : DT := (.one 7 (.mk (some 4) none (.mv (.t 12))) [] .fin)
def lcBlocksCn2 : IC := (.seq (.seq (.reg [(.mk (some 13) none (.mv (.t 4))), (.mk (some 14) none (.len (.t 13))), (.mk (some 15) none (.bin .gtr (.t 14) (.c (.int .i64 16))))]) (.cond (.t 15) .skip (.exit 0))) (.block 1 (.seq (.reg [(.mk (some 16) none (.mv (.t 4))), (.mk (some 17) none (.s2a 16 (.t 16))), (.mk (some 18) none (.lda (.t 17) 16)), (.mk (some 5) none (.al 91 [(.run .u8 16 (List.replicate 16 0))])), (.mk none none (.sta (.t 5) (.t 18) 16))]) (.seq (.reg [(.mk (some 19) none (.mv (.t 4))), (.mk (some 20) none (.slc 1 (.t 19) (some (.c (.int .i64 16))) none)), (.mk (some 4) none (.mv (.t 20)))]) (.seq (.reg [(.mk (some 21) none (.mv (.t 0))), (.mk (some 22) none (.lda (.t 5) 16)), (.mk (some 23) none (.call (.t 21) [(.t 22)])), (.mk (some 24) none (.un .not (.t 23)))]) (.cond (.t 24) (.exit 0) .skip))))))
def tcBlocksCn3 : IC := (.reg [(.mk (some 25) none (.ld (.t 1))), (.mk (some 26) none (.mv (.t 4))), (.mk (some 27) none (.nc (.t 25))), (.mk (some 28) none (.fa 17 (.t 27))), (.mk none none (.st (.t 28) (.t 26)))])
def scBlocksCn0 : IC := (.seq (.dreg (.tk 0 (.mk (some 6) none (.ld (.t 1))) (.tk 1 (.mk (some 7) none (.nc (.t 6))) (.tk 2 (.mk (some 8) none (.fa 17 (.t 7))) (.tk 3 (.mk (some 9) none (.ld (.t 8))) (.one 4 (.mk (some 10) none (.ld (.t 2))) [] (.one 5 (.mk (some 11) none (.bsl 27 2 [.nils, .nils] [(0, (1, (.t 9))), (1, (1, (.t 10)))])) [3, 4, 2, 1, 0] (.one 6 (.mk (some 12) none (.call (.c (.fn 27 [])) [(.t 11)])) [5, 3, 4, 2, 1, 0] dcBlocksCn1)))))))) (.seq (.label 0) (.seq (.block 0 (.loop lcBlocksCn2)) tcBlocksCn3)))
def ccBlocksC : FnC := ⟨29, [], (.scope scBlocksCn0)⟩
theorem okcBlocksC : FnOk Try.prog 76 ccBlocksC := fnOk_mk Try.f76 (by kernel_rfl) (by kernel_rfl) (by kernel_rfl) (by kernel_rfl) (by kernel_rfl)
def dcWriten0 : DT := (.one 9 (.mk (some 21) none (.nc (.t 12))) [] (.one 10 (.mk (some 22) none (.fa 1 (.t 21))) [] (.one 11 (.mk none none (.sta (.t 22) (.t 20) 16)) [10, 8, 0, 1, 2, 3, 4, 5, 6, 7, 9] .fin)))
def dcWriten1 : DT := (.one 8 (.mk (some 20) none (.call (.c (.fn 63 [])) [(.t 13), (.t 19)])) [1, 7, 5, 6, 4, 3, 2] dcWriten0)
def acWriten2 : IC := (.reg [(.mk (some 5) none (.al 91 [(.run .u8 16 (List.replicate 16 0))])), (.mk none none (.sta (.t 5) (.t 11) 16))])
def bcWriten3 : IC := (.block 1 (.dreg (.tk 0 (.mk (some 12) none (.ld (.t 2))) (.tk 1 (.mk (some 13) none (.ld (.t 2))) (.tk 2 (.mk (some 14) none (.ld (.t 2))) (.tk 3 (.mk (some 15) none (.nc (.t 14))) (.tk 4 (.mk (some 16) none (.fa 1 (.t 15))) (.tk 5 (.mk (some 17) none (.lda (.t 16) 16)) (.one 6 (.mk (some 18) none (.lda (.t 5) 16)) [] (.one 7 (.mk (some 19) none (.call (.c (.fn 64 [])) [(.t 17), (.t 18)])) [5, 6, 4, 3, 2] dcWriten1))))))))))
def tcWriten4 : IC := (.seq (.reg [(.mk (some 4) none (.mv (.c (.int .i64 0))))]) .ret)
def ccWrite : FnC := ⟨23, [(.t 4)], (.seq (.reg [(.mk (some 2) none (.bx 106 (.t 0))), (.mk (some 4) none (.mv (.c (.int .i64 0))))]) (.seq (.seq (.reg [(.mk (some 6) none (.ld (.t 2))), (.mk (some 7) none (.call (.c (.fn 61 [])) [(.t 6)]))]) (.cond (.t 7) (.seq (.reg [(.mk (some 4) none (.mv (.c (.int .i64 1))))]) .ret) .skip)) (.seq (.seq (.reg [(.mk (some 8) none (.ld (.t 2))), (.mk (some 9) none (.mv (.t 1))), (.mk (some 10) none (.call (.c (.fn 62 [])) [(.t 8), (.t 9)]))]) (.block 0 (.rf (.t 10) [11] acWriten2 bcWriten3))) tcWriten4)))⟩
theorem okcWrite : FnOk Try.prog 51 ccWrite := fnOk_mk Try.f51 (by kernel_rfl) (by kernel_rfl) (by kernel_rfl) (by kernel_rfl) (by kernel_rfl)


theorem gq_set2 {H hs : List SO} {Q : SV → List SO → Prop} {t c j off len cap m ty ty2 : Nat} {x L : List Int} {v : SV} (hw : Wf H) (ht : t < H.length) (hc : c < H.length) (hk : ∀ u, u < H.length → u ≠ t → hs[u]? = H[u]?) (hj : H.length ≤ j)
    (ho : hs[j]? = some (.cells [.run .u8 m L] ty2 0 0)) (hob : hs[t]? = some (.cells [.ptr c 0, .run .u8 16 x, .sl j off len cap] ty 0 0)) (hx : v.bnd 0 = true)
    (hQ : Q v (H.set t (.cells [.ptr c 0, .run .u8 16 x, .sl H.length off len cap] ty 0 0) ++ [.cells [.run .u8 m L] ty2 0 0])) : GQ H.length Q v hs := by
  have hn : (List.range H.length ++ [j]).Nodup := by
    rw [List.nodup_append]
    refine ⟨List.nodup_range, by simp, ?_⟩
    intro a ha b hb
    simp at ha hb
    omega
  have hg : ∀ i, i < H.length → (List.range H.length ++ [j])[i]? = some i := by
    intro i hi
    rw [List.getElem?_append_left (by simpa using hi)]
    exact List.getElem?_range hi
  have hl : (List.range H.length ++ [j])[H.length]? = some j := by
    rw [List.getElem?_append_right (by simp)]; simp
  refine ⟨List.range H.length ++ [j], v, _, by simp, hn, hg, ?_, (ren_bnd0 v hx).symm, bnd_mono (Nat.zero_le _) v hx, hQ⟩
  intro i o' ho'
  by_cases hi : i < H.length
  · rw [List.getElem?_append_left (by simpa using hi)] at ho'
    refine ⟨i, hg i hi, ?_⟩
    by_cases hit : i = t
    · subst hit
      rw [List.getElem?_set_self hi] at ho'
      cases ho'
      refine .inl ⟨?_, ?_⟩
      · rw [hob]
        have := hg c hc
        simp [SO.ren, rens, SV.ren, this]
      · simp [SO.bnd, bnds, SV.bnd]; omega
    · rw [List.getElem?_set_ne (fun h => hit h.symm)] at ho'
      exact .inr ⟨by rw [hk i hi hit]; exact ho', hw i o' ho'⟩
  · have hi2 : i = H.length := by
      have := (List.getElem?_eq_some_iff.1 ho').1
      simp at this; omega
    subst hi2
    rw [List.getElem?_append_right (by simp)] at ho'
    simp at ho'
    subst ho'
    exact ⟨_, hl, .inl ⟨ho, rfl⟩⟩
theorem gq_set3 {H hs : List SO} {Q : SV → List SO → Prop} {t c ty : Nat} {x : List Int} {v : SV} (hw : Wf H) (ht : t < H.length) (hc : c < H.length) (hk : ∀ u, u < H.length → u ≠ t → hs[u]? = H[u]?)
    (hob : hs[t]? = some (.cells [.ptr c 0, .run .u8 16 x, .nils] ty 0 0)) (hx : v.bnd 0 = true) (hQ : Q v (H.set t (.cells [.ptr c 0, .run .u8 16 x, .nils] ty 0 0))) : GQ H.length Q v hs := by
  have hg : ∀ i, i < H.length → (List.range H.length)[i]? = some i := fun i hi => List.getElem?_range hi
  refine ⟨List.range H.length, v, _, by simp, List.nodup_range, hg, ?_, (ren_bnd0 v hx).symm, bnd_mono (Nat.zero_le _) v hx, hQ⟩
  intro i o' ho'
  have hi : i < H.length := by have := (List.getElem?_eq_some_iff.1 ho').1; simpa using this
  refine ⟨i, hg i hi, ?_⟩
  by_cases hit : i = t
  · subst hit
    rw [List.getElem?_set_self hi] at ho'
    cases ho'
    have := hg c hc
    exact .inl ⟨by rw [hob]; simp [SO.ren, rens, SV.ren, this], by simp [SO.bnd, bnds, SV.bnd]; omega⟩
  · rw [List.getElem?_set_ne (fun h => hit h.symm)] at ho'
    exact .inr ⟨by rw [hk i hi hit]; exact ho', hw i o' ho'⟩

/-! ### The blocks of a text -/
theorem absC_add (k : List Int) : ∀ (a b : Nat) (st l : List Int), absC k (a + b) st l = absC k b (absC k a st l) (l.drop (16 * a))
  | 0, b, st, l => by simp [absC]
  | a + 1, b, st, l => by
    rw [show a + 1 + b = (a + b) + 1 by omega, absC, absC_add k a b, absC, List.drop_drop, show 16 + 16 * a = 16 * (a + 1) by omega]
theorem absC_app (k : List Int) : ∀ (a : Nat) (st l q : List Int), 16 * a ≤ l.length → absC k a st (l ++ q) = absC k a st l
  | 0, st, l, q, _ => rfl
  | a + 1, st, l, q, h => by
    rw [absC, absC, List.take_append_of_le_length (by omega), List.drop_append_of_le_length (by omega), absC_app k a _ _ _ (by simp; omega)]
theorem absC_succ (k : List Int) : ∀ (n : Nat) (st l : List Int), absC k (n + 1) st l = aesF k (xbF (absC k n st l) ((l.drop (16 * n)).take 16))
  | 0, st, l => by simp [absC]
  | n + 1, st, l => by
    rw [absC, absC_succ k n, absC, List.drop_drop, show 16 + 16 * n = 16 * (n + 1) by omega]
theorem nbF_app (m q : List Int) : nbF (m ++ q) = nbF m + nbF (crestF m ++ q) := by
  simp only [nbF, crestF, List.length_append, List.length_drop]; omega
theorem nbF_le (m : List Int) : 16 * nbF m ≤ m.length := by simp only [nbF]; omega
theorem cstF_app (k m q : List Int) : cstF k (m ++ q) = absC k (nbF (crestF m ++ q)) (cstF k m) (crestF m ++ q) := by
  have := nbF_le m
  rw [cstF, nbF_app, absC_add, absC_app _ _ _ _ _ this, List.drop_append_of_le_length this]
  rfl
theorem crestF_app (m q : List Int) : crestF (m ++ q) = (crestF m ++ q).drop (16 * nbF (crestF m ++ q)) := by
  have := nbF_le m
  conv => lhs; rw [crestF, nbF_app, Nat.mul_add, ← List.drop_drop, List.drop_append_of_le_length this]
  rfl

structure CmI (H : List SO) (t c cap : Nat) (L : List Int) (b : SV) (envL : Env) (st : List Int) (Hd : List SO) : Prop where
  len : H.length + 7 ≤ Hd.length
  old : ∀ u, u < H.length → u ≠ t → Hd[u]? = H[u]?
  ft : Hd[t]? = some (.cells [.ptr c 0, .run .u8 16 st, b] 123 0 0)
  f0 : Hd[H.length]? = some (.cells [.ptr t 0] 106 0 0)
  f1 : Hd[H.length + 1]? = some (.cells [.ptr t 0] 106 0 0)
  f3 : Hd[H.length + 3]? = some (.defd true)
  f4 : Hd[H.length + 4]? = some (.loop .ready none 51 envL 23 [11] acWriten2 bcWriten3 (H.length + 3))
  f6 : Hd[H.length + 6]? = some (.cells [.run .u8 cap L] 5 0 0)

theorem lpCm {C : Ctx} (hP : C.P = Try.prog) (hf : C.f = 51) {H : List SO} {Q : SV → List SO → Prop} (hQ : C.Q = GQ H.length Q) (hw : Wf H) (t c cap : Nat) (k L all st0 : List Int) (b : SV) (hb : Opq b) (envL : Env) (hE : lk envL 2 = some (.ptr H.length 0))
    (ht : t < H.length) (hc : c < H.length) (hct : c ≠ t) (hk : CphAt H c k)
    (hR : ∀ off cap', RowB [.run .u8 cap L] off (all.drop (16 * nbF all)) → all.length - 16 * nbF all ≤ cap' →
      Q (.int .i64 0) (H.set t (cmC c (absC k (nbF all) st0 all) (.sl H.length off (all.length - 16 * nbF all) cap')) ++ [.cells [.run .u8 cap L] 5 0 0])) :
    ∀ (n i off cap' : Nat) (Hi : List SO), i + n = nbF all → RowB [.run .u8 cap L] off (all.drop (16 * i)) → all.length - 16 * i ≤ cap' → CmI H t c cap L b envL (absC k i st0 all) Hi →
      Ok C [⟨76, none, 29, [], [(4, .sl (H.length + 6) off (all.length - 16 * i) cap'), (1, .ptr (H.length + 1) 0), (0, .yld (H.length + 4))], [.c lcBlocksCn2, .lp lcBlocksCn2, .blk 0, .c tcBlocksCn3, .sc scBlocksCn0], []⟩, ⟨51, none, 23, [.t 4], [(2, .ptr H.length 0)], [.irf (H.length + 4), .blk 0, .c tcWriten4], [H.length + 3]⟩] Hi := by
  obtain ⟨b1, b2, b3, b4⟩ := hb
  intro n
  induction n with
  | zero =>
    intro i off cap' Hi hi hr hcc I
    obtain rfl : i = nbF all := by omega
    have ft := I.ft
    have f0 := I.f0
    have f1 := I.f1
    have f3 := I.f3
    have f4 := I.f4
    have f6 := I.f6
    have lt := lt_of_at ft
    have l0 := lt_of_at f0
    have l1 := lt_of_at f1
    have l3 := lt_of_at f3
    have l4 := lt_of_at f4
    have l6 := lt_of_at f6
    have hnb : all.length ≤ 16 * nbF all + 16 := by simp only [nbF]; omega
    have h1 : decide ((16 : Int) < ((all.length - 16 * nbF all : Nat) : Int)) = false := by simp; omega
    have nt4 : (t = H.length + 4) = False := by simp; omega
    have nt3 : (t = H.length + 3) = False := by simp; omega
    have n43 : (H.length + 4 = H.length + 3) = False := by simp
    have n34 : (H.length + 3 = H.length + 4) = False := by simp
    refine ok_head lcBlocksCn2.eq_1 (vc_ok 100 _ _ ?_)
    simp only [hd tcBlocksCn3.eq_1, hd tcWriten4.eq_1, h1, b3, ft, f1, f3, f4, nt4, nt3, n43, hx_ne, ne_eq, eq_self, not_false_eq_true, go_sem, Nat.reduceEqDiff, Nat.reduceLT, Nat.reduceSub, ↓reduceIte]
    refine ⟨hf.symm, ?_⟩
    rw [hQ]
    have hlen := I.len
    refine gq_set2 (j := H.length + 6) (m := cap) (L := L) (ty2 := 5) hw ht hc ?_ (by omega) ?_ ?_ rfl (hR off cap' hr hcc)
    · intro u hu hut
      rw [List.getElem?_set_ne (by omega), List.getElem?_set_ne (by omega), List.getElem?_set_ne (by omega)]
      exact I.old u hu hut
    · rw [List.getElem?_set_ne (by omega), List.getElem?_set_ne (by omega), List.getElem?_set_ne (by omega)]
      exact f6
    · rw [List.getElem?_set_ne (by omega), List.getElem?_set_ne (by omega)]
      exact hx_eq lt
  | succ n ih =>
    intro i off cap' Hi hi hr hcc I
    have ft := I.ft
    have f0 := I.f0
    have f1 := I.f1
    have f3 := I.f3
    have f4 := I.f4
    have f6 := I.f6
    have lt := lt_of_at ft
    have l0 := lt_of_at f0
    have l1 := lt_of_at f1
    have l3 := lt_of_at f3
    have l4 := lt_of_at f4
    have l6 := lt_of_at f6
    have hbig : 16 * (i + 1) < all.length := by simp only [nbF] at hi; omega
    have h1 : decide ((16 : Int) < ((all.length - 16 * i : Nat) : Int)) = true := by simp; omega
    have r1 := hr.lda 0 16 (by simp; omega)
    simp only [Nat.add_zero, List.drop_zero] at r1
    have nt4 : (t = H.length + 4) = False := by simp; omega
    have n4t : (H.length + 4 = t) = False := by simp; omega
    have n40 : (H.length + 4 = H.length) = False := by simp
    refine ok_head lcBlocksCn2.eq_1 (vc_ok 100 _ _ ?_)
    simp only [hd acWriten2.eq_1, h1, r1, l4, f4, f6, hx_old, hx_new, hx_new0, hx_sold, hx_snew, hx_snew0, eq_self, go_sem, reduceCtorEq, Nat.reduceEqDiff, Nat.reduceLT, Int.reduceToNat, Int.reduceLE, ↓reduceIte]
    refine ⟨by omega, ⟨by omega, by omega⟩, ?_⟩
    have n4c : (H.length + 4 = c) = False := by simp; omega
    simp only [hd bcWriten3.eq_1, hE, lt, l0, ft, f0, n4t, n40, hx_old, hx_new, hx_ne, List.length_set, ne_eq, eq_self, not_false_eq_true, go_sem, reduceCtorEq, Nat.reduceEqDiff, Nat.reduceLT, Nat.reduceLeDiff, Nat.reduceSub, Nat.reduceBEq, ↓reduceIte]
    refine ok_dch hP 100 (spcXor _ _ _) okcXor rfl rfl fun v hs' hq => ?_
    obtain ⟨rfl, rfl⟩ := hq
    simp only [hdd dcWriten1.eq_1, l0, f0, n40, hx_old, hx_ne, List.length_set, ne_eq, eq_self, not_false_eq_true, go_sem, Nat.reduceEqDiff, Nat.reduceLT, Nat.reduceBEq, ↓reduceIte]
    have hck : CphAt (Hi.set (H.length + 4) (SO.loop LoopState.busy none 51 envL 23 [11] acWriten2 bcWriten3 (H.length + 3)) ++
          [SO.cells [SV.run IntKind.u8 16 (List.take 16 (List.drop (16 * i) all))] 91 0 0,
            SO.cells [SV.run IntKind.u8 16 (List.take 16 (List.drop (16 * i) all))] 91 0 0]) c k := by
      have lc : c < Hi.length := by have := I.len; omega
      unfold CphAt
      rw [List.getElem?_append_left (by simp; omega), List.getElem?_set_ne (by omega), I.old c hc hct]
      exact hk
    refine ok_dch hP 100 (spcMade _ t c k (absC k i st0 all) _ b (by simp only [lt, n4t, ft, cmC, hx_old, hx_ne, List.length_set, ne_eq, eq_self, not_false_eq_true]) ⟨b1, b2, b3, b4⟩ hck) okcMade rfl rfl fun v hs' hq => ?_
    obtain ⟨rfl, rfl⟩ := hq
    simp only [hdd dcWriten0.eq_1, lt, l0, l4, ft, f0, nt4, n4t, n40, hx_old, hx_sold, hx_ne, hx_eq, List.length_set, ne_eq, eq_self, not_false_eq_true, go_sem, reduceCtorEq, Nat.reduceEqDiff, Nat.reduceLT, Nat.reduceLeDiff, Nat.reduceSub, Nat.reduceBEq, ↓reduceIte]
    rw [show all.length - 16 * i - 16 = all.length - 16 * (i + 1) by omega]
    have hr' := hr.step (cap := cap') (k := 16) (by simp; omega) (by simp; omega)
    rw [List.drop_drop, show 16 * i + 16 = 16 * (i + 1) by omega] at hr'
    rw [← absC_succ]
    have hlen := I.len
    refine ok_less (ih (i + 1) _ (cap' - 16) _ (by omega) hr' (by omega) ⟨by simp; omega, ?_, ?_, ?_, ?_, ?_, ?_, ?_⟩) (by simp only [envSub, go_sem, reduceCtorEq, Nat.reduceEqDiff, ↓reduceIte] <;> rfl)
    · intro u hu hut
      rw [List.getElem?_append_left (by simp; omega), List.getElem?_set_ne (by omega), List.getElem?_set_ne (by omega), List.getElem?_set_ne (by omega)]
      exact I.old u hu hut
    · rw [List.getElem?_append_left (by simp; omega), List.getElem?_set_ne (by omega)]
      exact hx_eq (by simp; omega)
    · rw [List.getElem?_append_left (by simp; omega), List.getElem?_set_ne (by omega), List.getElem?_set_ne (by omega), List.getElem?_set_ne (by omega)]
      exact f0
    · rw [List.getElem?_append_left (by simp; omega), List.getElem?_set_ne (by omega), List.getElem?_set_ne (by omega), List.getElem?_set_ne (by omega)]
      exact f1
    · rw [List.getElem?_append_left (by simp; omega), List.getElem?_set_ne (by omega), List.getElem?_set_ne (by omega), List.getElem?_set_ne (by omega)]
      exact f3
    · rw [List.getElem?_append_left (by simp; omega)]
      exact hx_eq (by simp; omega)
    · rw [List.getElem?_append_left (by simp; omega), List.getElem?_set_ne (by omega), List.getElem?_set_ne (by omega), List.getElem?_set_ne (by omega)]
      exact f6

theorem spcWrite (H : List SO) (t : Nat) (k m q : List Int) (x : SV) (h : CmAt H t k m) (hx : Byt H x q) (hb : m.length + q.length ≤ 1000000000) :
    Spec Try.prog 51 [.ptr t 0, x] H fun v hs => v = .int .i64 0 ∧ CmAt hs t k (m ++ q) ∧ ∀ u, u < H.length → u ≠ t → hs[u]? = H[u]? := by
  obtain ⟨c, b, h1, h2, h3, h4⟩ := h
  have hno := spcNone (H ++ [.cells [.ptr t 0] 106 0 0]) t c _ b (at_old h1 _) h4.opq
  obtain ⟨b1, b2, b3, b4⟩ := h4.facts
  obtain ⟨x1, x2, x3, x4⟩ := hx.facts
  refine spec_h okcWrite (by simp only [x1, go_sem]) (of_ble rfl) fun C hP hf hQ h0 hw hbd => ?_
  apply vc_ok 100
  simp only [FS.start, ccWrite, paramsE, go_sem, Nat.reduceEqDiff, Nat.reduceLT, ↓reduceIte]
  refine ok_ch hP 100 hno okcNone rfl rfl fun v hs' hq => ?_
  obtain ⟨rfl, rfl⟩ := hq
  simp only [x1, go_sem, reduceCtorEq, Nat.reduceEqDiff, Nat.reduceLT, ↓reduceIte]
  refine ok_in hP 100 (by rfl) (by exact call_ev rfl rfl (by simp only [x1, go_sem])) okcBlocks (by rfl) (by exact of_ble rfl) ?_
  simp only [FS.start, ccBlocks, paramsE, x2, x4, go_sem, reduceCtorEq, Nat.reduceEqDiff, Nat.reduceLT, Nat.reduceAdd, ↓reduceIte]
  refine ok_range hP 100 rfl okcBlocksC (by rfl) (by exact of_ble rfl) ?_
  have lt := lt_of_at h1
  have hlen := hx.len
  have h1' := h1
  rw [cmC] at h1'
  simp only [FS.start, ccBlocksC, hd scBlocksCn0.eq_1, paramsE, x2, x3, x4, b2, b3, b4, lt, h1', hx_old, hx_new, eq_self, go_sem, reduceCtorEq, Nat.reduceEqDiff, Nat.reduceLT, Nat.reduceAdd, Nat.reduceSub, Nat.reduceBEq, ↓reduceIte]
  have hcat : ([crestF m, q] : List (List Int)).flatten = crestF m ++ q := by simp
  have hlr : (crestF m).length ≤ m.length := by simp [crestF]
  have lc := lt_of_at h2
  refine ok_dch hP 100 (spConcat _ (H.length + 5) [b, x] [crestF m, q] 27 0 0 (by simp only [go_sem]) ⟨h4.app _, hx.app _, trivial⟩ (by simp) (by rw [hcat]; simp; omega)) okConcat rfl rfl fun v hs' hq => ?_
  rw [hcat] at hq
  rcases hq with ⟨hnil, rfl, rfl⟩ | ⟨o, rfl, hown⟩
  · have hq0 : crestF m = [] ∧ q = [] := by simpa using hnil
    obtain ⟨hr0, rfl⟩ := hq0
    have hm0 : nbF m = 0 := by
      have := congrArg List.length hr0
      simp only [crestF, List.length_drop, nbF, List.length_nil] at this ⊢
      omega
    simp only [hdd dcBlocksCn1.eq_1, go_sem, Nat.reduceLT, ↓reduceIte]
    refine ok_head lcBlocksCn2.eq_1 (vc_ok 100 _ _ ?_)
    simp only [hd tcBlocksCn3.eq_1, hd tcWriten4.eq_1, b3, lt, h1', hx_old, hx_new, hx_sold, hx_snew, List.length_set, eq_self, go_sem, reduceCtorEq, Nat.reduceEqDiff, Nat.reduceLT, Nat.reduceSub, Int.reduceLT, ↓reduceIte]
    refine ⟨hf.symm, ?_⟩
    rw [hQ]
    refine gq_set3 (c := c) (x := cstF k m) (ty := 123) hw lt lc ?_ ?_ rfl ⟨rfl, ⟨c, .nils, ?_, ?_, h3, .inl ⟨rfl, by rw [List.append_nil]; exact hr0⟩⟩, ?_⟩
    · intro u hu hut
      have e1 : (t = u) = False := by simp; omega
      simp only [e1, hu, hx_old, hx_ne, List.length_set, ne_eq, eq_self, not_false_eq_true]
    · simp only [lt, hx_old, hx_eq, List.length_set, eq_self]
    · simp only [List.append_nil, lt, cmC, hx_eq, eq_self]
    · unfold CphAt
      rw [List.getElem?_set_ne (fun h => h3 h.symm)]
      exact h2
    · intro u hu hut
      have e1 : (t = u) = False := by simp; omega
      simp only [e1, hx_ne, ne_eq, eq_self, not_false_eq_true]
  · obtain ⟨cap, L, c1, c2, c3, rfl, rfl⟩ := hown
    simp only [hdd dcBlocksCn1.eq_1, go_sem, Nat.reduceLT, Nat.reduceAdd, ↓reduceIte]
    refine ok_less (env' := [(4, .sl (H.length + 6) 0 ((crestF m ++ q).length - 16 * 0) cap), (1, .ptr (H.length + 1) 0), (0, .yld (H.length + 4))]) ?_ (by simp only [envSub, go_sem, reduceCtorEq, Nat.reduceEqDiff, ↓reduceIte] <;> rfl)
    refine ok_less2 (env' := [(2, .ptr H.length 0)]) ?_ (by simp only [envSub, go_sem, Nat.reduceEqDiff, ↓reduceIte] <;> rfl)
    refine lpCm hP hf hQ hw t c cap k L (crestF m ++ q) (cstF k m) b h4.opq [(10, .fn 76 [.ptr (H.length + 1) 0, .ptr (H.length + 2) 0]), (9, x), (8, .ptr t 0), (7, .bool false), (6, .ptr t 0), (4, .int .i64 0), (2, .ptr H.length 0), (0, .ptr t 0), (1, x)] rfl lt lc h3 h2 ?_
      (nbF (crestF m ++ q)) 0 0 cap _ (by omega) ?_ (by omega) ⟨by simp, ?_, ?_, ?_, ?_, ?_, ?_, ?_⟩
    · intro off cap' hr hcc
      refine ⟨rfl, ⟨c, .sl H.length off ((crestF m ++ q).length - 16 * nbF (crestF m ++ q)) cap', ?_, ?_, h3, .inr ⟨H.length, off, cap', [.run .u8 cap L], 5, 0, 0, ?_, ?_, ?_, ?_⟩⟩, ?_⟩
      · rw [cstF_app]
        simp only [lt, hx_old, hx_eq, List.length_set, eq_self]
      · unfold CphAt
        rw [List.getElem?_append_left (by simp; omega), List.getElem?_set_ne (fun h => h3 h.symm)]
        exact h2
      · rw [crestF_app, List.length_drop]
      · rw [crestF_app, List.length_drop]; exact hcc
      · simp only [hx_new0, List.length_set, eq_self]; rfl
      · rw [crestF_app]; exact hr
      · intro u hu hut
        have e1 : (t = u) = False := by simp; omega
        simp only [e1, hu, hx_old, hx_ne, List.length_set, ne_eq, eq_self, not_false_eq_true]
    · exact rowB_run c2 (by simpa using c1) (by simpa [part] using c3)
    · intro u hu hut
      simp only [hu, hx_old, eq_self]
    · simp only [lt, h1', absC, hx_old, eq_self]
    all_goals simp only [go_sem]
#print axioms spcWrite
end Go.Pv
