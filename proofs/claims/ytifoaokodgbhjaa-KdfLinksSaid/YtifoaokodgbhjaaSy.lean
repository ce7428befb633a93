/- kdf: the four keys. -/
import Derived.Test.YtifoaokodgbhjaaSx
namespace Go.Pv
open Go Go.Proofs
def ckViews : FnC := ⟨4, [(.t 2)], (.seq (.reg [(.mk (some 1) none (.bx 38 (.t 0))), (.mk (some 2) none (.mv (.c .nilf)))]) (.seq (.reg [(.mk (some 3) none (.mkf 44 [(.t 1)])), (.mk (some 2) none (.mv (.t 3)))]) .ret))⟩
theorem okkViews : FnOk Try.prog 33 ckViews := fnOk_mk Try.f33 (by kernel_rfl) (by kernel_rfl) (by kernel_rfl) (by kernel_rfl) (by kernel_rfl)
def dkViewsCn1 : DT := (.one 10 (.mk (some 16) none (.bsl 38 4 [(.int .u32 0), (.int .u32 0), (.int .u16 0), (.int .u16 0), (.int .u32 0), (.int .u32 0), (.int .u32 0), (.int .u32 0), (.int .u16 0), (.int .u16 0), (.int .u32 0), (.int .u32 0), (.int .u32 0), (.int .u32 0), (.int .u16 0), (.int .u16 0), (.int .u32 0), (.int .u32 0), (.int .u32 0), (.int .u32 0), (.int .u16 0), (.int .u16 0), (.int .u32 0), (.int .u32 0)] [(0, (6, (.t 8))), (6, (6, (.t 12))), (12, (6, (.t 13))), (18, (6, (.t 15)))])) [2, 6, 7, 9, 0, 1, 3, 5, 8, 4] (.one 11 (.mk (some 17) none (.len (.t 16))) [] .fin))
def dkViewsCn2 : DT := (.one 9 (.mk (some 15) none (.call (.c (.fn 16 [])) [(.t 14)])) [8, 6, 3, 5, 4, 2, 0, 1] dkViewsCn1)
def dkViewsCn3 : DT := (.one 6 (.mk (some 12) none (.call (.t 9) [(.t 11)])) [3, 5, 4, 2, 0, 1] dkViewsCn2)
def dkViewsCn4 : DT := (.one 5 (.mk (some 11) none (.call (.c (.fn 16 [])) [(.t 10)])) [4, 2, 0, 1] dkViewsCn3)
def lkViewsCn5 : IC := (.seq (.reg [(.mk (some 19) none (.bin .lss (.t 18) (.t 17)))]) (.seq (.cond (.t 19) .skip (.exit 0)) (.seq (.block 1 (.seq (.reg [(.mk (some 20) none (.mv (.t 18))), (.mk (some 21) none (.ias 6 (.t 16) (.t 18))), (.mk (some 22) none (.lda (.t 21) 6)), (.mk (some 5) none (.al 38 [(.int .u32 0), (.int .u32 0), (.int .u16 0), (.int .u16 0), (.int .u32 0), (.int .u32 0)])), (.mk (some 4) none (.mv (.t 20))), (.mk none none (.sta (.t 5) (.t 22) 6))]) (.seq (.reg [(.mk (some 23) none (.mv (.t 0))), (.mk (some 24) none (.mv (.t 4))), (.mk (some 25) none (.lda (.t 5) 6)), (.mk (some 26) none (.call (.t 23) [(.t 24), (.t 25)])), (.mk (some 27) none (.un .not (.t 26)))]) (.cond (.t 27) (.exit 0) .skip)))) (.reg [(.mk (some 28) none (.bin .add (.t 18) (.c (.int .i64 1)))), (.mk (some 18) none (.mv (.t 28)))]))))
def skViewsCn0 : IC := (.seq (.reg [(.mk (some 3) none (.mv (.c (.fn 45 []))))]) (.seq (.label 0) (.seq (.dreg (.tk 0 (.mk (some 6) none (.mv (.t 3))) (.tk 1 (.mk (some 7) none (.lda (.t 1) 6)) (.tk 3 (.mk (some 9) none (.mv (.t 3))) (.tk 4 (.mk (some 10) none (.lda (.t 1) 6)) (.tk 7 (.mk (some 13) none (.lda (.t 1) 6)) (.tk 8 (.mk (some 14) none (.lda (.t 1) 6)) (.tk 12 (.mk (some 18) none (.mv (.c (.int .i64 0)))) (.one 2 (.mk (some 8) none (.call (.t 6) [(.t 7)])) [0, 1] dkViewsCn4))))))))) (.block 0 (.loop lkViewsCn5)))))
def ckViewsC : FnC := ⟨29, [], (.scope skViewsCn0)⟩
theorem okkViewsC : FnOk Try.prog 44 ckViewsC := fnOk_mk Try.f44 (by kernel_rfl) (by kernel_rfl) (by kernel_rfl) (by kernel_rfl) (by kernel_rfl)
def ckViewsCC : FnC := ⟨5, [(.a 2 6)], (.seq (.reg [(.mk (some 1) none (.bx 38 (.t 0))), (.mk (some 2) none (.al 38 [(.int .u32 0), (.int .u32 0), (.int .u16 0), (.int .u16 0), (.int .u32 0), (.int .u32 0)]))]) (.seq (.reg [(.mk (some 3) none (.fa 5 (.t 1))), (.mk none none (.st (.t 3) (.c (.int .u32 0))))]) (.seq (.reg [(.mk (some 4) none (.lda (.t 1) 6)), (.mk none none (.sta (.t 2) (.t 4) 6))]) .ret)))⟩
theorem okkViewsCC : FnOk Try.prog 45 ckViewsCC := fnOk_mk Try.f45 (by kernel_rfl) (by kernel_rfl) (by kernel_rfl) (by kernel_rfl) (by kernel_rfl)
def dkKeysn0 : DT := (.one 5 (.mk (some 17) none (.mv (.t 22))) [] (.tk 6 (.mk (some 23) none (.ext (.t 17) 0)) (.tk 7 (.mk (some 24) none (.ext (.t 17) 1)) (.one 8 (.mk (some 11) none (.mv (.t 23))) [] (.one 9 (.mk (some 12) none (.mv (.t 24))) [] .fin)))))
def dkKeysn1 : DT := (.one 4 (.mk (some 22) none (.call (.c (.fn 25 [])) [(.t 18), (.t 19), (.t 21)])) [0, 1, 3, 2] dkKeysn0)
def akKeysn2 : IC := (.seq (.reg [(.mk (some 9) none (.mv (.t 15)))]) (.reg [(.mk (some 10) none (.al 38 [(.int .u32 0), (.int .u32 0), (.int .u16 0), (.int .u16 0), (.int .u32 0), (.int .u32 0)])), (.mk none none (.sta (.t 10) (.t 16) 6))]))
def bkKeysn3 : IC := (.block 1 (.seq (.dreg (.tk 0 (.mk (some 18) none (.ld (.t 3))) (.tk 1 (.mk (some 19) none (.ld (.t 4))) (.one 2 (.mk (some 20) none (.lda (.t 10) 6)) [] (.one 3 (.mk (some 21) none (.call (.c (.fn 14 [])) [(.t 20)])) [2] dkKeysn1))))) (.seq (.seq (.reg [(.mk (some 25) none (.mv (.t 12))), (.mk (some 26) none (.bin .neq (.t 25) (.c (.int .i64 0))))]) (.cond (.t 26) (.seq (.reg [(.mk (some 27) none (.bld [.nils, .nils, .nils, .nils] [])), (.mk (some 28) none (.mv (.t 12))), (.mk none none (.sta (.t 6) (.t 27) 4)), (.mk none none (.st (.t 7) (.t 28)))]) .ret) .skip)) (.reg [(.mk (some 29) none (.mv (.t 9))), (.mk (some 30) none (.mv (.t 11))), (.mk (some 31) none (.iaa 4 1 (.t 8) (.t 29))), (.mk none none (.st (.t 31) (.t 30)))]))))
def tkKeysn4 : IC := (.seq (.reg [(.mk (some 32) none (.iaa 4 1 (.t 8) (.c (.int .i64 0)))), (.mk (some 33) none (.ld (.t 32))), (.mk (some 34) none (.iaa 4 1 (.t 8) (.c (.int .i64 1)))), (.mk (some 35) none (.ld (.t 34))), (.mk (some 36) none (.iaa 4 1 (.t 8) (.c (.int .i64 2)))), (.mk (some 37) none (.ld (.t 36))), (.mk (some 38) none (.iaa 4 1 (.t 8) (.c (.int .i64 3)))), (.mk (some 39) none (.ld (.t 38))), (.mk (some 40) none (.bld [.nils, .nils, .nils, .nils] [(0, (1, (.t 33))), (1, (1, (.t 35))), (2, (1, (.t 37))), (3, (1, (.t 39)))])), (.mk none none (.sta (.t 6) (.t 40) 4)), (.mk none none (.st (.t 7) (.c (.int .i64 0))))]) .ret)
def ckKeys : FnC := ⟨41, [(.a 6 4), (.c 7)], (.seq (.reg [(.mk (some 3) none (.bx 42 (.t 0))), (.mk (some 4) none (.bx 27 (.t 1))), (.mk (some 5) none (.bx 38 (.t 2))), (.mk (some 6) none (.al 44 [.nils, .nils, .nils, .nils])), (.mk (some 7) none (.al 30 [(.int .i64 0)]))]) (.seq (.reg [(.mk (some 8) none (.al 72 [.nils, .nils, .nils, .nils]))]) (.seq (.seq (.reg [(.mk (some 13) none (.lda (.t 5) 6)), (.mk (some 14) none (.call (.c (.fn 33 [])) [(.t 13)]))]) (.block 0 (.rf (.t 14) [15, 16] akKeysn2 bkKeysn3))) tkKeysn4)))⟩
theorem okkKeys : FnOk Try.prog 18 ckKeys := fnOk_mk Try.f18 (by kernel_rfl) (by kernel_rfl) (by kernel_rfl) (by kernel_rfl) (by kernel_rfl)


theorem spkViewsCC (H : List SO) (a b p q f g : Int) : Spec Try.prog 45 [lnkV a b p q f g] H fun v hs => v = lnkV a b p q f 0 ∧ hs = H := by
  refine spec_h okkViewsCC rfl (of_ble rfl) fun C hP hf hQ h0 hw hbd => ?_
  apply vc_ok 100
  simp only [FS.start, ckViewsCC, paramsE, lnkV, hx_new, hx_new0, hx_snew, hx_snew0, eq_self, go_sem, reduceCtorEq, Nat.reduceEqDiff, Nat.reduceLT, Nat.reduceAdd, Nat.reduceSub, ↓reduceIte]
  exact fin0 hf hQ hw rfl ⟨rfl, rfl⟩

theorem spkViews (H : List SO) (a b p q f g : Int) : Spec Try.prog 33 [lnkV a b p q f g] H fun v hs => v = .fn 44 [.ptr H.length 0] ∧ hs = H ++ [.cells [.int .u32 a, .int .u32 b, .int .u16 p, .int .u16 q, .int .u32 f, .int .u32 g] 38 0 0] := by
  refine spec_h okkViews rfl (of_ble rfl) fun C hP hf hQ h0 hw hbd => ?_
  apply vc_ok 100
  simp only [FS.start, ckViews, paramsE, lnkV, eq_self, go_sem, Nat.reduceEqDiff, Nat.reduceLT, ↓reduceIte]
  refine ⟨hf.symm, ?_⟩
  rw [hQ]
  exact gq_all hw rfl (by simp [bnds, SV.bnd]) ⟨rfl, rfl⟩

theorem keyOk_ctx (alg : Int) (m : List Int) (a b p q f g : Int) : keyOk alg m (ctxF a b p q f g) ↔ keyOk alg m [] := by
  simp [keyOk, ctxF, highB, highD]

theorem spkKeys0 (H : List SO) (alg : Int) (x : SV) (m : List Int) (a b p q f g : Int) (hx : Byt H x m) (hno : ¬ keyOk alg m []) : Spec Try.prog 18 [.int .i64 alg, x, lnkV a b p q f g] H fun v hs => v = .tup [.agg [.nils, .nils, .nils, .nils], .int .i64 2] ∧ hs = H := by
  obtain ⟨x1, x2, x3, x4⟩ := hx.facts
  refine spec_h okkKeys (by simp only [x1, lnkV, go_sem]) (of_ble rfl) fun C hP hf hQ h0 hw hbd => ?_
  apply vc_ok 100
  simp only [FS.start, ckKeys, paramsE, lnkV, x2, x4, hx_new, eq_self, go_sem, reduceCtorEq, Nat.reduceEqDiff, Nat.reduceLT, Nat.reduceAdd, Nat.reduceSub, ↓reduceIte]
  refine ok_ch hP 100 (spkViews _ a b p q f g) okkViews rfl rfl fun v hs' hq => ?_
  obtain ⟨rfl, rfl⟩ := hq
  simp only [go_sem, Nat.reduceLT, Nat.reduceAdd]
  refine ok_range hP 100 rfl okkViewsC (by rfl) (by exact of_ble rfl) ?_
  simp only [FS.start, ckViewsC, hd skViewsCn0.eq_1, paramsE, hx_new, eq_self, go_sem, reduceCtorEq, Nat.reduceEqDiff, Nat.reduceLT, Nat.reduceAdd, Nat.reduceSub, Nat.reduceBEq, ↓reduceIte]
  refine ok_dch hP 100 (spkViewsCC _ a b p q f g) okkViewsCC rfl rfl fun v hs' hq => ?_
  obtain ⟨rfl, rfl⟩ := hq
  simp only [hdd dkViewsCn4.eq_1, lnkV, hx_new, eq_self, go_sem, Nat.reduceEqDiff, Nat.reduceLT, Nat.reduceBEq, ↓reduceIte]
  refine ok_dch hP 100 (spkTurned _ a b p q f g) okkTurned rfl rfl fun v hs' hq => ?_
  obtain ⟨rfl, rfl⟩ := hq
  simp only [hdd dkViewsCn3.eq_1, lnkV, hx_new, eq_self, go_sem, Nat.reduceEqDiff, Nat.reduceLT, Nat.reduceBEq, ↓reduceIte]
  refine ok_dch hP 100 (spkViewsCC _ b a q p g f) okkViewsCC rfl rfl fun v hs' hq => ?_
  obtain ⟨rfl, rfl⟩ := hq
  simp only [hdd dkViewsCn2.eq_1, lnkV, hx_new, eq_self, go_sem, Nat.reduceEqDiff, Nat.reduceLT, Nat.reduceBEq, ↓reduceIte]
  refine ok_dch hP 100 (spkTurned _ a b p q f g) okkTurned rfl rfl fun v hs' hq => ?_
  obtain ⟨rfl, rfl⟩ := hq
  simp only [hdd dkViewsCn1.eq_1, lnkV, hx_new, eq_self, go_sem, reduceCtorEq, Nat.reduceEqDiff, Nat.reduceLT, Nat.reduceAdd, Nat.reduceSub, Nat.reduceBEq, ↓reduceIte]
  refine ok_less (env' := [(17, .int .i64 4), (16, .sl (H.length + 9) 0 4 4), (18, .int .i64 0), (0, .yld (H.length + 8))]) ?_ (by simp only [envSub, go_sem, reduceCtorEq, Nat.reduceEqDiff, ↓reduceIte] <;> rfl)
  refine ok_less2 (env' := [(6, .ptr (H.length + 3) 0), (7, .ptr (H.length + 4) 0), (8, .ptr (H.length + 5) 0)]) ?_ (by simp only [envSub, go_sem, Nat.reduceEqDiff, ↓reduceIte] <;> rfl)
  refine ok_head lkViewsCn5.eq_1 (vc_ok 100 _ _ ?_)
  simp only [hd akKeysn2.eq_1, hd bkKeysn3.eq_1, x3, hx_new, hx_new0, hx_snew, eq_self, go_sem, reduceCtorEq, Nat.reduceEqDiff, Nat.reduceLT, Nat.reduceAdd, Nat.reduceSub, Nat.reduceBEq, Int.reduceToNat, Int.reduceLT, Int.reduceLE, ↓reduceIte]
  refine ok_dch hP 100 (spkContext _ a b p q f 0) okkContext rfl rfl fun v hs' hq => ?_
  obtain ⟨o, rfl, hown⟩ := hq
  have y1 := hown.one
  have y2 := hown.c1
  simp only [hdd dkKeysn1.eq_1, y1, x1, hx_new, hx_new0, eq_self, go_sem, Nat.reduceEqDiff, Nat.reduceLT, Nat.reduceBEq, ↓reduceIte]
  refine ok_dch hP 100 (spkKey0 _ alg x v m (ctxF a b p q f 0) (hx.app _) (hown.byt (by simp only [go_sem, Nat.reduceAdd])) (fun h => hno ((keyOk_ctx ..).1 h))) okkKey rfl (call_ev rfl rfl (by simp only [x1, y1, go_sem])) fun v2 hs' hq => ?_
  obtain ⟨rfl, rfl⟩ := hq
  have w2 : ((2 : Int) != 0) = true := rfl
  simp only [hdd dkKeysn0.eq_1, w2, hx_new, hx_snew, eq_self, go_sem, reduceCtorEq, Nat.reduceEqDiff, Nat.reduceLT, Nat.reduceAdd, Nat.reduceSub, Nat.reduceBEq, ↓reduceIte]
  exact fin0 hf hQ hw rfl ⟨rfl, rfl⟩
theorem OwnG.facts {t : Nat} {l : List Int} {x : SV} {o : SO} (h : OwnG t l x o) : x.one = true ∧ x.c1 = true ∧ (∀ k n l, (x = .run k n l) = False) ∧ ∀ l, (x = .agg l) = False := by
  obtain ⟨cap, L, ty, h1, h2, h3, rfl, rfl⟩ := h
  exact ⟨rfl, rfl, fun _ _ _ => by simp, fun _ => by simp⟩


theorem OwnG.opq {t : Nat} {l : List Int} {x : SV} {o : SO} (h : OwnG t l x o) : Opq x := by
  obtain ⟨a, b, c, d⟩ := h.facts
  exact ⟨a, b, c, d⟩

/-- The links of the four keys. -/
def lnk4 (a b p q f g : Int) : List SV := [.int .u32 a, .int .u32 b, .int .u16 p, .int .u16 q, .int .u32 f, .int .u32 0, .int .u32 b, .int .u32 a, .int .u16 q, .int .u16 p, .int .u32 g, .int .u32 0, .int .u32 a, .int .u32 b, .int .u16 p, .int .u16 q, .int .u32 f, .int .u32 g, .int .u32 b, .int .u32 a, .int .u16 q, .int .u16 p, .int .u32 g, .int .u32 f]
structure KI (H : List SO) (alg : Int) (x : SV) (a b p q f g : Int) (envL : Env) (ks : List SV) (Hd : List SO) : Prop where
  len : H.length + 10 ≤ Hd.length
  old : ∀ u, u < H.length → Hd[u]? = H[u]?
  f0 : Hd[H.length]? = some (.cells [.int .i64 alg] 42 0 0)
  f1 : Hd[H.length + 1]? = some (.cells [x] 27 0 0)
  f3 : Hd[H.length + 3]? = some (.cells [.nils, .nils, .nils, .nils] 44 0 0)
  f4 : Hd[H.length + 4]? = some (.cells [.int .i64 0] 30 0 0)
  f5 : Hd[H.length + 5]? = some (.cells ks 72 0 0)
  f7 : Hd[H.length + 7]? = some (.defd true)
  f8 : Hd[H.length + 8]? = some (.loop .ready none 18 envL 41 [15, 16] akKeysn2 bkKeysn3 (H.length + 7))
  f9 : Hd[H.length + 9]? = some (.cells (lnk4 a b p q f g) 38 0 0)
/-- Ahead of the `i`th key. -/
def fK (M : Nat) (i : Int) : List FS :=
  [⟨44, none, 29, [], [(17, .int .i64 4), (16, .sl (M + 9) 0 4 4), (18, .int .i64 i), (0, .yld (M + 8))], [.c lkViewsCn5, .lp lkViewsCn5, .blk 0, .sc skViewsCn0], []⟩,
   ⟨18, none, 41, [.a 6 4, .c 7], [(6, .ptr (M + 3) 0), (7, .ptr (M + 4) 0), (8, .ptr (M + 5) 0)], [.irf (M + 8), .blk 0, .c tkKeysn4], [M + 7]⟩]
def envK (M : Nat) (envL : Env) : Prop := lk envL 3 = some (.ptr M 0) ∧ lk envL 4 = some (.ptr (M + 1) 0) ∧ lk envL 6 = some (.ptr (M + 3) 0) ∧ lk envL 7 = some (.ptr (M + 4) 0) ∧ lk envL 8 = some (.ptr (M + 5) 0)

theorem kIt0 {C : Ctx} (hP : C.P = Try.prog) {H Hd : List SO} {alg : Int} {x : SV} {m : List Int} {a b p q f g : Int} {envL : Env} (hE : envK H.length envL) (hx : Byt H x m) (hr : Rng m) (hk : keyOk alg m []) {k0 k1 k2 k3 : SV} (h0 : Opq k0) (h1 : Opq k1) (h2 : Opq k2) (h3 : Opq k3) (I : KI H alg x a b p q f g envL [k0, k1, k2, k3] Hd)
    (K : ∀ He y o j, Hd.length ≤ j → He[j]? = some o → OwnG j (keyF alg m (ctxF a b p q f 0)) y o → KI H alg x a b p q f g envL [y, k1, k2, k3] He → (∀ u, H.length + 10 ≤ u → u < Hd.length → He[u]? = Hd[u]?) → Ok C (fK H.length 1) He) : Ok C (fK H.length 0) Hd := by
  obtain ⟨x1, x2, x3, x4⟩ := hx.facts
  obtain ⟨E3, E4, E6, E7, E8⟩ := hE
  obtain ⟨h01, h02, h03, h04⟩ := h0
  obtain ⟨h11, h12, h13, h14⟩ := h1
  obtain ⟨h21, h22, h23, h24⟩ := h2
  obtain ⟨h31, h32, h33, h34⟩ := h3
  have f0 := I.f0
  have l0 := lt_of_at f0
  have f1 := I.f1
  have l1 := lt_of_at f1
  have f3 := I.f3
  have l3 := lt_of_at f3
  have f4 := I.f4
  have l4 := lt_of_at f4
  have f5 := I.f5
  have l5 := lt_of_at f5
  have f7 := I.f7
  have l7 := lt_of_at f7
  have f8 := I.f8
  have l8 := lt_of_at f8
  have f9 := I.f9
  have l9 := lt_of_at f9
  have hlen := I.len
  have n80 : (H.length + 8 = H.length) = False := by simp
  have n81 : (H.length + 8 = H.length + 1) = False := by simp
  have n85 : (H.length + 8 = H.length + 5) = False := by simp
  have n58 : (H.length + 5 = H.length + 8) = False := by simp
  have w0 : ((0 : Int) != 0) = false := rfl
  have w1 : IntKind.i64.wrap (0 + 1) = 1 := rfl
  unfold fK
  refine ok_head lkViewsCn5.eq_1 (vc_ok 100 _ _ ?_)
  simp only [hd akKeysn2.eq_1, hd bkKeysn3.eq_1, lnk4, f0, f1, f8, f9, l0, l1, l8, n80, n81, E3, E4, x3, hx_old, hx_new, hx_new0, hx_sold, hx_snew, hx_snew0, hx_ne, List.length_set, ne_eq, eq_self, not_false_eq_true, go_sem, reduceCtorEq, Nat.reduceEqDiff, Nat.reduceLT, Nat.reduceAdd, Nat.reduceSub, Nat.reduceBEq, Int.reduceToNat, Int.reduceLT, Int.reduceLE, ↓reduceIte]
  refine ok_dch hP 100 (spkContext _ a b p q f 0) okkContext rfl rfl fun v hs' hq => ?_
  obtain ⟨cc, rfl, hc⟩ := hq
  obtain ⟨d1, d2, d3, d4⟩ := hc.facts
  refine ⟨by simp only [f0, f1, l0, l1, n80, n81, hx_old, hx_ne, List.length_set, ne_eq, eq_self, not_false_eq_true, go_sem, Nat.reduceBEq, ↓reduceIte], ?_⟩
  simp only [hdd dkKeysn1.eq_1, d1, x1, eq_self, go_sem, Nat.reduceEqDiff, Nat.reduceLT, Nat.reduceBEq, ↓reduceIte]
  have hold : ∀ (l : List SO) (o : SO) (u : Nat), u < H.length → (Hd.set (H.length + 8) o ++ l)[u]? = H[u]? := fun l o u hu => by
    rw [List.getElem?_append_left (by simp; omega), List.getElem?_set_ne (by omega)]
    exact I.old u hu
  refine ok_dch hP 100 (spkKey _ alg x v m (ctxF a b p q f 0) (hx.keep (hold _ _)) (hc.byt (by simp only [hx_new, List.length_set, eq_self, go_sem, Nat.reduceAdd])) hr ((keyOk_ctx ..).2 hk)) okkKey rfl (call_ev rfl rfl (by simp only [x1, d1, go_sem])) fun u2 hs' hq => ?_
  obtain ⟨y, o, rfl, rfl, hy⟩ := hq
  obtain ⟨e1, e2, e3, e4⟩ := hy.facts
  refine ⟨trivial, ?_⟩
  simp only [hdd dkKeysn0.eq_1, w0, w1, f5, l5, l8, n85, n58, E8, e1, e2, h03, Bool.false_eq_true, hx_old, hx_sold, hx_ne, hx_eq, List.length_set, ne_eq, eq_self, not_false_eq_true, go_sem, Nat.reduceEqDiff, Nat.reduceLT, Nat.reduceBEq, Int.reduceToNat, Int.reduceLT, Int.reduceLE, ↓reduceIte]
  have hu : ∀ (o1 o2 o3 : SO) (l : List SO) (u : Nat), u < Hd.length → u ≠ H.length + 5 → u ≠ H.length + 8 → (((Hd.set (H.length + 8) o1).set (H.length + 5) o2).set (H.length + 8) o3 ++ l)[u]? = Hd[u]? := fun o1 o2 o3 l u h1 h2 h3 => by
    rw [List.getElem?_append_left (by simp; omega), List.getElem?_set_ne (by omega), List.getElem?_set_ne (by omega), List.getElem?_set_ne (by omega)]
  simp only [List.length_set, go_sem, Nat.reduceAdd] at hy
  refine ok_less (env' := [(17, .int .i64 4), (16, .sl (H.length + 9) 0 4 4), (18, .int .i64 1), (0, .yld (H.length + 8))]) (K _ y o (Hd.length + 3) (by omega) (by simp only [hx_new, List.length_set, eq_self, go_sem]) hy ⟨by simp; omega, fun u h => ?_, ?_, ?_, ?_, ?_, ?_, ?_, ?_, ?_⟩ fun u h1 h2 => hu _ _ _ _ u h2 (by omega) (by omega)) (by simp only [envSub, go_sem, reduceCtorEq, Nat.reduceEqDiff, ↓reduceIte] <;> rfl)
  · rw [hu _ _ _ _ u (by omega) (by omega) (by omega)]; exact I.old u h
  · rw [hu _ _ _ _ _ (by omega) (by omega) (by omega)]; exact f0
  · rw [hu _ _ _ _ _ (by omega) (by omega) (by omega)]; exact f1
  · rw [hu _ _ _ _ _ (by omega) (by omega) (by omega)]; exact f3
  · rw [hu _ _ _ _ _ (by omega) (by omega) (by omega)]; exact f4
  · rw [List.getElem?_append_left (by simp; omega), List.getElem?_set_ne (by omega), List.getElem?_set_self (by simp; omega)]
  · rw [hu _ _ _ _ _ (by omega) (by omega) (by omega)]; exact f7
  · rw [List.getElem?_append_left (by simp; omega), List.getElem?_set_self (by simp; omega)]
  · rw [hu _ _ _ _ _ (by omega) (by omega) (by omega)]; exact f9

theorem kIt1 {C : Ctx} (hP : C.P = Try.prog) {H Hd : List SO} {alg : Int} {x : SV} {m : List Int} {a b p q f g : Int} {envL : Env} (hE : envK H.length envL) (hx : Byt H x m) (hr : Rng m) (hk : keyOk alg m []) {k0 k1 k2 k3 : SV} (h0 : Opq k0) (h1 : Opq k1) (h2 : Opq k2) (h3 : Opq k3) (I : KI H alg x a b p q f g envL [k0, k1, k2, k3] Hd)
    (K : ∀ He y o j, Hd.length ≤ j → He[j]? = some o → OwnG j (keyF alg m (ctxF b a q p g 0)) y o → KI H alg x a b p q f g envL [k0, y, k2, k3] He → (∀ u, H.length + 10 ≤ u → u < Hd.length → He[u]? = Hd[u]?) → Ok C (fK H.length 2) He) : Ok C (fK H.length 1) Hd := by
  obtain ⟨x1, x2, x3, x4⟩ := hx.facts
  obtain ⟨E3, E4, E6, E7, E8⟩ := hE
  obtain ⟨h01, h02, h03, h04⟩ := h0
  obtain ⟨h11, h12, h13, h14⟩ := h1
  obtain ⟨h21, h22, h23, h24⟩ := h2
  obtain ⟨h31, h32, h33, h34⟩ := h3
  have f0 := I.f0
  have l0 := lt_of_at f0
  have f1 := I.f1
  have l1 := lt_of_at f1
  have f3 := I.f3
  have l3 := lt_of_at f3
  have f4 := I.f4
  have l4 := lt_of_at f4
  have f5 := I.f5
  have l5 := lt_of_at f5
  have f7 := I.f7
  have l7 := lt_of_at f7
  have f8 := I.f8
  have l8 := lt_of_at f8
  have f9 := I.f9
  have l9 := lt_of_at f9
  have hlen := I.len
  have n80 : (H.length + 8 = H.length) = False := by simp
  have n81 : (H.length + 8 = H.length + 1) = False := by simp
  have n85 : (H.length + 8 = H.length + 5) = False := by simp
  have n58 : (H.length + 5 = H.length + 8) = False := by simp
  have w0 : ((0 : Int) != 0) = false := rfl
  have w1 : IntKind.i64.wrap (1 + 1) = 2 := rfl
  unfold fK
  refine ok_head lkViewsCn5.eq_1 (vc_ok 100 _ _ ?_)
  simp only [hd akKeysn2.eq_1, hd bkKeysn3.eq_1, lnk4, f0, f1, f8, f9, l0, l1, l8, n80, n81, E3, E4, x3, hx_old, hx_new, hx_new0, hx_sold, hx_snew, hx_snew0, hx_ne, List.length_set, ne_eq, eq_self, not_false_eq_true, go_sem, reduceCtorEq, Nat.reduceEqDiff, Nat.reduceLT, Nat.reduceAdd, Nat.reduceSub, Nat.reduceBEq, Int.reduceToNat, Int.reduceLT, Int.reduceLE, ↓reduceIte]
  refine ok_dch hP 100 (spkContext _ b a q p g 0) okkContext rfl rfl fun v hs' hq => ?_
  obtain ⟨cc, rfl, hc⟩ := hq
  obtain ⟨d1, d2, d3, d4⟩ := hc.facts
  refine ⟨by simp only [f0, f1, l0, l1, n80, n81, hx_old, hx_ne, List.length_set, ne_eq, eq_self, not_false_eq_true, go_sem, Nat.reduceBEq, ↓reduceIte], ?_⟩
  simp only [hdd dkKeysn1.eq_1, d1, x1, eq_self, go_sem, Nat.reduceEqDiff, Nat.reduceLT, Nat.reduceBEq, ↓reduceIte]
  have hold : ∀ (l : List SO) (o : SO) (u : Nat), u < H.length → (Hd.set (H.length + 8) o ++ l)[u]? = H[u]? := fun l o u hu => by
    rw [List.getElem?_append_left (by simp; omega), List.getElem?_set_ne (by omega)]
    exact I.old u hu
  refine ok_dch hP 100 (spkKey _ alg x v m (ctxF b a q p g 0) (hx.keep (hold _ _)) (hc.byt (by simp only [hx_new, List.length_set, eq_self, go_sem, Nat.reduceAdd])) hr ((keyOk_ctx ..).2 hk)) okkKey rfl (call_ev rfl rfl (by simp only [x1, d1, go_sem])) fun u2 hs' hq => ?_
  obtain ⟨y, o, rfl, rfl, hy⟩ := hq
  obtain ⟨e1, e2, e3, e4⟩ := hy.facts
  refine ⟨trivial, ?_⟩
  simp only [hdd dkKeysn0.eq_1, w0, w1, f5, l5, l8, n85, n58, E8, e1, e2, h03, h13, Bool.false_eq_true, hx_old, hx_sold, hx_ne, hx_eq, List.length_set, ne_eq, eq_self, not_false_eq_true, go_sem, Nat.reduceEqDiff, Nat.reduceLT, Nat.reduceBEq, Int.reduceToNat, Int.reduceLT, Int.reduceLE, ↓reduceIte]
  have hu : ∀ (o1 o2 o3 : SO) (l : List SO) (u : Nat), u < Hd.length → u ≠ H.length + 5 → u ≠ H.length + 8 → (((Hd.set (H.length + 8) o1).set (H.length + 5) o2).set (H.length + 8) o3 ++ l)[u]? = Hd[u]? := fun o1 o2 o3 l u h1 h2 h3 => by
    rw [List.getElem?_append_left (by simp; omega), List.getElem?_set_ne (by omega), List.getElem?_set_ne (by omega), List.getElem?_set_ne (by omega)]
  simp only [List.length_set, go_sem, Nat.reduceAdd] at hy
  refine ok_less (env' := [(17, .int .i64 4), (16, .sl (H.length + 9) 0 4 4), (18, .int .i64 2), (0, .yld (H.length + 8))]) (K _ y o (Hd.length + 3) (by omega) (by simp only [hx_new, List.length_set, eq_self, go_sem]) hy ⟨by simp; omega, fun u h => ?_, ?_, ?_, ?_, ?_, ?_, ?_, ?_, ?_⟩ fun u h1 h2 => hu _ _ _ _ u h2 (by omega) (by omega)) (by simp only [envSub, go_sem, reduceCtorEq, Nat.reduceEqDiff, ↓reduceIte] <;> rfl)
  · rw [hu _ _ _ _ u (by omega) (by omega) (by omega)]; exact I.old u h
  · rw [hu _ _ _ _ _ (by omega) (by omega) (by omega)]; exact f0
  · rw [hu _ _ _ _ _ (by omega) (by omega) (by omega)]; exact f1
  · rw [hu _ _ _ _ _ (by omega) (by omega) (by omega)]; exact f3
  · rw [hu _ _ _ _ _ (by omega) (by omega) (by omega)]; exact f4
  · rw [List.getElem?_append_left (by simp; omega), List.getElem?_set_ne (by omega), List.getElem?_set_self (by simp; omega)]
  · rw [hu _ _ _ _ _ (by omega) (by omega) (by omega)]; exact f7
  · rw [List.getElem?_append_left (by simp; omega), List.getElem?_set_self (by simp; omega)]
  · rw [hu _ _ _ _ _ (by omega) (by omega) (by omega)]; exact f9

theorem kIt2 {C : Ctx} (hP : C.P = Try.prog) {H Hd : List SO} {alg : Int} {x : SV} {m : List Int} {a b p q f g : Int} {envL : Env} (hE : envK H.length envL) (hx : Byt H x m) (hr : Rng m) (hk : keyOk alg m []) {k0 k1 k2 k3 : SV} (h0 : Opq k0) (h1 : Opq k1) (h2 : Opq k2) (h3 : Opq k3) (I : KI H alg x a b p q f g envL [k0, k1, k2, k3] Hd)
    (K : ∀ He y o j, Hd.length ≤ j → He[j]? = some o → OwnG j (keyF alg m (ctxF a b p q f g)) y o → KI H alg x a b p q f g envL [k0, k1, y, k3] He → (∀ u, H.length + 10 ≤ u → u < Hd.length → He[u]? = Hd[u]?) → Ok C (fK H.length 3) He) : Ok C (fK H.length 2) Hd := by
  obtain ⟨x1, x2, x3, x4⟩ := hx.facts
  obtain ⟨E3, E4, E6, E7, E8⟩ := hE
  obtain ⟨h01, h02, h03, h04⟩ := h0
  obtain ⟨h11, h12, h13, h14⟩ := h1
  obtain ⟨h21, h22, h23, h24⟩ := h2
  obtain ⟨h31, h32, h33, h34⟩ := h3
  have f0 := I.f0
  have l0 := lt_of_at f0
  have f1 := I.f1
  have l1 := lt_of_at f1
  have f3 := I.f3
  have l3 := lt_of_at f3
  have f4 := I.f4
  have l4 := lt_of_at f4
  have f5 := I.f5
  have l5 := lt_of_at f5
  have f7 := I.f7
  have l7 := lt_of_at f7
  have f8 := I.f8
  have l8 := lt_of_at f8
  have f9 := I.f9
  have l9 := lt_of_at f9
  have hlen := I.len
  have n80 : (H.length + 8 = H.length) = False := by simp
  have n81 : (H.length + 8 = H.length + 1) = False := by simp
  have n85 : (H.length + 8 = H.length + 5) = False := by simp
  have n58 : (H.length + 5 = H.length + 8) = False := by simp
  have w0 : ((0 : Int) != 0) = false := rfl
  have w1 : IntKind.i64.wrap (2 + 1) = 3 := rfl
  unfold fK
  refine ok_head lkViewsCn5.eq_1 (vc_ok 100 _ _ ?_)
  simp only [hd akKeysn2.eq_1, hd bkKeysn3.eq_1, lnk4, f0, f1, f8, f9, l0, l1, l8, n80, n81, E3, E4, x3, hx_old, hx_new, hx_new0, hx_sold, hx_snew, hx_snew0, hx_ne, List.length_set, ne_eq, eq_self, not_false_eq_true, go_sem, reduceCtorEq, Nat.reduceEqDiff, Nat.reduceLT, Nat.reduceAdd, Nat.reduceSub, Nat.reduceMul, Nat.reduceBEq, Int.reduceToNat, Int.reduceLT, Int.reduceLE, ↓reduceIte]
  refine ok_dch hP 100 (spkContext _ a b p q f g) okkContext rfl rfl fun v hs' hq => ?_
  obtain ⟨cc, rfl, hc⟩ := hq
  obtain ⟨d1, d2, d3, d4⟩ := hc.facts
  refine ⟨by simp only [f0, f1, l0, l1, n80, n81, hx_old, hx_ne, List.length_set, ne_eq, eq_self, not_false_eq_true, go_sem, Nat.reduceBEq, ↓reduceIte], ?_⟩
  simp only [hdd dkKeysn1.eq_1, d1, x1, eq_self, go_sem, Nat.reduceEqDiff, Nat.reduceLT, Nat.reduceBEq, ↓reduceIte]
  have hold : ∀ (l : List SO) (o : SO) (u : Nat), u < H.length → (Hd.set (H.length + 8) o ++ l)[u]? = H[u]? := fun l o u hu => by
    rw [List.getElem?_append_left (by simp; omega), List.getElem?_set_ne (by omega)]
    exact I.old u hu
  refine ok_dch hP 100 (spkKey _ alg x v m (ctxF a b p q f g) (hx.keep (hold _ _)) (hc.byt (by simp only [hx_new, List.length_set, eq_self, go_sem, Nat.reduceAdd])) hr ((keyOk_ctx ..).2 hk)) okkKey rfl (call_ev rfl rfl (by simp only [x1, d1, go_sem])) fun u2 hs' hq => ?_
  obtain ⟨y, o, rfl, rfl, hy⟩ := hq
  obtain ⟨e1, e2, e3, e4⟩ := hy.facts
  refine ⟨trivial, ?_⟩
  simp only [hdd dkKeysn0.eq_1, w0, w1, f5, l5, l8, n85, n58, E8, e1, e2, h03, h13, h23, Bool.false_eq_true, hx_old, hx_sold, hx_ne, hx_eq, List.length_set, ne_eq, eq_self, not_false_eq_true, go_sem, Nat.reduceEqDiff, Nat.reduceLT, Nat.reduceBEq, Int.reduceToNat, Int.reduceLT, Int.reduceLE, ↓reduceIte]
  have hu : ∀ (o1 o2 o3 : SO) (l : List SO) (u : Nat), u < Hd.length → u ≠ H.length + 5 → u ≠ H.length + 8 → (((Hd.set (H.length + 8) o1).set (H.length + 5) o2).set (H.length + 8) o3 ++ l)[u]? = Hd[u]? := fun o1 o2 o3 l u h1 h2 h3 => by
    rw [List.getElem?_append_left (by simp; omega), List.getElem?_set_ne (by omega), List.getElem?_set_ne (by omega), List.getElem?_set_ne (by omega)]
  simp only [List.length_set, go_sem, Nat.reduceAdd] at hy
  refine ok_less (env' := [(17, .int .i64 4), (16, .sl (H.length + 9) 0 4 4), (18, .int .i64 3), (0, .yld (H.length + 8))]) (K _ y o (Hd.length + 3) (by omega) (by simp only [hx_new, List.length_set, eq_self, go_sem]) hy ⟨by simp; omega, fun u h => ?_, ?_, ?_, ?_, ?_, ?_, ?_, ?_, ?_⟩ fun u h1 h2 => hu _ _ _ _ u h2 (by omega) (by omega)) (by simp only [envSub, go_sem, reduceCtorEq, Nat.reduceEqDiff, ↓reduceIte] <;> rfl)
  · rw [hu _ _ _ _ u (by omega) (by omega) (by omega)]; exact I.old u h
  · rw [hu _ _ _ _ _ (by omega) (by omega) (by omega)]; exact f0
  · rw [hu _ _ _ _ _ (by omega) (by omega) (by omega)]; exact f1
  · rw [hu _ _ _ _ _ (by omega) (by omega) (by omega)]; exact f3
  · rw [hu _ _ _ _ _ (by omega) (by omega) (by omega)]; exact f4
  · rw [List.getElem?_append_left (by simp; omega), List.getElem?_set_ne (by omega), List.getElem?_set_self (by simp; omega)]
  · rw [hu _ _ _ _ _ (by omega) (by omega) (by omega)]; exact f7
  · rw [List.getElem?_append_left (by simp; omega), List.getElem?_set_self (by simp; omega)]
  · rw [hu _ _ _ _ _ (by omega) (by omega) (by omega)]; exact f9

theorem kIt3 {C : Ctx} (hP : C.P = Try.prog) {H Hd : List SO} {alg : Int} {x : SV} {m : List Int} {a b p q f g : Int} {envL : Env} (hE : envK H.length envL) (hx : Byt H x m) (hr : Rng m) (hk : keyOk alg m []) {k0 k1 k2 k3 : SV} (h0 : Opq k0) (h1 : Opq k1) (h2 : Opq k2) (h3 : Opq k3) (I : KI H alg x a b p q f g envL [k0, k1, k2, k3] Hd)
    (K : ∀ He y o j, Hd.length ≤ j → He[j]? = some o → OwnG j (keyF alg m (ctxF b a q p g f)) y o → KI H alg x a b p q f g envL [k0, k1, k2, y] He → (∀ u, H.length + 10 ≤ u → u < Hd.length → He[u]? = Hd[u]?) → Ok C (fK H.length 4) He) : Ok C (fK H.length 3) Hd := by
  obtain ⟨x1, x2, x3, x4⟩ := hx.facts
  obtain ⟨E3, E4, E6, E7, E8⟩ := hE
  obtain ⟨h01, h02, h03, h04⟩ := h0
  obtain ⟨h11, h12, h13, h14⟩ := h1
  obtain ⟨h21, h22, h23, h24⟩ := h2
  obtain ⟨h31, h32, h33, h34⟩ := h3
  have f0 := I.f0
  have l0 := lt_of_at f0
  have f1 := I.f1
  have l1 := lt_of_at f1
  have f3 := I.f3
  have l3 := lt_of_at f3
  have f4 := I.f4
  have l4 := lt_of_at f4
  have f5 := I.f5
  have l5 := lt_of_at f5
  have f7 := I.f7
  have l7 := lt_of_at f7
  have f8 := I.f8
  have l8 := lt_of_at f8
  have f9 := I.f9
  have l9 := lt_of_at f9
  have hlen := I.len
  have n80 : (H.length + 8 = H.length) = False := by simp
  have n81 : (H.length + 8 = H.length + 1) = False := by simp
  have n85 : (H.length + 8 = H.length + 5) = False := by simp
  have n58 : (H.length + 5 = H.length + 8) = False := by simp
  have w0 : ((0 : Int) != 0) = false := rfl
  have w1 : IntKind.i64.wrap (3 + 1) = 4 := rfl
  unfold fK
  refine ok_head lkViewsCn5.eq_1 (vc_ok 100 _ _ ?_)
  simp only [hd akKeysn2.eq_1, hd bkKeysn3.eq_1, lnk4, f0, f1, f8, f9, l0, l1, l8, n80, n81, E3, E4, x3, hx_old, hx_new, hx_new0, hx_sold, hx_snew, hx_snew0, hx_ne, List.length_set, ne_eq, eq_self, not_false_eq_true, go_sem, reduceCtorEq, Nat.reduceEqDiff, Nat.reduceLT, Nat.reduceAdd, Nat.reduceSub, Nat.reduceMul, Nat.reduceBEq, Int.reduceToNat, Int.reduceLT, Int.reduceLE, ↓reduceIte]
  refine ok_dch hP 100 (spkContext _ b a q p g f) okkContext rfl rfl fun v hs' hq => ?_
  obtain ⟨cc, rfl, hc⟩ := hq
  obtain ⟨d1, d2, d3, d4⟩ := hc.facts
  refine ⟨by simp only [f0, f1, l0, l1, n80, n81, hx_old, hx_ne, List.length_set, ne_eq, eq_self, not_false_eq_true, go_sem, Nat.reduceBEq, ↓reduceIte], ?_⟩
  simp only [hdd dkKeysn1.eq_1, d1, x1, eq_self, go_sem, Nat.reduceEqDiff, Nat.reduceLT, Nat.reduceBEq, ↓reduceIte]
  have hold : ∀ (l : List SO) (o : SO) (u : Nat), u < H.length → (Hd.set (H.length + 8) o ++ l)[u]? = H[u]? := fun l o u hu => by
    rw [List.getElem?_append_left (by simp; omega), List.getElem?_set_ne (by omega)]
    exact I.old u hu
  refine ok_dch hP 100 (spkKey _ alg x v m (ctxF b a q p g f) (hx.keep (hold _ _)) (hc.byt (by simp only [hx_new, List.length_set, eq_self, go_sem, Nat.reduceAdd])) hr ((keyOk_ctx ..).2 hk)) okkKey rfl (call_ev rfl rfl (by simp only [x1, d1, go_sem])) fun u2 hs' hq => ?_
  obtain ⟨y, o, rfl, rfl, hy⟩ := hq
  obtain ⟨e1, e2, e3, e4⟩ := hy.facts
  refine ⟨trivial, ?_⟩
  simp only [hdd dkKeysn0.eq_1, w0, w1, f5, l5, l8, n85, n58, E8, e1, e2, h03, h13, h23, h33, Bool.false_eq_true, hx_old, hx_sold, hx_ne, hx_eq, List.length_set, ne_eq, eq_self, not_false_eq_true, go_sem, Nat.reduceEqDiff, Nat.reduceLT, Nat.reduceBEq, Int.reduceToNat, Int.reduceLT, Int.reduceLE, ↓reduceIte]
  have hu : ∀ (o1 o2 o3 : SO) (l : List SO) (u : Nat), u < Hd.length → u ≠ H.length + 5 → u ≠ H.length + 8 → (((Hd.set (H.length + 8) o1).set (H.length + 5) o2).set (H.length + 8) o3 ++ l)[u]? = Hd[u]? := fun o1 o2 o3 l u h1 h2 h3 => by
    rw [List.getElem?_append_left (by simp; omega), List.getElem?_set_ne (by omega), List.getElem?_set_ne (by omega), List.getElem?_set_ne (by omega)]
  simp only [List.length_set, go_sem, Nat.reduceAdd] at hy
  refine ok_less (env' := [(17, .int .i64 4), (16, .sl (H.length + 9) 0 4 4), (18, .int .i64 4), (0, .yld (H.length + 8))]) (K _ y o (Hd.length + 3) (by omega) (by simp only [hx_new, List.length_set, eq_self, go_sem]) hy ⟨by simp; omega, fun u h => ?_, ?_, ?_, ?_, ?_, ?_, ?_, ?_, ?_⟩ fun u h1 h2 => hu _ _ _ _ u h2 (by omega) (by omega)) (by simp only [envSub, go_sem, reduceCtorEq, Nat.reduceEqDiff, ↓reduceIte] <;> rfl)
  · rw [hu _ _ _ _ u (by omega) (by omega) (by omega)]; exact I.old u h
  · rw [hu _ _ _ _ _ (by omega) (by omega) (by omega)]; exact f0
  · rw [hu _ _ _ _ _ (by omega) (by omega) (by omega)]; exact f1
  · rw [hu _ _ _ _ _ (by omega) (by omega) (by omega)]; exact f3
  · rw [hu _ _ _ _ _ (by omega) (by omega) (by omega)]; exact f4
  · rw [List.getElem?_append_left (by simp; omega), List.getElem?_set_ne (by omega), List.getElem?_set_self (by simp; omega)]
  · rw [hu _ _ _ _ _ (by omega) (by omega) (by omega)]; exact f7
  · rw [List.getElem?_append_left (by simp; omega), List.getElem?_set_self (by simp; omega)]
  · rw [hu _ _ _ _ _ (by omega) (by omega) (by omega)]; exact f9

theorem gq_four {H hs : List SO} {Q : SV → List SO → Prop} {v0 v1 v2 v3 : SV} {j0 j1 j2 j3 : Nat} {l0 l1 l2 l3 : List Int} {o0 o1 o2 o3 : SO} (hw : Wf H) (hk : ∀ u, u < H.length → hs[u]? = H[u]?) (h0 : H.length ≤ j0) (h1 : j0 < j1) (h2 : j1 < j2) (h3 : j2 < j3)
    (f0 : hs[j0]? = some o0) (f1 : hs[j1]? = some o1) (f2 : hs[j2]? = some o2) (f3 : hs[j3]? = some o3) (g0 : OwnG j0 l0 v0 o0) (g1 : OwnG j1 l1 v1 o1) (g2 : OwnG j2 l2 v2 o2) (g3 : OwnG j3 l3 v3 o3)
    (hQ : ∀ y0 y1 y2 y3 o0 o1 o2 o3, OwnG H.length l0 y0 o0 → OwnG (H.length + 1) l1 y1 o1 → OwnG (H.length + 2) l2 y2 o2 → OwnG (H.length + 3) l3 y3 o3 → Q (.tup [.agg [y0, y1, y2, y3], .int .i64 0]) (H ++ [o0, o1, o2, o3])) :
    GQ H.length Q (.tup [.agg [v0, v1, v2, v3], .int .i64 0]) hs := by
  obtain ⟨p0, L0, t0, a0, b0, c0, rfl, rfl⟩ := g0
  obtain ⟨p1, L1, t1, a1, b1, c1, rfl, rfl⟩ := g1
  obtain ⟨p2, L2, t2, a2, b2, c2, rfl, rfl⟩ := g2
  obtain ⟨p3, L3, t3, a3, b3, c3, rfl, rfl⟩ := g3
  have r : ∀ k, (List.range H.length ++ [j0, j1, j2, j3])[H.length + k]? = [j0, j1, j2, j3][k]? := fun k => by
    rw [List.getElem?_append_right (by simp)]; simp
  have r0 := r 0
  have r1 := r 1
  have r2 := r 2
  have r3 := r 3
  simp only [Nat.add_zero] at r0
  refine gq_rows (y := .tup [.agg [.sl H.length 0 l0.length p0, .sl (H.length + 1) 0 l1.length p1, .sl (H.length + 2) 0 l2.length p2, .sl (H.length + 3) 0 l3.length p3], .int .i64 0]) (js := [j0, j1, j2, j3])
    (os := [.cells [.run .u8 p0 L0] t0 0 0, .cells [.run .u8 p1 L1] t1 0 0, .cells [.run .u8 p2 L2] t2 0 0, .cells [.run .u8 p3 L3] t3 0 0]) hw hk ?_ ?_ rfl ?_ ?_ ?_ ?_
    (hQ _ _ _ _ _ _ _ _ ⟨p0, L0, t0, a0, b0, c0, rfl, rfl⟩ ⟨p1, L1, t1, a1, b1, c1, rfl, rfl⟩ ⟨p2, L2, t2, a2, b2, c2, rfl, rfl⟩ ⟨p3, L3, t3, a3, b3, c3, rfl, rfl⟩)
  · intro j hj
    simp at hj
    omega
  · simp; omega
  · intro i j' h
    match i, h with
    | 0, h => simp at h; subst h; exact f0
    | 1, h => simp at h; subst h; exact f1
    | 2, h => simp at h; subst h; exact f2
    | 3, h => simp at h; subst h; exact f3
    | i + 4, h => simp at h
  · intro o ho'
    simp at ho'
    rcases ho' with rfl | rfl | rfl | rfl <;> exact ⟨fun _ => rfl, rfl⟩
  · simp only [SV.ren, rens, List.getD, r0, r1, r2, r3, List.getElem?_cons_zero, List.getElem?_cons_succ, Option.getD_some]
  · simp [SV.bnd, bnds]

theorem kEnd {C : Ctx} (hf : C.f = 18) {H Hd : List SO} {Q : SV → List SO → Prop} (hQ : C.Q = GQ H.length Q) {alg : Int} {x : SV} {a b p q f g : Int} {envL : Env} {k0 k1 k2 k3 : SV} (h0 : Opq k0) (h1 : Opq k1) (h2 : Opq k2) (h3 : Opq k3) (I : KI H alg x a b p q f g envL [k0, k1, k2, k3] Hd)
    (hR : ∀ hs : List SO, (∀ u, u < H.length → hs[u]? = H[u]?) → (∀ u, H.length + 10 ≤ u → hs[u]? = Hd[u]?) → GQ H.length Q (.tup [.agg [k0, k1, k2, k3], .int .i64 0]) hs) : Ok C (fK H.length 4) Hd := by
  obtain ⟨h01, h02, h03, h04⟩ := h0
  obtain ⟨h11, h12, h13, h14⟩ := h1
  obtain ⟨h21, h22, h23, h24⟩ := h2
  obtain ⟨h31, h32, h33, h34⟩ := h3
  have f3 := I.f3
  have f4 := I.f4
  have f5 := I.f5
  have f7 := I.f7
  have f8 := I.f8
  have l3 := lt_of_at f3
  have l4 := lt_of_at f4
  have l5 := lt_of_at f5
  have l7 := lt_of_at f7
  have l8 := lt_of_at f8
  have hlen := I.len
  have n85 : (H.length + 8 = H.length + 5) = False := by simp
  have n83 : (H.length + 8 = H.length + 3) = False := by simp
  have n84 : (H.length + 8 = H.length + 4) = False := by simp
  have n87 : (H.length + 8 = H.length + 7) = False := by simp
  have n38 : (H.length + 3 = H.length + 8) = False := by simp
  have n35 : (H.length + 3 = H.length + 5) = False := by simp
  have n34 : (H.length + 3 = H.length + 4) = False := by simp
  have n48 : (H.length + 4 = H.length + 8) = False := by simp
  have n43 : (H.length + 4 = H.length + 3) = False := by simp
  have n45 : (H.length + 4 = H.length + 5) = False := by simp
  have n37 : (H.length + 3 = H.length + 7) = False := by simp
  have n47 : (H.length + 4 = H.length + 7) = False := by simp
  have n73 : (H.length + 7 = H.length + 3) = False := by simp
  have n74 : (H.length + 7 = H.length + 4) = False := by simp
  have n78 : (H.length + 7 = H.length + 8) = False := by simp
  unfold fK
  refine ok_head lkViewsCn5.eq_1 (vc_ok 100 _ _ ?_)
  simp only [hd tkKeysn4.eq_1, n85, n83, n84, n87, n34, n43, n37, n47, n73, n74, f3, f4, f5, f7, f8, l3, l4, h02, h03, h04, h12, h13, h14, h22, h23, h24, h32, h33, h34, hx_ne, hx_eq, List.length_set, ne_eq, eq_self, not_false_eq_true, go_sem, reduceCtorEq, Nat.reduceEqDiff, Nat.reduceLT, Nat.reduceAdd, Nat.reduceSub, Int.reduceToNat, Int.reduceLT, Int.reduceLE, ↓reduceIte]
  refine ⟨hf.symm, ?_⟩
  rw [hQ]
  refine hR _ (fun u hu => ?_) (fun u hu => ?_)
  · rw [List.getElem?_set_ne (by omega), List.getElem?_set_ne (by omega), List.getElem?_set_ne (by omega), List.getElem?_set_ne (by omega)]
    exact I.old u hu
  · rw [List.getElem?_set_ne (by omega), List.getElem?_set_ne (by omega), List.getElem?_set_ne (by omega), List.getElem?_set_ne (by omega)]

theorem spkKeys (H : List SO) (alg : Int) (x : SV) (m : List Int) (a b p q f g : Int) (hx : Byt H x m) (hr : Rng m) (hk : keyOk alg m []) : Spec Try.prog 18 [.int .i64 alg, x, lnkV a b p q f g] H fun v hs => ∃ y0 y1 y2 y3 o0 o1 o2 o3, v = .tup [.agg [y0, y1, y2, y3], .int .i64 0] ∧ hs = H ++ [o0, o1, o2, o3] ∧
    OwnG H.length (keyF alg m (ctxF a b p q f 0)) y0 o0 ∧ OwnG (H.length + 1) (keyF alg m (ctxF b a q p g 0)) y1 o1 ∧ OwnG (H.length + 2) (keyF alg m (ctxF a b p q f g)) y2 o2 ∧ OwnG (H.length + 3) (keyF alg m (ctxF b a q p g f)) y3 o3 := by
  obtain ⟨x1, x2, x3, x4⟩ := hx.facts
  refine spec_h okkKeys (by simp only [x1, lnkV, go_sem]) (of_ble rfl) fun C hP hf hQ h0 hw hbd => ?_
  apply vc_ok 100
  simp only [FS.start, ckKeys, paramsE, lnkV, x2, x4, hx_new, eq_self, go_sem, reduceCtorEq, Nat.reduceEqDiff, Nat.reduceLT, Nat.reduceAdd, Nat.reduceSub, ↓reduceIte]
  refine ok_ch hP 100 (spkViews _ a b p q f g) okkViews rfl rfl fun v hs' hq => ?_
  obtain ⟨rfl, rfl⟩ := hq
  simp only [go_sem, Nat.reduceLT, Nat.reduceAdd]
  refine ok_range hP 100 rfl okkViewsC (by rfl) (by exact of_ble rfl) ?_
  simp only [FS.start, ckViewsC, hd skViewsCn0.eq_1, paramsE, hx_new, eq_self, go_sem, reduceCtorEq, Nat.reduceEqDiff, Nat.reduceLT, Nat.reduceAdd, Nat.reduceSub, Nat.reduceBEq, ↓reduceIte]
  refine ok_dch hP 100 (spkViewsCC _ a b p q f g) okkViewsCC rfl rfl fun v hs' hq => ?_
  obtain ⟨rfl, rfl⟩ := hq
  simp only [hdd dkViewsCn4.eq_1, lnkV, hx_new, eq_self, go_sem, Nat.reduceEqDiff, Nat.reduceLT, Nat.reduceBEq, ↓reduceIte]
  refine ok_dch hP 100 (spkTurned _ a b p q f g) okkTurned rfl rfl fun v hs' hq => ?_
  obtain ⟨rfl, rfl⟩ := hq
  simp only [hdd dkViewsCn3.eq_1, lnkV, hx_new, eq_self, go_sem, Nat.reduceEqDiff, Nat.reduceLT, Nat.reduceBEq, ↓reduceIte]
  refine ok_dch hP 100 (spkViewsCC _ b a q p g f) okkViewsCC rfl rfl fun v hs' hq => ?_
  obtain ⟨rfl, rfl⟩ := hq
  simp only [hdd dkViewsCn2.eq_1, lnkV, hx_new, eq_self, go_sem, Nat.reduceEqDiff, Nat.reduceLT, Nat.reduceBEq, ↓reduceIte]
  refine ok_dch hP 100 (spkTurned _ a b p q f g) okkTurned rfl rfl fun v hs' hq => ?_
  obtain ⟨rfl, rfl⟩ := hq
  simp only [hdd dkViewsCn1.eq_1, lnkV, hx_new, eq_self, go_sem, reduceCtorEq, Nat.reduceEqDiff, Nat.reduceLT, Nat.reduceAdd, Nat.reduceSub, Nat.reduceBEq, ↓reduceIte]
  refine ok_less (env' := [(17, .int .i64 4), (16, .sl (H.length + 9) 0 4 4), (18, .int .i64 0), (0, .yld (H.length + 8))]) ?_ (by simp only [envSub, go_sem, reduceCtorEq, Nat.reduceEqDiff, ↓reduceIte] <;> rfl)
  refine ok_less2 (env' := [(6, .ptr (H.length + 3) 0), (7, .ptr (H.length + 4) 0), (8, .ptr (H.length + 5) 0)]) ?_ (by simp only [envSub, go_sem, Nat.reduceEqDiff, ↓reduceIte] <;> rfl)
  generalize hE : ([(14, _), _, _, _, _, _, _, _, _, _, _] : Env) = envL
  have hEk : envK H.length envL := by rw [← hE]; exact ⟨rfl, rfl, rfl, rfl, rfl⟩
  clear hE
  have I0 : KI H alg x a b p q f g envL [.nils, .nils, .nils, .nils] (H ++ [SO.cells [SV.int IntKind.i64 alg] 42 0 0, SO.cells [x] 27 0 0, SO.cells [SV.int IntKind.u32 a, SV.int IntKind.u32 b, SV.int IntKind.u16 p, SV.int IntKind.u16 q, SV.int IntKind.u32 f, SV.int IntKind.u32 g] 38 0 0,
        SO.cells [SV.nils, SV.nils, SV.nils, SV.nils] 44 0 0, SO.cells [SV.int IntKind.i64 0] 30 0 0, SO.cells [SV.nils, SV.nils, SV.nils, SV.nils] 72 0 0,
        SO.cells [SV.int IntKind.u32 a, SV.int IntKind.u32 b, SV.int IntKind.u16 p, SV.int IntKind.u16 q, SV.int IntKind.u32 f, SV.int IntKind.u32 g] 38 0 0,
        SO.defd true, SO.loop LoopState.ready none 18 envL 41 [15, 16] akKeysn2 bkKeysn3 (H.length + 7), SO.cells (lnk4 a b p q f g) 38 0 0]) :=
    ⟨by simp, fun u hu => by simp only [hu, hx_old, eq_self], by simp only [go_sem], by simp only [go_sem], by simp only [go_sem], by simp only [go_sem], by simp only [go_sem], by simp only [go_sem], by simp only [go_sem], by simp only [go_sem]⟩
  refine kIt0 hP hEk hx hr hk opq_nils opq_nils opq_nils opq_nils I0 fun H1 y0 o0 j0 a0 b0 c0 I1 p0 => ?_
  refine kIt1 hP hEk hx hr hk c0.opq opq_nils opq_nils opq_nils I1 fun H2 y1 o1 j1 a1 b1 c1 I2 p1 => ?_
  refine kIt2 hP hEk hx hr hk c0.opq c1.opq opq_nils opq_nils I2 fun H3 y2 o2 j2 a2 b2 c2 I3 p2 => ?_
  refine kIt3 hP hEk hx hr hk c0.opq c1.opq c2.opq opq_nils I3 fun H4 y3 o3 j3 a3 b3 c3 I4 p3 => ?_
  have m0 := lt_of_at b0
  have m1 := lt_of_at b1
  have m2 := lt_of_at b2
  have a0' : H.length + 10 ≤ j0 := Nat.le_trans I0.len a0
  have hl1 := I1.len
  have hl2 := I2.len
  have hl3 := I3.len
  have s2 : H3[j1]? = some o1 := by rw [p2 _ (by omega) (by omega)]; exact b1
  have r2 : H2[j0]? = some o0 := by rw [p1 _ (by omega) (by omega)]; exact b0
  have q2 := lt_of_at r2
  have r3 : H3[j0]? = some o0 := by rw [p2 _ (by omega) q2]; exact r2
  have q3 := lt_of_at r3
  have q4 := lt_of_at s2
  refine kEnd hf hQ c0.opq c1.opq c2.opq c3.opq I4 fun hs hk1 hk2 => ?_
  refine gq_four hw hk1 (by omega) (by omega) (by omega) (by omega) ?_ ?_ ?_ ?_ c0 c1 c2 c3 fun y0 y1 y2 y3 o0 o1 o2 o3 g0 g1 g2 g3 => ⟨y0, y1, y2, y3, o0, o1, o2, o3, rfl, rfl, g0, g1, g2, g3⟩
  · rw [hk2 _ (by omega), p3 _ (by omega) q3]; exact r3
  · rw [hk2 _ (by omega), p3 _ (by omega) q4]; exact s2
  · rw [hk2 _ (by omega), p3 _ (by omega) m2]; exact b2
  · rw [hk2 _ (by omega)]; exact b3
#print axioms spkKeys
end Go.Pv
