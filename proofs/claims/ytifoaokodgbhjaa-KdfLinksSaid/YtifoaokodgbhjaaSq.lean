/- cmac: sums of blocks, doubling, a block made, the key's blocks. -/
import Derived.Test.YtifoaokodgbhjaaSp
namespace Go.Pv
open Go Go.Proofs
def lcXorn0 : IC := (.seq (.reg [(.mk (some 9) none (.bin .lss (.t 8) (.c (.int .i64 16))))]) (.seq (.cond (.t 9) .skip (.exit 0)) (.seq (.block 1 (.seq (.reg [(.mk (some 10) none (.mv (.t 8))), (.mk (some 11) none (.idx 16 1 false (.t 7) (.t 8))), (.mk (some 5) none (.mv (.t 10))), (.mk (some 6) none (.mv (.t 11)))]) (.reg [(.mk (some 12) none (.mv (.t 5))), (.mk (some 13) none (.iaa 16 1 (.t 2) (.t 12))), (.mk (some 14) none (.ld (.t 13))), (.mk (some 15) none (.mv (.t 6))), (.mk (some 16) none (.bin .xor (.t 14) (.t 15))), (.mk (some 17) none (.iaa 16 1 (.t 2) (.t 12))), (.mk none none (.st (.t 17) (.t 16)))]))) (.reg [(.mk (some 18) none (.bin .add (.t 8) (.c (.int .i64 1)))), (.mk (some 8) none (.mv (.t 18)))]))))
def tcXorn1 : IC := (.seq (.reg [(.mk (some 19) none (.lda (.t 2) 16)), (.mk none none (.sta (.t 4) (.t 19) 16))]) .ret)
def ccXor : FnC := ⟨20, [(.a 4 16)], (.seq (.reg [(.mk (some 2) none (.bx 91 (.t 0))), (.mk (some 3) none (.bx 91 (.t 1))), (.mk (some 4) none (.al 91 [(.run .u8 16 (List.replicate 16 0))]))]) (.seq (.seq (.reg [(.mk (some 7) none (.lda (.t 3) 16)), (.mk (some 8) none (.mv (.c (.int .i64 0))))]) (.block 0 (.loop lcXorn0))) tcXorn1))⟩
theorem okcXor : FnOk Try.prog 64 ccXor := fnOk_mk Try.f64 (by kernel_rfl) (by kernel_rfl) (by kernel_rfl) (by kernel_rfl) (by kernel_rfl)
def lcDoublen0 : IC := (.seq (.seq (.reg [(.mk (some 5) none (.mv (.t 4))), (.mk (some 6) none (.bin .geq (.t 5) (.c (.int .i64 0))))]) (.cond (.t 6) .skip (.exit 0))) (.seq (.block 1 (.seq (.reg [(.mk (some 9) none (.mv (.t 4))), (.mk (some 10) none (.mv (.t 4))), (.mk (some 11) none (.iaa 16 1 (.t 1) (.t 10))), (.mk (some 12) none (.ld (.t 11))), (.mk (some 13) none (.bin .shl (.t 12) (.c (.int .u64 1)))), (.mk (some 14) none (.mv (.t 3))), (.mk (some 15) none (.bin .or (.t 13) (.t 14))), (.mk (some 16) none (.iaa 16 1 (.t 2) (.t 9))), (.mk none none (.st (.t 16) (.t 15)))]) (.reg [(.mk (some 17) none (.mv (.t 4))), (.mk (some 18) none (.iaa 16 1 (.t 1) (.t 17))), (.mk (some 19) none (.ld (.t 18))), (.mk (some 20) none (.bin .shr (.t 19) (.c (.int .u64 7)))), (.mk (some 3) none (.mv (.t 20)))]))) (.reg [(.mk (some 7) none (.mv (.t 4))), (.mk (some 8) none (.bin .sub (.t 7) (.c (.int .i64 1)))), (.mk (some 4) none (.mv (.t 8)))])))
def tcDoublen1 : IC := (.seq (.reg [(.mk (some 21) none (.iaa 16 1 (.t 2) (.c (.int .i64 15)))), (.mk (some 22) none (.ld (.t 21))), (.mk (some 23) none (.mv (.t 3))), (.mk (some 24) none (.bin .mul (.t 23) (.c (.int .u8 135)))), (.mk (some 25) none (.bin .xor (.t 22) (.t 24))), (.mk (some 26) none (.iaa 16 1 (.t 2) (.c (.int .i64 15)))), (.mk none none (.st (.t 26) (.t 25)))]) (.seq (.reg [(.mk (some 27) none (.lda (.t 2) 16)), (.mk none none (.sta (.t 2) (.t 27) 16))]) .ret))
def ccDouble : FnC := ⟨28, [(.a 2 16)], (.seq (.reg [(.mk (some 1) none (.bx 91 (.t 0))), (.mk (some 2) none (.al 91 [(.run .u8 16 (List.replicate 16 0))]))]) (.seq (.reg [(.mk (some 3) none (.mv (.c (.int .u8 0))))]) (.seq (.seq (.reg [(.mk (some 4) none (.mv (.c (.int .i64 15))))]) (.block 0 (.loop lcDoublen0))) tcDoublen1)))⟩
theorem okcDouble : FnOk Try.prog 78 ccDouble := fnOk_mk Try.f78 (by kernel_rfl) (by kernel_rfl) (by kernel_rfl) (by kernel_rfl) (by kernel_rfl)
def ccNone : FnC := ⟨12, [(.t 2)], (.seq (.reg [(.mk (some 2) none (.mv (.c (.bool false))))]) (.seq (.reg [(.mk (some 3) none (.mv (.t 0))), (.mk (some 4) none (.eqn 0 false (.t 3) (.c .nilp))), (.mk (some 5) none (.mv (.t 4))), (.mk (some 6) (some (5, false)) (.mv (.t 0))), (.mk (some 7) (some (5, false)) (.nc (.t 6))), (.mk (some 8) (some (5, false)) (.fa 0 (.t 7))), (.mk (some 9) (some (5, false)) (.ld (.t 8))), (.mk (some 10) (some (5, false)) (.eqn 0 false (.t 9) (.c .nilp))), (.mk (some 11) none (.pick (.t 5) (.c (.bool true)) (.t 10))), (.mk (some 2) none (.mv (.t 11)))]) .ret))⟩
theorem okcNone : FnOk Try.prog 61 ccNone := fnOk_mk Try.f61 (by kernel_rfl) (by kernel_rfl) (by kernel_rfl) (by kernel_rfl) (by kernel_rfl)
def dcMaden0 : DT := (.one 6 (.mk (some 7) none (.mv (.t 13))) [] (.tk 7 (.mk (some 14) none (.ext (.t 7) 0)) (.tk 8 (.mk (some 15) none (.ext (.t 7) 1)) (.one 10 (.mk none none (.sta (.t 5) (.t 14) 16)) [9, 7, 5, 0, 1, 2, 3, 4, 6] (.one 11 (.mk (some 6) none (.mv (.t 15))) [] .fin)))))
def ccMade : FnC := ⟨17, [(.a 4 16)], (.seq (.reg [(.mk (some 3) none (.bx 91 (.t 1))), (.mk (some 4) none (.al 91 [(.run .u8 16 (List.replicate 16 0))]))]) (.seq (.dreg (.tk 0 (.mk (some 8) none (.mv (.t 0))) (.tk 1 (.mk (some 9) none (.nc (.t 8))) (.tk 2 (.mk (some 10) none (.fa 0 (.t 9))) (.tk 3 (.mk (some 11) none (.ld (.t 10))) (.tk 4 (.mk (some 12) none (.lda (.t 3) 16)) (.two 5 (.mk (some 13) none (.call (.c (.fn 77 [])) [(.t 11), (.t 12)])) [3, 4, 2, 1, 0] (.tk 6 (.mk (some 7) none (.mv (.t 13))) (.tk 7 (.mk (some 14) none (.ext (.t 7) 0)) (.tk 8 (.mk (some 15) none (.ext (.t 7) 1)) (.one 9 (.mk (some 5) none (.al 91 [(.run .u8 16 (List.replicate 16 0))])) [] (.one 10 (.mk none none (.sta (.t 5) (.t 14) 16)) [9, 7, 5, 0, 1, 2, 3, 4, 6] (.one 11 (.mk (some 6) none (.mv (.t 15))) [] .fin)))))) 9 (.mk (some 5) none (.al 91 [(.run .u8 16 (List.replicate 16 0))])) [] (.one 5 (.mk (some 13) none (.call (.c (.fn 77 [])) [(.t 11), (.t 12)])) [3, 4, 2, 1, 0] dcMaden0)))))))) (.seq (.reg [(.mk (some 16) none (.lda (.t 5) 16)), (.mk none none (.sta (.t 4) (.t 16) 16))]) .ret)))⟩
theorem okcMade : FnOk Try.prog 63 ccMade := fnOk_mk Try.f63 (by kernel_rfl) (by kernel_rfl) (by kernel_rfl) (by kernel_rfl) (by kernel_rfl)
def dcOwnn0 : DT := (.one 3 (.mk none none (.sta (.t 2) (.t 8) 16)) [0, 2, 1] (.one 4 (.mk none none (.sta (.t 3) (.t 10) 16)) [2, 3, 0, 1] .fin))
def ccOwn : FnC := ⟨11, [(.a 2 16), (.a 3 16)], (.seq (.reg [(.mk (some 2) none (.al 91 [(.run .u8 16 (List.replicate 16 0))])), (.mk (some 3) none (.al 91 [(.run .u8 16 (List.replicate 16 0))]))]) (.seq (.reg [(.mk (some 4) none (.mv (.t 0))), (.mk (some 5) none (.bld [(.run .u8 16 (List.replicate 16 0))] [])), (.mk (some 6) none (.call (.c (.fn 63 [])) [(.t 4), (.t 5)])), (.mk (some 7) none (.call (.c (.fn 78 [])) [(.t 6)])), (.mk none none (.sta (.t 2) (.t 7) 16))]) (.seq (.dreg (.tk 0 (.mk (some 8) none (.lda (.t 2) 16)) (.one 1 (.mk (some 9) none (.lda (.t 2) 16)) [] (.one 2 (.mk (some 10) none (.call (.c (.fn 78 [])) [(.t 9)])) [1] dcOwnn0)))) .ret)))⟩
theorem okcOwn : FnOk Try.prog 65 ccOwn := fnOk_mk Try.f65 (by kernel_rfl) (by kernel_rfl) (by kernel_rfl) (by kernel_rfl) (by kernel_rfl)


section
variable {C : Ctx} {fn N : Nat} {ro : Option Nat} {rs : List RP} {env : Env} {k : List It} {defs : List Nat} {r : List FS} {hs : List SO} {op : IOp} {T : List (Nat × Nat)}
/-- A call where another operation might come first. -/
theorem ok_sch {P : Program} (hP : C.P = P) (n : Nat) {dr : List Nat} {d : DT} {f : Nat} {caps vs : List SV} {Q : SV → List SO → Prop} (hS : Spec P f (vs ++ caps) hs Q) {c : FnC} (hF : FnOk P f c) (hg : wantG op.g env = some true)
    (hev : evR op.o env hs = .call (.fn f caps) vs)
    (K : ∀ x hs', Q x hs' → keepT hs hs' (cutT dr T) ∧ dnx (dvc (vc n C) C fn ro N rs k defs r d) N env hs' (cutT dr T) x op.d) :
    StepD C fn ro N rs env op dr d k defs r hs T := by
  subst hP
  refine stepD_spech hg hev hF hS fun x hs' hq => ?_
  obtain ⟨h1, h2⟩ := K x hs' hq
  exact ⟨h1, dnx_ok (fun e h T hh => dvc_ok (fun f h => vc_ok n f h) d e h T hh) h2⟩
end

def xbS (b : List Int) (i : Nat) (w : List Int) : List Int := w.set i (bw .xor .u8 (w.getD i 0) (b.getD i 0))
/-- The sum of two blocks. -/
def xbF (a b : List Int) : List Int := it (xbS b) 16 a

theorem spcXor (H : List SO) (a b : List Int) : Spec Try.prog 64 [.agg [.run .u8 16 a], .agg [.run .u8 16 b]] H fun v hs => v = .agg [.run .u8 16 (xbF a b)] ∧ hs = H := by
  refine spec_h okcXor rfl (of_ble rfl) fun C hP hf hQ h0 hw hbd => ?_
  apply vc_ok 100
  simp only [FS.start, ccXor, paramsE, go_sem, reduceCtorEq, Nat.reduceEqDiff, Nat.reduceLT, Nat.reduceAdd, ↓reduceIte]
  refine ok_less (env' := [(8, .int .i64 (0 : Nat)), (7, .agg [.run .u8 16 b]), (2, .ptr H.length 0), (4, .ptr (H.length + 2) 0)]) ?_ (by simp only [envSub, go_sem, Nat.reduceEqDiff, ↓reduceIte] <;> rfl)
  refine up (p := fun i => Ok C [⟨64, none, 20, [.a 4 16], [(8, .int .i64 i), (7, .agg [.run .u8 16 b]), (2, .ptr H.length 0), (4, .ptr (H.length + 2) 0)], [.c lcXorn0, .lp lcXorn0, .blk 0, .c tcXorn1], []⟩]
    (H ++ [.cells [.run .u8 16 (it (xbS b) i a)] 91 0 0, .cells [.run .u8 16 b] 91 0 0, .cells [.run .u8 16 (List.replicate 16 0)] 91 0 0])) 16 ?_ ?_
  · intro i hi K
    have h1 : decide ((i : Int) < 16) = true := by simp; omega
    refine ok_head lcXorn0.eq_1 (vc_ok 100 _ _ ?_)
    simp only [h1, Int.toNat_natCast, hx_new0, hx_snew0, eq_self, go_sem, Nat.reduceEqDiff, Nat.reduceLT, ↓reduceIte]
    refine ⟨⟨⟨by omega, by omega⟩, by omega⟩, ⟨by omega, by omega⟩, by omega, ⟨by omega, by omega⟩, by omega, ?_⟩
    exact ok_less K (by simp only [envSub, w64s (show i + 1 < 9223372036854775808 by omega), go_sem, Nat.reduceEqDiff, ↓reduceIte])
  · refine ok_head lcXorn0.eq_1 (vc_ok 100 _ _ ?_)
    simp only [hd tcXorn1.eq_1, hx_new, hx_new0, hx_snew, eq_self, go_sem, Nat.reduceEqDiff, Nat.reduceLT, Int.reduceLT, ↓reduceIte]
    exact fin0 hf hQ hw rfl ⟨rfl, rfl⟩

/-- A block doubled. -/
def dbS (b : List Int) (n : Nat) (p : List Int × Int) : List Int × Int :=
  (p.1.set (15 - n) (bw .or .u8 (IntKind.u8.wrap (b.getD (15 - n) 0 * 2 ^ 1)) p.2), (b.getD (15 - n) 0).fdiv (2 ^ 7))
def dbF (b : List Int) : List Int :=
  (it (dbS b) 16 (List.replicate 16 0, 0)).1.set 15 (bw .xor .u8 ((it (dbS b) 16 (List.replicate 16 0, 0)).1.getD 15 0) (IntKind.u8.wrap ((it (dbS b) 16 (List.replicate 16 0, 0)).2 * 135)))

theorem spcDouble (H : List SO) (b : List Int) : Spec Try.prog 78 [.agg [.run .u8 16 b]] H fun v hs => v = .agg [.run .u8 16 (dbF b)] ∧ hs = H := by
  refine spec_h okcDouble rfl (of_ble rfl) fun C hP hf hQ h0 hw hbd => ?_
  have m1 : min 1 8 = 1 := rfl
  have m7 : min 7 8 = 7 := rfl
  apply vc_ok 100
  simp only [FS.start, ccDouble, paramsE, go_sem, Nat.reduceLT, ↓reduceIte]
  refine ok_less (env' := [(4, .int .i64 (15 - (0 : Nat))), (1, .ptr H.length 0), (3, .int .u8 0), (2, .ptr (H.length + 1) 0)]) ?_ (by simp only [envSub, go_sem, Nat.reduceEqDiff, ↓reduceIte] <;> rfl)
  refine up (p := fun i => Ok C [⟨78, none, 28, [.a 2 16], [(4, .int .i64 (15 - i)), (1, .ptr H.length 0), (3, .int .u8 (it (dbS b) i (List.replicate 16 0, 0)).2), (2, .ptr (H.length + 1) 0)], [.c lcDoublen0, .lp lcDoublen0, .blk 0, .c tcDoublen1], []⟩]
    (H ++ [.cells [.run .u8 16 b] 91 0 0, .cells [.run .u8 16 (it (dbS b) i (List.replicate 16 0, 0)).1] 91 0 0])) 16 ?_ ?_
  · intro i hi K
    have e0 : (15 - (i : Int)) = ((15 - i : Nat) : Int) := by omega
    have h1 : decide ((0 : Int) ≤ ((15 - i : Nat) : Int)) = true := by simp
    refine ok_head lcDoublen0.eq_1 (vc_ok 100 _ _ ?_)
    simp only [e0, h1, m1, m7, hx_new, hx_new0, hx_snew, eq_self, go_sem, Nat.reduceEqDiff, Nat.reduceLT, Int.reduceToNat, Int.reduceLE, ↓reduceIte]
    refine ⟨⟨by omega, by omega⟩, by omega, ⟨by omega, by omega⟩, by omega, ⟨by omega, by omega⟩, by omega, ?_⟩
    have q : IntKind.i64.wrap (((15 - i : Nat) : Int) - 1) = 15 - ((i + 1 : Nat) : Int) := by rw [w64 (by omega) (by omega)]; omega
    refine ok_less K (by simp only [envSub, q, dbS, it, go_sem, Nat.reduceEqDiff, ↓reduceIte])
  · refine ok_head lcDoublen0.eq_1 (vc_ok 100 _ _ ?_)
    have h1 : decide ((0 : Int) ≤ 15 - 16) = false := rfl
    simp only [hd tcDoublen1.eq_1, h1, Bool.false_eq_true, hx_new, hx_snew, eq_self, go_sem, Nat.reduceEqDiff, Nat.reduceLT, Int.reduceToNat, Int.reduceLT, Int.reduceLE, ↓reduceIte]
    exact fin0 hf hQ hw rfl ⟨rfl, rfl⟩

/-- The cells of a tag under way. -/
def cmC (c : Nat) (x : List Int) (b : SV) : SO := .cells [.ptr c 0, .run .u8 16 x, b] 123 0 0

theorem spcNone (H : List SO) (t c : Nat) (x : List Int) (b : SV) (h : H[t]? = some (cmC c x b)) (hb : Opq b) : Spec Try.prog 61 [.ptr t 0] H fun v hs => v = .bool false ∧ hs = H := by
  have lt := lt_of_at h
  obtain ⟨b1, b2, b3, b4⟩ := hb
  refine spec_h okcNone rfl (of_ble rfl) fun C hP hf hQ h0 hw hbd => ?_
  apply vc_ok 100
  simp only [FS.start, ccNone, paramsE, h, cmC, eq_self, go_sem, reduceCtorEq, Nat.reduceEqDiff, Nat.reduceLT, ↓reduceIte]
  exact fin00 hf hQ hw rfl ⟨rfl, rfl⟩

theorem spcMade (H : List SO) (t c : Nat) (k x s : List Int) (b : SV) (h : H[t]? = some (cmC c x b)) (hb : Opq b) (hc : CphAt H c k) : Spec Try.prog 63 [.ptr t 0, .agg [.run .u8 16 s]] H fun v hs => v = .agg [.run .u8 16 (aesF k s)] ∧ hs = H := by
  have lt := lt_of_at h
  obtain ⟨b1, b2, b3, b4⟩ := hb
  refine spec_h okcMade rfl (of_ble rfl) fun C hP hf hQ h0 hw hbd => ?_
  apply vc_ok 100
  simp only [FS.start, ccMade, paramsE, h, lt, cmC, hx_old, hx_new0, eq_self, go_sem, reduceCtorEq, Nat.reduceEqDiff, Nat.reduceLT, Nat.reduceAdd, Nat.reduceBEq, ↓reduceIte]
  refine ⟨ok_sch hP 100 (spaMake _ c k s (at_old hc _)) okaMake rfl rfl fun v hs' hq => ?_, ok_dch hP 100 (spaMake _ c k s (at_old hc _)) okaMake rfl rfl fun v hs' hq => ?_⟩
  · obtain ⟨rfl, rfl⟩ := hq
    simp only [hx_new, hx_snew, eq_self, go_sem, Nat.reduceEqDiff, Nat.reduceLT, Nat.reduceAdd, Nat.reduceBEq, ↓reduceIte]
    exact fin0 hf hQ hw rfl ⟨rfl, rfl⟩
  · obtain ⟨rfl, rfl⟩ := hq
    simp only [hdd dcMaden0.eq_1, hx_new, hx_snew, eq_self, go_sem, Nat.reduceEqDiff, Nat.reduceLT, Nat.reduceBEq, ↓reduceIte]
    exact fin0 hf hQ hw rfl ⟨rfl, rfl⟩

/-- The key's blocks. -/
def own1 (k : List Int) : List Int := dbF (aesF k (List.replicate 16 0))
def own2 (k : List Int) : List Int := dbF (own1 k)

theorem spcOwn (H : List SO) (t c : Nat) (k x : List Int) (b : SV) (h : H[t]? = some (cmC c x b)) (hb : Opq b) (hc : CphAt H c k) : Spec Try.prog 65 [.ptr t 0] H fun v hs => v = .tup [.agg [.run .u8 16 (own1 k)], .agg [.run .u8 16 (own2 k)]] ∧ hs = H := by
  have lt := lt_of_at h
  refine spec_h okcOwn rfl (of_ble rfl) fun C hP hf hQ h0 hw hbd => ?_
  apply vc_ok 100
  simp only [FS.start, ccOwn, paramsE, eq_self, go_sem, reduceCtorEq, Nat.reduceEqDiff, Nat.reduceLT, ↓reduceIte]
  refine ok_ch hP 100 (spcMade _ t c k x (List.replicate 16 0) b (at_old h _) hb (at_old hc _)) okcMade rfl rfl fun v hs' hq => ?_
  obtain ⟨rfl, rfl⟩ := hq
  simp only [eq_self, go_sem, Nat.reduceLT, ↓reduceIte]
  refine ok_ch hP 100 (spcDouble _ _) okcDouble rfl rfl fun v hs' hq => ?_
  obtain ⟨rfl, rfl⟩ := hq
  simp only [hx_new0, hx_snew0, eq_self, go_sem, Nat.reduceEqDiff, Nat.reduceLT, Nat.reduceBEq, ↓reduceIte]
  refine ok_dch hP 100 (spcDouble _ _) okcDouble rfl rfl fun v hs' hq => ?_
  obtain ⟨rfl, rfl⟩ := hq
  simp only [hdd dcOwnn0.eq_1, hx_new, hx_new0, hx_snew, hx_snew0, eq_self, go_sem, Nat.reduceEqDiff, Nat.reduceLT, Nat.reduceBEq, ↓reduceIte]
  exact fin0 hf hQ hw rfl ⟨rfl, rfl⟩
end Go.Pv
