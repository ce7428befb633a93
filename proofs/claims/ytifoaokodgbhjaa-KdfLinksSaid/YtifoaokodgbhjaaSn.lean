/- aes: the steps on a state. -/
import Derived.Test.YtifoaokodgbhjaaSm
namespace Go.Pv
open Go Go.Proofs
def laEachn0 : IC := (.seq (.reg [(.mk (some 6) none (.bin .lss (.t 5) (.c (.int .i64 16))))]) (.seq (.cond (.t 6) .skip (.exit 0)) (.seq (.block 1 (.seq (.reg [(.mk (some 7) none (.mv (.t 5))), (.mk (some 3) none (.mv (.t 7)))]) (.reg [(.mk (some 8) none (.mv (.t 3))), (.mk (some 9) none (.mv (.t 0))), (.mk (some 10) none (.mv (.t 3))), (.mk (some 11) none (.call (.t 9) [(.t 10)])), (.mk (some 12) none (.iaa 16 1 (.t 2) (.t 8))), (.mk none none (.st (.t 12) (.t 11)))]))) (.reg [(.mk (some 13) none (.bin .add (.t 5) (.c (.int .i64 1)))), (.mk (some 5) none (.mv (.t 13)))]))))
def taEachn1 : IC := (.seq (.reg [(.mk (some 14) none (.lda (.t 2) 16)), (.mk none none (.sta (.t 2) (.t 14) 16))]) .ret)
def caEach : FnC := ⟨15, [(.a 2 16)], (.seq (.reg [(.mk (some 2) none (.al 91 [(.run .u8 16 (List.replicate 16 0))]))]) (.seq (.seq (.reg [(.mk (some 4) none (.lda (.t 2) 16)), (.mk (some 5) none (.mv (.c (.int .i64 0))))]) (.block 0 (.loop laEachn0))) taEachn1))⟩
theorem okaEach : FnOk Try.prog 102 caEach := fnOk_mk Try.f102 (by kernel_rfl) (by kernel_rfl) (by kernel_rfl) (by kernel_rfl) (by kernel_rfl)
def caBoxed : FnC := ⟨7, [(.a 2 16)], (.seq (.reg [(.mk (some 1) none (.bx 91 (.t 0))), (.mk (some 2) none (.al 91 [(.run .u8 16 (List.replicate 16 0))]))]) (.seq (.reg [(.mk (some 4) none (.call (.c (.fn 89 [])) [])), (.mk (some 3) none (.al 166 [(.run .u8 256 (List.replicate 256 0))])), (.mk none none (.sta (.t 3) (.t 4) 256))]) (.seq (.reg [(.mk (some 5) none (.mkf 107 [(.t 3), (.t 1)])), (.mk (some 6) none (.call (.c (.fn 102 [])) [(.t 5)])), (.mk none none (.sta (.t 2) (.t 6) 16))]) .ret)))⟩
theorem okaBoxed : FnOk Try.prog 99 caBoxed := fnOk_mk Try.f99 (by kernel_rfl) (by kernel_rfl) (by kernel_rfl) (by kernel_rfl) (by kernel_rfl)
def caBoxedC : FnC := ⟨10, [(.t 4)], (.seq (.reg [(.mk (some 4) none (.mv (.c (.int .u8 0))))]) (.seq (.reg [(.mk (some 5) none (.mv (.t 0))), (.mk (some 6) none (.iaa 16 1 (.t 2) (.t 5))), (.mk (some 7) none (.ld (.t 6))), (.mk (some 8) none (.iaa 256 1 (.t 1) (.t 7))), (.mk (some 9) none (.ld (.t 8))), (.mk (some 4) none (.mv (.t 9)))]) .ret))⟩
theorem okaBoxedC : FnOk Try.prog 107 caBoxedC := fnOk_mk Try.f107 (by kernel_rfl) (by kernel_rfl) (by kernel_rfl) (by kernel_rfl) (by kernel_rfl)
def caMoved : FnC := ⟨5, [(.a 2 16)], (.seq (.reg [(.mk (some 1) none (.bx 91 (.t 0))), (.mk (some 2) none (.al 91 [(.run .u8 16 (List.replicate 16 0))]))]) (.seq (.reg [(.mk (some 3) none (.mkf 108 [(.t 1)])), (.mk (some 4) none (.call (.c (.fn 102 [])) [(.t 3)])), (.mk none none (.sta (.t 2) (.t 4) 16))]) .ret))⟩
theorem okaMoved : FnOk Try.prog 100 caMoved := fnOk_mk Try.f100 (by kernel_rfl) (by kernel_rfl) (by kernel_rfl) (by kernel_rfl) (by kernel_rfl)
def caMovedC : FnC := ⟨12, [(.t 3)], (.seq (.reg [(.mk (some 3) none (.mv (.c (.int .u8 0))))]) (.seq (.reg [(.mk (some 4) none (.mv (.t 0))), (.mk (some 5) none (.mv (.t 0))), (.mk (some 6) none (.bin .rem (.t 5) (.c (.int .i64 4)))), (.mk (some 7) none (.bin .mul (.c (.int .i64 4)) (.t 6))), (.mk (some 8) none (.bin .add (.t 4) (.t 7))), (.mk (some 9) none (.bin .rem (.t 8) (.c (.int .i64 16)))), (.mk (some 10) none (.iaa 16 1 (.t 1) (.t 9))), (.mk (some 11) none (.ld (.t 10))), (.mk (some 3) none (.mv (.t 11)))]) .ret))⟩
theorem okaMovedC : FnOk Try.prog 108 caMovedC := fnOk_mk Try.f108 (by kernel_rfl) (by kernel_rfl) (by kernel_rfl) (by kernel_rfl) (by kernel_rfl)
def caMixed : FnC := ⟨5, [(.a 2 16)], (.seq (.reg [(.mk (some 1) none (.bx 91 (.t 0))), (.mk (some 2) none (.al 91 [(.run .u8 16 (List.replicate 16 0))]))]) (.seq (.reg [(.mk (some 3) none (.mkf 109 [(.t 1)])), (.mk (some 4) none (.call (.c (.fn 102 [])) [(.t 3)])), (.mk none none (.sta (.t 2) (.t 4) 16))]) .ret))⟩
theorem okaMixed : FnOk Try.prog 101 caMixed := fnOk_mk Try.f101 (by kernel_rfl) (by kernel_rfl) (by kernel_rfl) (by kernel_rfl) (by kernel_rfl)
def caMixedC : FnC := ⟨18, [(.t 3)], (.seq (.reg [(.mk (some 3) none (.mv (.c (.int .u8 0))))]) (.seq (.reg [(.mk (some 4) none (.mv (.t 0))), (.mk (some 5) none (.bin .quo (.t 4) (.c (.int .i64 4)))), (.mk (some 6) none (.bin .mul (.t 5) (.c (.int .i64 4)))), (.mk (some 7) none (.mv (.t 0))), (.mk (some 8) none (.bin .quo (.t 7) (.c (.int .i64 4)))), (.mk (some 9) none (.bin .mul (.t 8) (.c (.int .i64 4)))), (.mk (some 10) none (.bin .add (.t 9) (.c (.int .i64 4)))), (.mk (some 11) none (.sla 16 1 (.t 1) (some (.t 6)) (some (.t 10)))), (.mk (some 12) none (.s2a 4 (.t 11))), (.mk (some 13) none (.lda (.t 12) 4)), (.mk (some 14) none (.call (.c (.fn 110 [])) [(.t 13)])), (.mk (some 15) none (.mv (.t 0))), (.mk (some 16) none (.bin .rem (.t 15) (.c (.int .i64 4)))), (.mk (some 17) none (.idx 4 1 false (.t 14) (.t 16))), (.mk (some 3) none (.mv (.t 17)))]) .ret))⟩
theorem okaMixedC : FnOk Try.prog 109 caMixedC := fnOk_mk Try.f109 (by kernel_rfl) (by kernel_rfl) (by kernel_rfl) (by kernel_rfl) (by kernel_rfl)
def caStepsCC : FnC := ⟨12, [(.t 4)], (.seq (.reg [(.mk (some 4) none (.mv (.c (.int .u8 0))))]) (.seq (.dreg (.tk 0 (.mk (some 5) none (.mv (.t 0))) (.tk 1 (.mk (some 6) none (.iaa 16 1 (.t 1) (.t 5))) (.tk 2 (.mk (some 7) none (.ld (.t 6))) (.one 3 (.mk (some 8) none (.mv (.t 0))) [] (.one 4 (.mk (some 9) none (.iaa 16 1 (.t 2) (.t 8))) [] (.one 5 (.mk (some 10) none (.ld (.t 9))) [] (.one 6 (.mk (some 11) none (.bin .xor (.t 7) (.t 10))) [] (.one 7 (.mk (some 4) none (.mv (.t 11))) [] .fin))))))))) .ret))⟩
theorem okaStepsCC : FnOk Try.prog 103 caStepsCC := fnOk_mk Try.f103 (by kernel_rfl) (by kernel_rfl) (by kernel_rfl) (by kernel_rfl) (by kernel_rfl)

theorem tab_bld (env : Env) : bldR (ev env) [.run .u8 256 (List.replicate 256 0)] paTable = some [.run .u8 256 vaTable] := by kernel_rfl

theorem spaTable0 : Spec Try.prog 89 [] [] fun v hs => v = .agg [.run .u8 256 vaTable] ∧ hs = [] := by
  refine spec_mk okaTable rfl (of_ble rfl) fun C hP hf hQ h0 => ?_
  apply vc_ok 100
  simp only [FS.start, caTable, paramsE, tab_bld, go_sem, reduceCtorEq, Nat.reduceLT, ↓reduceIte]
  refine ⟨hf.symm, ?_⟩
  rw [hQ]
  exact gc_drop [] _ rfl rfl rfl ⟨rfl, rfl⟩
theorem spaTable (H : List SO) : Spec Try.prog 89 [] H fun v hs => v = .agg [.run .u8 256 vaTable] ∧ hs = H := spec_val spaTable0 rfl rfl H

def eachS (f : Nat → Int) (i : Nat) (w : List Int) : List Int := w.set i (f i)
/-- A state, byte by byte. -/
def eachF (f : Nat → Int) : List Int := it (eachS f) 16 (List.replicate 16 0)

theorem spaEach (H : List SO) (g : Nat) (caps : List SV) (f : Nat → Int) {c : FnC} (hg : FnOk Try.prog g c) (h1 : (SV.fn g caps).one = true) (hb : bnds H.length caps = true)
    (hS : ∀ (o : SO) (i : Nat), i < 16 → Spec Try.prog g ([.int .i64 i] ++ caps) (H ++ [o]) fun v hs => v = .int .u8 (f i) ∧ hs = H ++ [o]) :
    Spec Try.prog 102 [.fn g caps] H fun v hs => v = .agg [.run .u8 16 (eachF f)] ∧ hs = H := by
  refine spec_h okaEach (by simp only [h1, go_sem]) (of_ble rfl) fun C hP hf hQ h0 hw hbd => ?_
  apply vc_ok 100
  simp only [FS.start, caEach, paramsE, go_sem, Nat.reduceLT, ↓reduceIte]
  refine ok_less (env' := [(5, .int .i64 (0 : Nat)), (0, .fn g caps), (2, .ptr H.length 0)]) ?_ (by simp only [envSub, go_sem, reduceCtorEq, Nat.reduceEqDiff, ↓reduceIte] <;> rfl)
  refine up (p := fun i => Ok C [⟨102, none, 15, [.a 2 16], [(5, .int .i64 i), (0, .fn g caps), (2, .ptr H.length 0)], [.c laEachn0, .lp laEachn0, .blk 0, .c taEachn1], []⟩] (H ++ [.cells [.run .u8 16 (it (eachS f) i (List.replicate 16 0))] 91 0 0])) 16 ?_ ?_
  · intro i hi K
    have h2 : decide ((i : Int) < 16) = true := by simp; omega
    have h3 : SV.one (.int .i64 i) = true := rfl
    refine ok_head laEachn0.eq_1 (vc_ok 100 _ _ ?_)
    simp only [h2, eq_self, go_sem, reduceCtorEq, Nat.reduceEqDiff, Nat.reduceLT, ↓reduceIte]
    refine ok_ch hP 100 (hS _ i hi) hg rfl (by exact call_ev rfl rfl rfl) fun v hs' hq => ?_
    obtain ⟨rfl, rfl⟩ := hq
    simp only [hx_new0, hx_snew0, eq_self, go_sem, reduceCtorEq, Nat.reduceEqDiff, Nat.reduceLT, ↓reduceIte]
    refine ⟨⟨by omega, by omega⟩, by omega, ok_less K ?_⟩
    simp only [envSub, w64s (show i + 1 < 9223372036854775808 by omega), go_sem, reduceCtorEq, Nat.reduceEqDiff, ↓reduceIte]
  · refine ok_head laEachn0.eq_1 (vc_ok 100 _ _ ?_)
    simp only [hd taEachn1.eq_1, hx_new0, hx_snew0, eq_self, go_sem, reduceCtorEq, Nat.reduceEqDiff, Nat.reduceLT, Int.reduceLT, ↓reduceIte]
    exact fin0 hf hQ hw rfl ⟨rfl, rfl⟩

/-- The functions of the steps. -/
def boxAt (s : List Int) (i : Nat) : Int := vaTable.getD (s.getD i 0).toNat 0
def movAt (s : List Int) (i : Nat) : Int := s.getD ((i + 4 * (i % 4)) % 16) 0
def mxdAt (s : List Int) (i : Nat) : Int := (mixF ((s.drop (i / 4 * 4)).take 4)).getD (i % 4) 0
def keyAt (s k : List Int) (i : Nat) : Int := bw .xor .u8 (s.getD i 0) (k.getD i 0)

theorem spaBoxedC (H : List SO) (a b ta tb : Nat) (s : List Int) (i : Nat) (hi : i < 16) (f0 : H[a]? = some (.cells [.run .u8 256 vaTable] ta 0 0)) (f1 : H[b]? = some (.cells [.run .u8 16 s] tb 0 0)) (h2 : 0 ≤ s.getD i 0 ∧ s.getD i 0 < 256) :
    Spec Try.prog 107 [.int .i64 i, .ptr a 0, .ptr b 0] H fun v hs => v = .int .u8 (boxAt s i) ∧ hs = H := by
  refine spec_h okaBoxedC rfl (of_ble rfl) fun C hP hf hQ h0 hw hbd => ?_
  obtain ⟨n, hn⟩ : ∃ n : Nat, s.getD i 0 = n := ⟨(s.getD i 0).toNat, by omega⟩
  have l0 := lt_of_at f0
  have l1 := lt_of_at f1
  apply vc_ok 100
  simp only [FS.start, caBoxedC, paramsE, f0, f1, hn, go_sem, reduceCtorEq, Nat.reduceEqDiff, Nat.reduceLT, Nat.reduceAdd, ↓reduceIte]
  refine ⟨⟨by omega, by omega⟩, by omega, ⟨by omega, by omega⟩, by omega, ?_⟩
  refine fin00 hf hQ hw rfl ⟨?_, rfl⟩
  simp only [boxAt, hn, Int.toNat_natCast]

theorem spaMovedC (H : List SO) (b tb : Nat) (s : List Int) (i : Nat) (hi : i < 16) (f1 : H[b]? = some (.cells [.run .u8 16 s] tb 0 0)) :
    Spec Try.prog 108 [.int .i64 i, .ptr b 0] H fun v hs => v = .int .u8 (movAt s i) ∧ hs = H := by
  refine spec_h okaMovedC rfl (of_ble rfl) fun C hP hf hQ h0 hw hbd => ?_
  have l1 := lt_of_at f1
  have q : Int.tmod (IntKind.i64.wrap ((i : Int) + IntKind.i64.wrap (4 * Int.tmod (i : Int) 4))) 16 = (((i + 4 * (i % 4)) % 16 : Nat) : Int) := by
    have e0 : Int.tmod (i : Int) 4 = ((i % 4 : Nat) : Int) := by rw [Int.tmod_eq_emod_of_nonneg (by omega)]; omega
    rw [e0, w64 (x := 4 * ((i % 4 : Nat) : Int)) (by omega) (by omega), w64 (by omega) (by omega), Int.tmod_eq_emod_of_nonneg (by omega)]; omega
  apply vc_ok 100
  simp only [FS.start, caMovedC, paramsE, f1, q, go_sem, reduceCtorEq, Nat.reduceEqDiff, Nat.reduceLT, ↓reduceIte]
  refine ⟨by decide, by decide, ⟨by omega, by omega⟩, by omega, ?_⟩
  exact fin00 hf hQ hw rfl ⟨rfl, rfl⟩

theorem spaStepsCC (H : List SO) (a b ta tb : Nat) (s k : List Int) (i : Nat) (hi : i < 16) (f0 : H[a]? = some (.cells [.run .u8 16 s] ta 0 0)) (f1 : H[b]? = some (.cells [.run .u8 16 k] tb 0 0)) :
    Spec Try.prog 103 [.int .i64 i, .ptr a 0, .ptr b 0] H fun v hs => v = .int .u8 (keyAt s k i) ∧ hs = H := by
  refine spec_h okaStepsCC rfl (of_ble rfl) fun C hP hf hQ h0 hw hbd => ?_
  have l0 := lt_of_at f0
  have l1 := lt_of_at f1
  apply vc_ok 100
  simp only [FS.start, caStepsCC, paramsE, f0, f1, go_sem, reduceCtorEq, Nat.reduceEqDiff, Nat.reduceLT, Nat.reduceAdd, ↓reduceIte]
  refine ⟨⟨by omega, by omega⟩, by omega, ⟨by omega, by omega⟩, by omega, ?_⟩
  exact fin00 hf hQ hw rfl ⟨rfl, rfl⟩

theorem spaMixedC (H : List SO) (b tb : Nat) (s : List Int) (i : Nat) (hi : i < 16) (f1 : H[b]? = some (.cells [.run .u8 16 s] tb 0 0)) :
    Spec Try.prog 109 [.int .i64 i, .ptr b 0] H fun v hs => v = .int .u8 (mxdAt s i) ∧ hs = H := by
  refine spec_h okaMixedC rfl (of_ble rfl) fun C hP hf hQ h0 hw hbd => ?_
  have l1 := lt_of_at f1
  have q0 : IntKind.i64.wrap (Int.tdiv (i : Int) 4) = ((i / 4 : Nat) : Int) := by
    rw [Int.tdiv_eq_ediv_of_nonneg (by omega), w64 (by omega) (by omega)]; omega
  have q1 : IntKind.i64.wrap (((i / 4 : Nat) : Int) * 4) = ((i / 4 * 4 : Nat) : Int) := by
    rw [w64 (by omega) (by omega)]; omega
  have q4 : (16 = i / 4 * 4) = False := by simp; omega
  have q2 : IntKind.i64.wrap (((i / 4 * 4 : Nat) : Int) + 4) = ((i / 4 * 4 + 4 : Nat) : Int) := by
    rw [w64 (by omega) (by omega)]; omega
  have q3 : Int.tmod (i : Int) 4 = ((i % 4 : Nat) : Int) := by rw [Int.tmod_eq_emod_of_nonneg (by omega)]; omega
  apply vc_ok 100
  simp only [FS.start, caMixedC, paramsE, f1, q0, q1, q2, q4, Int.toNat_natCast, go_sem, reduceCtorEq, Nat.reduceEqDiff, Nat.reduceLT, Nat.reduceLeDiff, ↓reduceIte]
  refine ⟨by decide, by decide, ⟨by omega, by omega, by omega⟩, by omega, by omega, ?_⟩
  refine ok_ch hP 100 (spaMix _ _) okaMix rfl rfl fun v hs' hq => ?_
  obtain ⟨rfl, eh⟩ := hq
  simp only [eh, q3, go_sem, reduceCtorEq, Nat.reduceEqDiff, Nat.reduceLT, ↓reduceIte]
  refine ⟨by decide, ⟨by omega, by omega⟩, ?_⟩
  exact fin00 hf hQ hw rfl ⟨rfl, rfl⟩

def boxF (s : List Int) : List Int := eachF (boxAt s)
def movF (s : List Int) : List Int := eachF (movAt s)
def mxdF (s : List Int) : List Int := eachF (mxdAt s)
def adkF (s k : List Int) : List Int := eachF (keyAt s k)

theorem spaBoxed (H : List SO) (s : List Int) (hs : ∀ i, i < 16 → 0 ≤ s.getD i 0 ∧ s.getD i 0 < 256) : Spec Try.prog 99 [.agg [.run .u8 16 s]] H fun v hs => v = .agg [.run .u8 16 (boxF s)] ∧ hs = H := by
  refine spec_h okaBoxed rfl (of_ble rfl) fun C hP hf hQ h0 hw hbd => ?_
  apply vc_ok 100
  simp only [FS.start, caBoxed, paramsE, go_sem, Nat.reduceLT, ↓reduceIte]
  refine ok_ch hP 100 (spaTable _) okaTable rfl rfl fun v hs' hq => ?_
  obtain ⟨rfl, rfl⟩ := hq
  simp only [go_sem, Nat.reduceEqDiff, Nat.reduceLT, Nat.reduceAdd, ↓reduceIte]
  refine ok_ch hP 100 (spaEach _ 107 [.ptr (H.length + 2) 0, .ptr H.length 0] (boxAt s) okaBoxedC rfl (by simp [bnds, SV.bnd]) (fun o i hi => spaBoxedC _ (H.length + 2) H.length 166 91 s i hi (by simp only [hx_new, eq_self, go_sem]) (by simp only [hx_new0, eq_self, go_sem]) (hs i hi))) okaEach rfl rfl fun v hs' hq => ?_
  obtain ⟨rfl, rfl⟩ := hq
  simp only [go_sem, Nat.reduceEqDiff, Nat.reduceLT, ↓reduceIte]
  exact fin0 hf hQ hw rfl ⟨rfl, rfl⟩

theorem spaMoved (H : List SO) (s : List Int) : Spec Try.prog 100 [.agg [.run .u8 16 s]] H fun v hs => v = .agg [.run .u8 16 (movF s)] ∧ hs = H := by
  refine spec_h okaMoved rfl (of_ble rfl) fun C hP hf hQ h0 hw hbd => ?_
  apply vc_ok 100
  simp only [FS.start, caMoved, paramsE, go_sem, Nat.reduceEqDiff, Nat.reduceLT, ↓reduceIte]
  refine ok_ch hP 100 (spaEach _ 108 [.ptr H.length 0] (movAt s) okaMovedC rfl (by simp [bnds, SV.bnd]) (fun o i hi => spaMovedC _ H.length 91 s i hi (by simp only [hx_new0, eq_self, go_sem]))) okaEach rfl rfl fun v hs' hq => ?_
  obtain ⟨rfl, rfl⟩ := hq
  simp only [go_sem, Nat.reduceEqDiff, Nat.reduceLT, ↓reduceIte]
  exact fin0 hf hQ hw rfl ⟨rfl, rfl⟩

theorem spaMixed (H : List SO) (s : List Int) : Spec Try.prog 101 [.agg [.run .u8 16 s]] H fun v hs => v = .agg [.run .u8 16 (mxdF s)] ∧ hs = H := by
  refine spec_h okaMixed rfl (of_ble rfl) fun C hP hf hQ h0 hw hbd => ?_
  apply vc_ok 100
  simp only [FS.start, caMixed, paramsE, go_sem, Nat.reduceEqDiff, Nat.reduceLT, ↓reduceIte]
  refine ok_ch hP 100 (spaEach _ 109 [.ptr H.length 0] (mxdAt s) okaMixedC rfl (by simp [bnds, SV.bnd]) (fun o i hi => spaMixedC _ H.length 91 s i hi (by simp only [hx_new0, eq_self, go_sem]))) okaEach rfl rfl fun v hs' hq => ?_
  obtain ⟨rfl, rfl⟩ := hq
  simp only [go_sem, Nat.reduceEqDiff, Nat.reduceLT, ↓reduceIte]
  exact fin0 hf hQ hw rfl ⟨rfl, rfl⟩
end Go.Pv
