/- Operations that read alone, all together. -/
import Derived.Test.YtifoaokodgbhjaaGreatVe
namespace Go.Pv
open Go

section
variable {P : Program} {ν : Nu} {N : Nat} {env : Env} {a : Act} {hs : List SO} {T : Nat → Prop} {w : World}

theorem q_slice (he : EnvOk ν N env a.tmps) {t : TypeId} {x : Operand} {lo hi mx : Option Operand} {o : O} (hc : compOp P (.slice t x lo hi mx) = some o) {p : Prop} {r : SV}
    (hv : evQ o env hs = .v p r) (hp : p) : Gives P w ν r (Instr.sliceAt t (a.eval x) (lo.map a.eval) (hi.map a.eval) (mx.map a.eval)) := by
  cases mx with
  | some m => simp [compOp] at hc
  | none =>
    simp only [compOp] at hc
    split at hc
    · rename_i e hu
      simp only [Option.pure_def, Option.bind_eq_bind, Option.bind_eq_some_iff, Option.some.injEq] at hc
      obtain ⟨n, h1, e1, h2, l, h3, h, h4, rfl⟩ := hc
      simp only [evQ] at hv
      split at hv
      · rename_i tg off len cap l' h' hx hl hh
        obtain ⟨b, hb, hE⟩ := den_sl (ev_ok he h2 hx)
        obtain ⟨i, j, hr, rfl⟩ := sliR_ok (P := P) (ν := ν) hv hp w true (opt_map_eval (evo_ok he h3 hl)) (opt_map_eval (evo_ok he h4 hh))
        refine ⟨.slice (some ⟨b, slo cap i off n, none⟩) (j - i) (cap - i), by simp [SV.den, hb], ?_⟩
        rw [hE]
        simp [Instr.sliceAt, Instr.slice, run_under hu, hr, sizeT_run h1]
        rw [← slo_add]
        split <;> rfl
      · rename_i l' h' hx hl hh
        have hE : a.eval x = .slice none 0 0 := by
          have := ev_ok he h2 hx
          simp [SV.den] at this; exact this.symm
        have hsl : ∃ p' tg of nn mm, sliR n 0 0 0 0 l' h' = .v p' (.sl tg of nn mm) ∧ p' ∧ nn = 0 ∧ mm = 0 ∧ r = .nils := by
          unfold nilSl at hv
          split at hv
          · rename_i hs0; cases hv; exact ⟨_, _, _, _, _, hs0, hp, rfl, rfl, rfl⟩
          · rename_i hs0; cases hv; exact ⟨_, _, _, _, _, hs0, hp.1, hp.2.1, hp.2.2, rfl⟩
          · cases hv
        obtain ⟨p', tg, of, nn, mm, hs0, hp', rfl, rfl, rfl⟩ := hsl
        obtain ⟨i, j, hr, hx2⟩ := sliR_ok (P := P) (ν := ν) hs0 hp' w true (opt_map_eval (evo_ok he h3 hl)) (opt_map_eval (evo_ok he h4 hh))
        simp only [SV.sl.injEq] at hx2
        refine ⟨.slice none 0 0, rfl, ?_⟩
        rw [hE]
        simp [Instr.sliceAt, Instr.slice, run_under hu, hr, sizeT_run h1]
        omega
      · cases hv
    · rename_i n e hu
      simp only [Option.pure_def, Option.bind_eq_bind, Option.bind_eq_some_iff, Option.some.injEq] at hc
      obtain ⟨sz, h1, e1, h2, l, h3, h, h4, rfl⟩ := hc
      simp only [evQ] at hv
      split at hv
      · rename_i tg off l' h' hx hl hh
        obtain ⟨b, hb, hE⟩ := den_ptr (ev_ok he h2 hx)
        obtain ⟨i, j, hr, rfl⟩ := sliR_ok (P := P) (ν := ν) hv hp w false (opt_map_eval (evo_ok he h3 hl)) (opt_map_eval (evo_ok he h4 hh))
        refine ⟨.slice (some ⟨b, slo n i off sz, none⟩) (j - i) (n - i), by simp [SV.den, hb], ?_⟩
        rw [hE]
        simp [Instr.sliceAt, Instr.sureAddr, run_under hu, hr, sizeT_run h1]
        rw [← slo_add]
      · cases hv
    · rename_i hu
      simp only [Option.pure_def, Option.bind_eq_bind, Option.bind_eq_some_iff, Option.some.injEq] at hc
      obtain ⟨e1, h2, l, h3, h, h4, rfl⟩ := hc
      simp only [evQ] at hv
      split at hv
      · rename_i s k h' hx hl hh
        cases hv
        have hE := den_str (ev_ok he h2 hx)
        rcases evo_ok he h3 hl with ⟨rfl, _⟩ | ⟨_, _, _, h5, _⟩
        · rcases evo_ok he h4 hh with ⟨_, h5⟩ | ⟨y, u, rfl, h5, h6⟩
          · cases h5
          · cases h5
            have hI := den_int h6
            obtain ⟨p0, p1⟩ := hp
            refine ⟨_, rfl, ?_⟩
            rw [hE]
            simp [Instr.sliceAt, Instr.slice, run_under hu, hI, Instr.sliceBounds, run_sliceBound_ok p0 p1]
        · cases h5
      · rename_i s k l' hx hl hh
        cases hv
        have hE := den_str (ev_ok he h2 hx)
        rcases evo_ok he h3 hl with ⟨_, h5⟩ | ⟨y, u, rfl, h5, h6⟩
        · cases h5
        · cases h5
          have hI := den_int h6
          rcases evo_ok he h4 hh with ⟨rfl, _⟩ | ⟨_, _, _, h5, _⟩
          · obtain ⟨p0, p1⟩ := hp
            refine ⟨_, rfl, ?_⟩
            rw [hE]
            simp [Instr.sliceAt, Instr.slice, run_under hu, hI, Instr.sliceBounds, run_sliceBound_ok p0 p1]
          · cases h5
      · rename_i s k l' k2 h' hx hl hh
        cases hv
        have hE := den_str (ev_ok he h2 hx)
        rcases evo_ok he h3 hl with ⟨_, h5⟩ | ⟨y, u, rfl, h5, h6⟩
        · cases h5
        · cases h5
          have hI := den_int h6
          rcases evo_ok he h4 hh with ⟨_, h5⟩ | ⟨y2, u2, rfl, h5, h7⟩
          · cases h5
          · cases h5
            have hI2 := den_int h7
            obtain ⟨p0, p1, p2⟩ := hp
            refine ⟨_, rfl, ?_⟩
            rw [hE]
            have p3 : l' ≤ (h'.toNat : Int) := by omega
            simp [Instr.sliceAt, Instr.slice, run_under hu, hI, hI2, Instr.sliceBounds, run_sliceBound_ok (show 0 ≤ h' by omega) p2, run_sliceBound_ok p0 p3]
      · cases hv
    · cases hc

theorem q_indexAddr (he : EnvOk ν N env a.tmps) {t : TypeId} {x i : Operand} {o : O} (hc : compOp P (.indexAddr t x i) = some o) {p : Prop} {r : SV}
    (hv : evQ o env hs = .v p r) (hp : p) : Gives P w ν r (Instr.indexAt t (a.eval x) (a.eval i)) := by
  simp only [compOp] at hc
  split at hc
  · rename_i n e hu
    simp only [Option.pure_def, Option.bind_eq_bind, Option.bind_eq_some_iff, Option.some.injEq] at hc
    obtain ⟨sz, h1, e1, h2, e2, h3, rfl⟩ := hc
    simp only [evQ] at hv
    split at hv
    · rename_i tg off k ix hx hi
      cases hv
      obtain ⟨b, hb, hE⟩ := den_ptr (ev_ok he h2 hx)
      have hI := den_int (ev_ok he h3 hi)
      obtain ⟨p0, p1⟩ := hp
      refine ⟨.pointer (some ⟨b, ix.toNat * sz + off, none⟩), by simp [SV.den, hb], ?_⟩
      rw [hE, hI]
      simp [Instr.indexAt, asIntOf_int, run_under hu, Instr.sureAddr, p0, p1, sizeT_run h1, add_mid, Nat.add_comm]
    · cases hv
  · rename_i e hu
    simp only [Option.pure_def, Option.bind_eq_bind, Option.bind_eq_some_iff, Option.some.injEq] at hc
    obtain ⟨sz, h1, e1, h2, e2, h3, rfl⟩ := hc
    simp only [evQ] at hv
    split at hv
    · rename_i tg off len cap k ix hx hi
      cases hv
      obtain ⟨b, hb, hE⟩ := den_sl (ev_ok he h2 hx)
      have hI := den_int (ev_ok he h3 hi)
      obtain ⟨p0, p1⟩ := hp
      refine ⟨.pointer (some ⟨b, ix.toNat * sz + off, none⟩), by simp [SV.den, hb], ?_⟩
      rw [hE, hI]
      simp [Instr.indexAt, asIntOf_int, run_under hu, p0, p1, sizeT_run h1, add_mid, Nat.add_comm]
    · cases hv
  · cases hc

theorem mapM_run {α β : Type} {f : α → Sem β} {g : α → β} : ∀ (l : List α), (∀ x ∈ l, ∀ w, (f x).run P w = .ok (g x) w) → ∀ w, (l.mapM f).run P w = .ok (l.map g) w
  | [], _, w => by simp
  | x :: r, h, w => by
    have := mapM_run r (fun y hy => h y (List.mem_cons_of_mem _ hy))
    simp [List.mapM_cons, h x List.mem_cons_self, this]

theorem zeroOf_ok {t : TypeId} {z : List SV} (hz : zeroOf P t = some z) : ∃ i V, P.info? t = some i ∧ i.zero = some V ∧ V.cells.size = i.size ∧ ∀ ν, dens ν z = some V.cells.toList := by
  simp only [zeroOf, Option.bind_eq_some_iff] at hz
  obtain ⟨z', _, hz⟩ := hz
  split at hz
  · rename_i i hi
    split at hz
    · rename_i V hV
      split at hz
      · rename_i hq
        cases hz
        exact ⟨i, V, hi, hV, hq.2, fun ν => eqc_ok _ _ hq.1⟩
      · cases hz
    · cases hz
  · cases hz

theorem q_build (he : EnvOk ν N env a.tmps) {t : TypeId} {ps : Array (Nat × Operand)} {o : O} (hc : compOp P (.build t ps) = some o) {p : Prop} {r : SV}
    (hv : evQ o env hs = .v p r) : Gives P w ν r (Instr.build t (ps.map fun (i, x) => (i, a.eval x))) := by
  simp only [compOp, Option.bind_eq_bind, Option.bind_eq_some_iff] at hc
  obtain ⟨z, hz, hc⟩ := hc
  have hz' : ∃ i V, P.info? t = some i ∧ i.zero = some V ∧ dens ν z = some V.cells.toList := by
    obtain ⟨i, V, h1, h2, _, h3⟩ := zeroOf_ok hz
    exact ⟨i, V, h1, h2, h3 ν⟩
  obtain ⟨inf, V, hi, hzV, hdz⟩ := hz'
  have hmap : (ps.map fun (i, x) => (i, a.eval x)).toList = ps.toList.map fun q => (q.1, a.eval q.2) := by simp
  split at hc
  · rename_i fs hu
    simp only [Option.bind_eq_some_iff] at hc
    obtain ⟨qs, hq, hc⟩ := hc
    split at hc
    · rename_i hall
      simp at hc; subst hc
      simp only [evQ] at hv
      split at hv
      · rename_i cs' hb
        cases hv
        obtain ⟨C', h1, h2⟩ := fill_ok he _ _ _ _ _ hq hb hdz
        refine ⟨.agg C'.toArray, by simp [SV.den, h1], ?_⟩
        have hpl : (fs.mapM fun f => do pure (f.offset, ← sizeOf f.type) : Sem (Array (Nat × Nat))).run P w = .ok (fs.map fun f => (f.offset, (sizeT P f.type).getD 0)) w := by
          rw [Array.mapM_eq_mapM_toList]
          have := mapM_run (P := P) (f := fun f : Field => (do pure (f.offset, ← sizeOf f.type) : Sem (Nat × Nat))) (g := fun f => (f.offset, (sizeT P f.type).getD 0)) fs.toList (fun x hx w => by
            have h1 := Array.all_eq_true_iff_forall_mem.1 hall x (by simpa using hx)
            obtain ⟨n, hn⟩ := Option.isSome_iff_exists.1 h1
            simp [sizeT_run hn, hn]) w
          simp only [Sem.run_map, this, Result.andThen_ok]
          rw [← Array.toList_map]
        simp only [Instr.build, Sem.run_bind, zeroValue, typeInfo, run_program, Result.andThen_ok, hi, hzV, Sem.run_pure, run_under hu, hpl]
        rw [hmap]
        have hf : (fun (i : Nat) => (fs.map fun f => (f.offset, (sizeT P f.type).getD 0))[i]?) = fun (i : Nat) => (fs[i]?).bind fun (f : Field) => (sizeT P f.type).map fun n => (f.offset, n) := by
          funext i
          rw [Array.getElem?_map]
          cases hfi : fs[i]? with
          | none => rfl
          | some f =>
            have h1 := Array.all_eq_true_iff_forall_mem.1 hall f (Array.mem_of_getElem? hfi)
            obtain ⟨n, hn⟩ := Option.isSome_iff_exists.1 h1
            simp [hn]
        simp only [Array.toArray_toList] at h2
        rw [hf, h2]
        rfl
      · cases hv
    · cases hc
  · rename_i n e hu
    simp only [Option.bind_eq_some_iff, Option.pure_def, Option.some.injEq] at hc
    obtain ⟨sz, h1, qs, hq, rfl⟩ := hc
    simp only [evQ] at hv
    split at hv
    · rename_i cs' hb
      cases hv
      obtain ⟨C', h2, h3⟩ := fill_ok he _ _ _ _ _ hq hb hdz
      refine ⟨.agg C'.toArray, by simp [SV.den, h2], ?_⟩
      simp only [Instr.build, Sem.run_bind, zeroValue, typeInfo, run_program, Result.andThen_ok, hi, hzV, Sem.run_pure, run_under hu, sizeT_run h1]
      rw [hmap]
      simp only [Array.toArray_toList] at h3
      rw [h3]
      rfl
    · cases hv
  · cases hc

/-- **What reads alone gives what `evQ` says**. -/
theorem quiet_ok (he : EnvOk ν N env a.tmps) {op : Oper} {o : O} (hc : compOp P op.op = some o) (hl : Look P ν hs T w) (ht : ∀ t, tagQ o env = some t → T t) {p : Prop} {r : SV}
    (hv : evQ o env hs = .v p r) (hp : p) : ∃ V, r.den ν = some V ∧ (execOp a.eval op).run P w = .ok (.value V) w := by
  obtain ⟨dst, op, type, pos, after, guard⟩ := op
  simp only at hc
  cases op with
  | move x =>
    simp only [compOp, Option.map_eq_some_iff] at hc
    obtain ⟨e, h1, rfl⟩ := hc
    simp only [evQ] at hv
    split at hv
    · rename_i v hx; cases hv; exact ⟨_, ev_ok he h1 hx, rfl⟩
    · cases hv
  | assign x =>
    simp only [compOp, Option.map_eq_some_iff] at hc
    obtain ⟨e, h1, rfl⟩ := hc
    simp only [evQ] at hv
    split at hv
    · rename_i v hx; cases hv; exact ⟨_, ev_ok he h1 hx, rfl⟩
    · cases hv
  | pick c x y =>
    simp only [compOp, Option.pure_def, Option.bind_eq_bind, Option.bind_eq_some_iff, Option.some.injEq] at hc
    obtain ⟨e1, h1, e2, h2, e3, h3, rfl⟩ := hc
    simp only [evQ] at hv
    split at hv
    · rename_i t u v hx hy hz
      cases hv
      have hX := den_bool (ev_ok he h1 hx)
      have hY := den_bool (ev_ok he h2 hy)
      have hZ := den_bool (ev_ok he h3 hz)
      refine ⟨_, rfl, ?_⟩
      cases t <;> simp [execOp, hX, hY, hZ, asBool]
    · rename_i v _ hx hy _
      cases hv
      have hX := den_bool (ev_ok he h1 hx)
      exact ⟨_, ev_ok he h2 hy, by simp [execOp, hX, asBool]⟩
    · rename_i v _ hx hy _
      cases hv
      have hX := den_bool (ev_ok he h1 hx)
      exact ⟨_, ev_ok he h3 hy, by simp [execOp, hX, asBool]⟩
    · cases hv
  | load t x => exact gives_v (q_load he hc hl ht hv hp)
  | nilCheck x =>
    simp only [compOp, Option.map_eq_some_iff] at hc
    obtain ⟨e, h1, rfl⟩ := hc
    simp only [evQ] at hv
    split at hv
    · rename_i t off hx
      cases hv
      have hE := ev_ok he h1 hx
      obtain ⟨b, hb, hE'⟩ := den_ptr hE
      exact ⟨_, hE, by simp [execOp, hE']⟩
    · rename_i f cs hx
      cases hv
      have hE := ev_ok he h1 hx
      refine ⟨_, hE, ?_⟩
      simp only [SV.den, Option.map_eq_some_iff] at hE
      obtain ⟨C, _, hE'⟩ := hE
      simp [execOp, ← hE']
    · rename_i t hx
      cases hv
      have hE := ev_ok he h1 hx
      refine ⟨_, hE, ?_⟩
      simp only [SV.den, Option.map_eq_some_iff] at hE
      obtain ⟨C, _, hE'⟩ := hE
      simp [execOp, ← hE']
    · cases hv
  | binOp o2 ty x y ty2 => exact gives_v (q_bin he hc hv hp)
  | unOp o2 ty x =>
    simp only [compOp, Option.map_eq_some_iff] at hc
    obtain ⟨e, h1, rfl⟩ := hc
    simp only [evQ] at hv
    split at hv
    · rename_i v hx
      have hE := ev_ok he h1 hx
      unfold unR at hv
      split at hv
      · cases hv
        have := den_int hE
        exact ⟨_, rfl, by simp [execOp, this, Op.unary, Op.intArith]⟩
      · cases hv
        have := den_int hE
        exact ⟨_, rfl, by simp [execOp, this, Op.unary, Op.intBits, bw]⟩
      · cases hv
        have := den_bool hE
        exact ⟨_, rfl, by simp [execOp, this, Op.unary]⟩
      · cases hv
    · cases hv
  | convert src dst2 x =>
    simp only [compOp, Option.bind_eq_bind, Option.bind_eq_some_iff] at hc
    obtain ⟨e, h1, hc⟩ := hc
    split at hc
    · rename_i hs1 hs2
      simp at hc; subst hc
      simp only [evQ] at hv
      split at hv
      · rename_i k' n hx
        cases hv
        have := den_int (ev_ok he h1 hx)
        refine ⟨_, rfl, ?_⟩
        simp [execOp, this, convert, run_under hs1, run_under hs2, Conv.intToInt]
      · cases hv
    · rename_i hs1 hs2
      simp at hc; subst hc
      simp only [evQ] at hv
      split at hv
      · rename_i s hx
        cases hv
        have hE := den_str (ev_ok he h1 hx)
        refine ⟨_, rfl, ?_⟩
        simp [execOp, hE, convert, run_under hs1, run_under hs2]
      · cases hv
    · split at hc
      · simp at hc; subst hc; simp [evQ] at hv
      · cases hc
    · split at hc
      · simp at hc; subst hc; simp [evQ] at hv
      · cases hc
    · split at hc
      · split at hc
        · simp at hc; subst hc; simp [evQ] at hv
        · cases hc
      · cases hc
    · cases hc
  | sliceToArrayPointer t x =>
    simp only [compOp] at hc
    split at hc
    · rename_i n e hu
      simp only [Option.map_eq_some_iff] at hc
      obtain ⟨e, h1, rfl⟩ := hc
      simp only [evQ] at hv
      split at hv
      · rename_i tg off len cap hx
        cases hv
        obtain ⟨b, hb, hE⟩ := den_sl (ev_ok he h1 hx)
        refine ⟨.pointer (some ⟨b, off, none⟩), by simp [SV.den, hb], ?_⟩
        simp [execOp, hE, Instr.arrayAt, run_under hu, show ¬ len < n from Nat.not_lt.2 hp]
      · cases hv
    · cases hc
  | makeFunc fn first caps =>
    cases fn with
    | func f =>
      simp only [compOp] at hc
      split at hc
      · rename_i hf
        simp only [Option.map_eq_some_iff] at hc
        obtain ⟨es, h1, rfl⟩ := hc
        simp only [evQ] at hv
        split at hv
        · rename_i vs hx
          split at hv
          · rename_i hall
            cases hv
            obtain ⟨_, h2⟩ := evs_ok he _ _ _ h1 hx
            have h3 := dens_of_map vs (caps.toList.map a.eval) hall (by rw [h2, List.map_map]; rfl)
            have e1 : (caps.toList.map a.eval).toArray = caps.map a.eval := by rw [← Array.toList_map]
            refine ⟨.func (.func f) #[] (caps.map a.eval), by simp only [SV.den, h3, Option.map_some, e1], ?_⟩
            have : first = #[] := Array.size_eq_zero_iff.1 hf
            subst this
            simp [execOp, Instr.makeFunc]
          · cases hv
        · cases hv
      · cases hc
    | _ => simp [compOp] at hc
  | slice t x lo hi mx => exact gives_v (q_slice he hc hv hp)
  | fieldAddr t x f =>
    simp only [compOp] at hc
    split at hc
    · rename_i fs hu
      simp only [Option.bind_eq_some_iff] at hc
      obtain ⟨fd, h1, n, h2, hc⟩ := hc
      split at hc
      · cases hc
      · rename_i h0
        simp only [Option.map_eq_some_iff] at hc
        obtain ⟨e, h3, rfl⟩ := hc
        simp only [evQ] at hv
        split at hv
        · rename_i tg off hx
          cases hv
          obtain ⟨b, hb, hE⟩ := den_ptr (ev_ok he h3 hx)
          refine ⟨.pointer (some ⟨b, off + fd.offset, none⟩), by simp [SV.den, hb], ?_⟩
          simp [execOp, hE, Instr.fieldAt, run_under hu, h1, Instr.sureAddr, run_fieldPlace h2 h0, add_mid]
        · cases hv
    · cases hc
  | indexAddr t x i => exact gives_v (q_indexAddr he hc hv hp)
  | field t x f => exact gives_v (q_field he hc hv hp)
  | index t x i => exact gives_v (q_index he hc hv hp)
  | build t ps => exact gives_v (q_build he hc hv)
  | extract x i =>
    simp only [compOp, Option.map_eq_some_iff] at hc
    obtain ⟨e, h1, rfl⟩ := hc
    simp only [evQ] at hv
    split at hv
    · rename_i vs hx
      split at hv
      · rename_i v hvi
        split at hv
        · rename_i hall
          cases hv
          obtain ⟨C, hd, hE⟩ := den_tup (ev_ok he h1 hx)
          have hm := map_of_dens vs C hall hd
          have hm2 : (C.map some)[i]? = some (SV.den ν r) := by rw [← hm]; simp [hvi]
          rw [List.getElem?_map] at hm2
          cases hCi : C[i]? with
          | none => rw [hCi] at hm2; cases hm2
          | some V =>
            rw [hCi] at hm2
            simp at hm2
            exact ⟨V, hm2.symm, by simp [execOp, hE, Instr.extract, hCi]⟩
        · cases hv
      · cases hv
    · cases hv
  | call c =>
    obtain ⟨cal, args, argTypes⟩ := c
    cases cal with
    | value f =>
      simp only [compOp, Option.pure_def, Option.bind_eq_bind, Option.bind_eq_some_iff, Option.some.injEq] at hc
      obtain ⟨_, _, _, _, rfl⟩ := hc
      simp [evQ] at hv
    | invoke r m => simp [compOp] at hc
    | builtin b =>
      cases b with
      | len =>
        simp only [compOp] at hc
        split at hc
        · rename_i x t hx1 hx2
          have ha : args = #[x] := by rw [← Array.toList_inj]; exact hx1
          have ht : argTypes = #[t] := by rw [← Array.toList_inj]; exact hx2
          subst ha ht
          split at hc
          · rename_i e hu
            simp only [Option.map_eq_some_iff] at hc
            obtain ⟨e', h1, rfl⟩ := hc
            simp only [evQ] at hv
            split at hv
            · rename_i tg off n cap hx
              cases hv
              obtain ⟨b, hb, hE⟩ := den_sl (ev_ok he h1 hx)
              exact ⟨_, rfl, by simp [execOp, resolve, invoke, builtin, hE, Builtin.len_, run_under hu, goInt]⟩
            · rename_i hx
              cases hv
              have hE := ev_ok he h1 hx
              simp [SV.den] at hE
              exact ⟨_, rfl, by simp [execOp, resolve, invoke, builtin, ← hE, Builtin.len_, run_under hu, goInt]⟩
            · cases hv
          · rename_i hu
            simp only [Option.map_eq_some_iff] at hc
            obtain ⟨e', h1, rfl⟩ := hc
            simp only [evQ] at hv
            split at hv
            · rename_i s hx
              cases hv
              have hE := den_str (ev_ok he h1 hx)
              exact ⟨_, rfl, by simp [execOp, resolve, invoke, builtin, hE, Builtin.len_, run_under hu, goInt]⟩
            · cases hv
          · rename_i n e hu
            cases hc
            simp only [evQ] at hv
            cases hv
            refine ⟨_, rfl, ?_⟩
            simp [execOp, resolve, invoke, builtin, Builtin.len_, run_under hu, goInt]
          · cases hc
        · cases hc
      | cap =>
        simp only [compOp] at hc
        split at hc
        · rename_i x t hx1 hx2
          have ha : args = #[x] := by rw [← Array.toList_inj]; exact hx1
          have ht : argTypes = #[t] := by rw [← Array.toList_inj]; exact hx2
          subst ha ht
          split at hc
          · rename_i e hu
            simp only [Option.map_eq_some_iff] at hc
            obtain ⟨e', h1, rfl⟩ := hc
            simp only [evQ] at hv
            split at hv
            · rename_i tg off n cap hx
              cases hv
              obtain ⟨b, hb, hE⟩ := den_sl (ev_ok he h1 hx)
              exact ⟨_, rfl, by simp [execOp, resolve, invoke, builtin, hE, Builtin.cap_, run_under hu, goInt]⟩
            · rename_i hx
              cases hv
              have hE := ev_ok he h1 hx
              simp [SV.den] at hE
              exact ⟨_, rfl, by simp [execOp, resolve, invoke, builtin, ← hE, Builtin.cap_, run_under hu, goInt]⟩
            · cases hv
          · cases hc
        · cases hc
      | max =>
        simp only [compOp, Option.map_eq_some_iff] at hc
        obtain ⟨es, h1, rfl⟩ := hc
        simp only [evQ] at hv
        split at hv
        · rename_i k c k' d hx
          split at hv
          · rename_i hk
            subst hk
            cases hv
            obtain ⟨_, h2⟩ := evs_ok he _ _ _ h1 hx
            have h3 : (args.map a.eval).toList = [.int k c, .int k d] := by
              rw [Array.toList_map]
              cases hargs : args.toList with
              | nil => rw [hargs] at h2; simp at h2
              | cons y r =>
                rw [hargs] at h2
                cases r with
                | nil => simp at h2
                | cons z r =>
                  cases r with
                  | nil => simp [SV.den] at h2; simp [← h2.1, ← h2.2]
                  | cons _ _ => simp at h2
            have h4 : args.map a.eval = #[.int k c, .int k d] := by rw [← Array.toList_inj]; exact h3
            exact ⟨_, rfl, by simp [execOp, resolve, invoke, builtin, h4, Builtin.max_, Builtin.max2]⟩
          · cases hv
        · cases hv
      | min =>
        simp only [compOp, Option.map_eq_some_iff] at hc
        obtain ⟨es, h1, rfl⟩ := hc
        simp only [evQ] at hv
        split at hv
        · rename_i k c k' d hx
          split at hv
          · rename_i hk
            subst hk
            cases hv
            obtain ⟨_, h2⟩ := evs_ok he _ _ _ h1 hx
            have h3 : (args.map a.eval).toList = [.int k c, .int k d] := by
              rw [Array.toList_map]
              cases hargs : args.toList with
              | nil => rw [hargs] at h2; simp at h2
              | cons y r =>
                rw [hargs] at h2
                cases r with
                | nil => simp at h2
                | cons z r =>
                  cases r with
                  | nil => simp [SV.den] at h2; simp [← h2.1, ← h2.2]
                  | cons _ _ => simp at h2
            have h4 : args.map a.eval = #[.int k c, .int k d] := by rw [← Array.toList_inj]; exact h3
            exact ⟨_, rfl, by simp [execOp, resolve, invoke, builtin, h4, Builtin.min_, Builtin.min2]⟩
          · cases hv
        · cases hv
      | append =>
        simp only [compOp] at hc
        split at hc
        · split at hc
          · simp only [Option.bind_eq_bind, Option.bind_eq_some_iff] at hc
            obtain ⟨_, _, _, _, _, _, _, _, _, _, hc⟩ := hc
            split at hc
            · cases hc
            · split at hc
              · simp at hc; subst hc; simp [evQ] at hv
              · simp at hc; subst hc; simp [evQ] at hv
              · simp at hc; subst hc; simp [evQ] at hv
              · cases hc
          · cases hc
        · cases hc
      | copy =>
        simp only [compOp] at hc
        split at hc
        · split at hc
          · simp only [Option.bind_eq_bind, Option.bind_eq_some_iff] at hc
            obtain ⟨_, _, _, _, _, _, hc⟩ := hc
            simp at hc; subst hc; simp [evQ] at hv
          · cases hc
        · cases hc
      | _ => simp [compOp] at hc
  | alloc t =>
    simp only [compOp, Option.map_eq_some_iff] at hc
    obtain ⟨_, _, rfl⟩ := hc
    simp [evQ] at hv
  | box t x =>
    simp only [compOp, Option.map_eq_some_iff] at hc
    obtain ⟨_, _, rfl⟩ := hc
    simp [evQ] at hv
  | buildSlice t n ps =>
    simp only [compOp] at hc
    split at hc
    · simp only [Option.bind_eq_bind, Option.bind_eq_some_iff] at hc
      obtain ⟨_, _, _, _, _, _, hc⟩ := hc
      split at hc
      · simp at hc; subst hc; simp [evQ] at hv
      · cases hc
    · cases hc
  | store t x y =>
    simp only [compOp, Option.bind_eq_bind, Option.bind_eq_some_iff] at hc
    obtain ⟨_, _, _, _, _, _, hc⟩ := hc
    split at hc
    · simp at hc; subst hc; simp [evQ] at hv
    · split at hc
      · simp at hc; subst hc; simp [evQ] at hv
      · cases hc
  | makeSlice t l c =>
    simp only [compOp] at hc
    split at hc
    · simp only [Option.bind_eq_bind, Option.bind_eq_some_iff] at hc
      obtain ⟨_, _, _, _, _, _, _, _, _, _, hc⟩ := hc
      simp at hc; subst hc; simp [evQ] at hv
    · cases hc
  | makeMap t r =>
    cases r with
    | none => simp [compOp] at hc; subst hc; simp [evQ] at hv
    | some r => simp [compOp] at hc
  | insert t m k v =>
    simp only [compOp] at hc
    split at hc
    · split at hc
      · simp only [Option.bind_eq_bind, Option.bind_eq_some_iff] at hc
        obtain ⟨_, _, _, _, _, _, hc⟩ := hc
        simp at hc; subst hc; simp [evQ] at hv
      · cases hc
    · cases hc
  | mapUpdate t m k v =>
    simp only [compOp] at hc
    split at hc
    · split at hc
      · simp only [Option.bind_eq_bind, Option.bind_eq_some_iff] at hc
        obtain ⟨_, _, _, _, _, _, hc⟩ := hc
        simp at hc; subst hc; simp [evQ] at hv
      · cases hc
    · cases hc
  | lookup t m k ok =>
    simp only [compOp] at hc
    split at hc
    · split at hc
      · simp only [Option.bind_eq_bind, Option.bind_eq_some_iff] at hc
        obtain ⟨_, _, _, _, _, _, hc⟩ := hc
        simp at hc; subst hc; simp [evQ] at hv
      · cases hc
    · cases hc
  | _ => simp [compOp] at hc
end

end Go.Pv
