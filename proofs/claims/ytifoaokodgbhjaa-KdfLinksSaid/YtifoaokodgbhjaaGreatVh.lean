/- Operations that write or make memory, all together. -/
import Derived.RangeFuncRecord
import Derived.Test.YtifoaokodgbhjaaGreatVg
namespace Go.Pv
open Go

section
variable {P : Program} {w0 : World} {ν0 ν : Nu} {N : Nat} {env : Env} {a : Act} {hs : List SO} {w : World}

theorem run_copy {t e : TypeId} {n : Nat} (hu : P.underlying t = some (.slice e)) (hsz : sizeT P e = some n) {ad : Addr} {dLen cap m : Nat} {Vx : Value} {D : List Value} {w w' : World} (hlen : (Builtin.lenOf Vx).run P w = .ok m w)
    (hf : (Builtin.firstCells n (min m dLen) Vx).run P w = .ok D.toArray w) (hst : (storeCells ad D).run P w = .ok () w') (ty : TypeId) (ts : List TypeId) :
    (Builtin.copy_ (t :: ts).toArray ty #[.slice (some ad) dLen cap, Vx]).run P w = .ok (.int .i64 ((min m dLen : Nat) : Int)) w' := by
  have h0 : ((t :: ts).toArray)[0]? = some t := by simp
  simp only [Builtin.copy_, h0]
  simp [run_under hu, hlen, sizeT_run hsz, show Nat.min m dLen = min m dLen from rfl, hf, hst, goInt]

theorem w_copy (rel : Rel P w0 ν0 ν hs w) (he : EnvOk ν N env a.tmps) {args : Array Operand} {argTypes : Array TypeId} {ty : TypeId} {o : O} (hc : compOp P (.call { callee := .builtin .copy, args, argTypes }) = some o) :
    Does P w0 ν0 ν hs ((do pure (Next.value (← Builtin.copy_ argTypes ty (args.map a.eval))) : Sem Next).run P w) (evW o env hs) := by
  simp only [compOp] at hc
  split at hc
  · rename_i x y t ts hx1 hx2
    have ha : args = #[x, y] := by rw [← Array.toList_inj]; exact hx1
    have ht : argTypes = (t :: ts).toArray := by rw [← Array.toList_inj]; simpa using hx2
    subst ha ht
    split at hc
    · rename_i e hu
      simp only [Option.pure_def, Option.bind_eq_bind, Option.bind_eq_some_iff, Option.some.injEq] at hc
      obtain ⟨n, hn, e1, h1, e2, h2, rfl⟩ := hc
      simp only [evW]
      split
      rotate_left
      · trivial
      rename_i tg off len cap sx hx hy
      obtain ⟨b, hb, hE⟩ := den_sl (ev_ok he h1 hx)
      have hY := ev_ok he h2 hy
      split
      rotate_left
      · trivial
      rename_i p1 src m hs1
      split
      rotate_left
      · trivial
      rename_i cs ty' f g hh
      have hargs : (#[x, y] : Array Operand).map a.eval = #[a.eval x, a.eval y] := by simp
      rw [hargs, hE]
      obtain ⟨C, hC, hw⟩ := rel_at rel hb hh
      split
      · rename_i hml
        split
        · rename_i p3 cs' hst
          rintro ⟨hp1, hp3, hfr⟩
          obtain ⟨D, d1, d2, d3, d4, d5⟩ := srcC_ok rel hs1 hp1 hY
          obtain ⟨g1, g2, g3, g4⟩ := staC_ok hst hp3 hC d1
          obtain ⟨w', r1, r2, r3, r4, r5, r6, r7⟩ := run_storeCellsF (P := P) D w b off 0 C ty' f g hw (by rw [g1]; omega) (by rw [g1]; exact hfr) g4
          have hr := run_copy (P := P) hu hn (dLen := len) (cap := cap) (d3 w) (by rw [Nat.min_eq_left hml]; exact d4) r1 ty ts
          refine ⟨.int .i64 m, w', ν, Ext.refl _, rel_cells rel hb g3 r2 r3 r4 r5 r6 (by rw [r7]; simp [g1]), rfl, ?_⟩
          rw [Sem.run_bind, hr, Nat.min_eq_left hml]
          rfl
        · trivial
      · rename_i hml
        have hlm : len ≤ m := by omega
        split
        · rename_i p2 src' hld
          split
          · rename_i p3 cs' hst
            rintro ⟨hp1, hp2, hp3, hfr⟩
            obtain ⟨D, d1, d2, d3, d4, d5⟩ := srcC_ok rel hs1 hp1 hY
            obtain ⟨d', hd', hl', hdd⟩ := ldaR_ok d1 hld hp2
            cases hd'
            rw [List.drop_zero] at hdd
            obtain ⟨g1, g2, g3, g4⟩ := staC_ok hst hp3 hC hdd
            obtain ⟨w', r1, r2, r3, r4, r5, r6, r7⟩ := run_storeCellsF (P := P) (D.take (len * n)) w b off 0 C ty' f g hw (by rw [g1]; omega) (by rw [g1]; exact hfr) g4
            have hr := run_copy (P := P) hu hn (dLen := len) (cap := cap) (d3 w) (by rw [Nat.min_eq_right hlm]; exact d5 len hlm) r1 ty ts
            refine ⟨.int .i64 len, w', ν, Ext.refl _, rel_cells rel hb g3 r2 r3 r4 r5 r6 (by rw [r7, g1]; simp), rfl, ?_⟩
            rw [Sem.run_bind, hr, Nat.min_eq_right hlm]
            rfl
          · trivial
        · trivial
    · cases hc
  · cases hc

theorem w_call (he : EnvOk ν N env a.tmps) {f : Operand} {args : Array Operand} {argTypes : Array TypeId} {o : O} (hc : compOp P (.call { callee := .value f, args, argTypes }) = some o) {x : SV} {as : List SV} (h : evW o env hs = .call x as) :
    x.den ν = some (a.eval f) ∧ dens ν as = some (args.map a.eval).toList := by
  simp only [compOp, Option.pure_def, Option.bind_eq_bind, Option.bind_eq_some_iff, Option.some.injEq] at hc
  obtain ⟨e1, h1, e2, h2, rfl⟩ := hc
  simp only [evW] at h
  split at h
  · rename_i f' as' hx hy
    split at h
    · rename_i hall
      cases h
      refine ⟨ev_ok he h1 hx, ?_⟩
      have := evs_ok he _ _ _ h2 hy
      exact dens_of_map _ _ hall (by rw [Array.toList_map, List.map_map]; exact this.2)
    · cases h
  · cases h

theorem w_s2b (rel : Rel P w0 ν0 ν hs w) (he : EnvOk ν N env a.tmps) {src dst : TypeId} {x : Operand} {o : O} (hc : compOp P (.convert src dst x) = some o) :
    Does P w0 ν0 ν hs ((do pure (Next.value (← convert src dst (a.eval x))) : Sem Next).run P w) (evW o env hs) := by
  simp only [compOp, Option.bind_eq_bind, Option.bind_eq_some_iff] at hc
  obtain ⟨e, h1, hc⟩ := hc
  split at hc
  · simp at hc; subst hc; trivial
  · simp at hc; subst hc; trivial
  · rename_i el hs1 hs2
    split at hc
    rotate_left
    · cases hc
    rename_i hs3
    simp at hc; subst hc
    simp only [evW]
    split
    rotate_left
    · trivial
    rename_i s hx
    have hE := den_str (ev_ok he h1 hx)
    intro hp
    right
    refine ⟨by omega, ?_⟩
    have hsz : s.data.toList.length = s.size := by show s.data.toList.length = s.data.size; simp
    have hr := run_bytes_of_string (P := P) w src dst el s hs1 hs2 hs3
    have hge : s.size ≤ grownCap w s.size 0 el := by simp [grownCap, Question.cut]
    generalize grownCap w s.size 0 el = cp at *
    refine ⟨cp + 1, by omega, ?_⟩
    have hrow : (bytesRow s cp) = ((s.data.toList.map (fun b : UInt8 => (b.toNat : Int)) ++ List.replicate (cp - s.size) 0).map (Value.int .u8)).toArray := by
      rw [← Array.toList_inj]
      simp [bytesRow]
    have hlen : (bytesRow s cp).size = cp := by rw [hrow]; simp; omega
    have hd : dens ν [.run .u8 (cp + 1 - 1) (s.data.toList.map (fun b : UInt8 => (b.toNat : Int)) ++ List.replicate (cp + 1 - 1 - s.size) 0)] = some (bytesRow s cp).toList := by
      rw [hrow]
      simp only [Nat.add_sub_cancel]
      rw [dens_run_mk (by simp; omega) (dens_nil ν)]
      simp
    refine ⟨.slice (some ⟨w.drew.heap.size, 0, none⟩) s.size cp, _, ν ++ [w.drew.heap.size], Ext.app _ _, (rel_drew rel).alloc (O := .cells (bytesRow s cp) el (cp, cp + 1)) ⟨_, dens_ext (Ext.app _ _) _ _ hd, by simp⟩, den_sl_new (rel_drew rel) 0 _ _, ?_⟩
    rw [hE, Sem.run_bind, hr, hlen]
    rfl
  · rename_i el hs1 hs2
    split at hc
    rotate_left
    · cases hc
    rename_i hs3
    simp at hc; subst hc
    simp only [evW]
    split
    · rename_i hx
      have hE : a.eval x = .slice none 0 0 := by
        have := ev_ok he h1 hx
        simp [SV.den] at this; exact this.symm
      intro _
      refine ⟨.string ByteArray.empty, w, ν, Ext.refl _, rel, rfl, ?_⟩
      rw [hE, Sem.run_bind, run_convert_bytes_nil w src el hs1 hs3 0 0 dst hs2]
      rfl
    · rename_i t off len cap hx
      obtain ⟨b, hb, hE⟩ := den_sl (ev_ok he h1 hx)
      split
      rotate_left
      · trivial
      rename_i cs ty f g hh
      obtain ⟨C, hC, hw⟩ := rel_at rel hb hh
      split
      rotate_left
      · trivial
      rename_i p d hld
      split
      rotate_left
      · trivial
      rename_i l hfl
      intro hp
      obtain ⟨d', hd', hl', hdd⟩ := ldaR_ok hC hld hp
      cases hd'
      have hlL := flatI_ok hfl hdd
      have hll : l.length = len := by
        have := congrArg List.length hlL
        simp at this; omega
      have hr := run_convert_bytes_arg (P := P) w src el hs1 hs3 b off len cap l hll (fun i hi => by
        rw [cell_at hw]
        have h3 : ((C.drop off).take len)[i]? = (l.map (Value.int .u8))[i]? := by rw [hlL]
        rw [List.getElem?_take, if_pos hi, List.getElem?_drop] at h3
        rw [h3]
        have hil : i < l.length := by omega
        simp [List.getD, List.getElem?_eq_getElem hil]) dst hs2
      refine ⟨.string _, w, ν, Ext.refl _, rel, rfl, ?_⟩
      rw [hE, Sem.run_bind, hr]
      rfl
    · trivial
  · rename_i el' el hs1 hs2
    split at hc
    rotate_left
    · cases hc
    rename_i hs3
    split at hc
    rotate_left
    · cases hc
    rename_i hsd
    simp at hc; subst hc hsd
    simp only [evW]
    split
    rotate_left
    · trivial
    rename_i t off len cap hx
    obtain ⟨b, hb, hE⟩ := den_sl (ev_ok he h1 hx)
    split
    rotate_left
    · trivial
    rename_i cs ty f g hh
    obtain ⟨C, hC, hw⟩ := rel_at rel hb hh
    intro _
    have hwd := wid_ok _ _ hC
    have hshape : w.shape? b = some (ty, C.length) := by
      unfold World.shape?
      rw [hw]; simp
    refine ⟨.slice (some ⟨b, off, none⟩) len cap, w.freeze ⟨b, C.length, none⟩ 1, ν, Ext.refl _, rel_cells rel hb hC rfl rfl rfl (by simp [World.freeze]) ?_ ?_, by simp [SV.den, hb], ?_⟩
    · intro j hj
      simp only [World.freeze]
      rw [if_neg (by decide)]
      simp only
      rw [Array.getElem?_modify, if_neg (fun e => hj e.symm)]
    · simp only [World.freeze]
      rw [if_neg (by decide)]
      simp only
      rw [Array.getElem?_modify, if_pos rfl, hw, ← hwd]
      simp only [Option.map_some, beq_iff_eq]
      by_cases hfg : f = g
      · simp [hfg]
      · simp [hfg]
    · rw [hE]
      have hee : el' = el := by rw [hs1] at hs2; cases hs2; rfl
      subst hee
      simp [convert, run_under hs1, run_under hs3, markStringish, hshape]
  · cases hc

theorem w_mkm (rel : Rel P w0 ν0 ν hs w) {t : TypeId} {r : Option Operand} {o : O} (hc : compOp P (.makeMap t r) = some o) :
    Does P w0 ν0 ν hs ((do pure (Next.value (← Instr.makeMap t (r.map a.eval))) : Sem Next).run P w) (evW o env hs) := by
  cases r with
  | some r => simp [compOp] at hc
  | none =>
    simp [compOp] at hc
    subst hc
    intro _
    refine ⟨.map (some w.heap.size), _, ν ++ [w.heap.size], Ext.app _ _, rel.alloc (o := .map [] 0) (O := .map #[] 0) ⟨[], trivial, rfl⟩, by simp [SV.den, ← rel.len], ?_⟩
    simp [Instr.makeMap]

theorem findM_ok {ν : Nu} {k q : IntKind} {n : Int} : ∀ (es : List (IntKind × Int × SV × Nat)) (E : List MapEntry) (i : Nat) (r : Option SV), entOk ν es E → findM k n es = some r →
    (r = none ∧ Instr.findNow (.int q) (.int k n) E i = some none) ∨ ∃ v V j, r = some v ∧ v.one = true ∧ v.den ν = some V ∧ Instr.findNow (.int q) (.int k n) E i = some (some (j, V))
  | [], [], i, r, _, h => by simp [findM] at h; subst h; exact .inl ⟨rfl, rfl⟩
  | [], _ :: _, _, _, h, _ => h.elim
  | _ :: _, [], _, _, h, _ => h.elim
  | (k', m, v, b) :: es, e :: E, i, r, ⟨h1, h2, h3, h4, h5⟩, h => by
    simp only [findM] at h
    split at h
    · rename_i hk
      subst hk
      have hs : Instr.sameNow (.int q) (.int k n) e.key = some (n == m) := by rw [h1]; simp [Instr.sameNow]
      split at h
      · rename_i hn
        cases h
        right
        exact ⟨v, e.val, i, rfl, h3, h4, by simp [Instr.findNow, hs, hn]⟩
      · rename_i hn
        have hn' : (n == m) = false := by simpa using hn
        rcases findM_ok (q := q) es E (i + 1) r h5 h with ⟨a, b⟩ | ⟨v', V, j, a, b, c, d⟩
        · exact .inl ⟨a, by simp only [Instr.findNow, hs, hn', b]⟩
        · exact .inr ⟨v', V, j, a, b, c, by simp only [Instr.findNow, hs, hn', d]⟩
    · cases h

theorem zeroVal_ok {t : TypeId} {z : SV} (h : zeroVal P t = some z) : z.one = true ∧ ∃ i V, P.info? t = some i ∧ i.zero = some V ∧ ∀ ν, z.den ν = some V := by
  unfold zeroVal at h
  simp only [Option.bind_eq_some_iff] at h
  obtain ⟨cs, hz, h⟩ := h
  obtain ⟨i, V, hi, hV, _, hd⟩ := zeroOf_ok hz
  simp only [hi, hV] at h
  split at h
  · rename_i heq
    cases heq
    cases h
    refine ⟨rfl, i, _, hi, hV, fun ν => ?_⟩
    have := hd ν
    simp only [SV.den, this, Value.cells, Option.map_some]
  · rename_i V' hne heq
    cases heq
    split at h
    · split at h
      · rename_i v he
        cases h
        exact ⟨(eqv_ok (ν := []) _ _ he).1, i, V, hi, hV, fun ν => (eqv_ok _ _ he).2⟩
      · cases h
    · cases h
  · rename_i heq; cases heq

theorem run_findKey_of {kt : TypeId} {q : IntKind} {k : Value} {l : List MapEntry} {r : Option (Nat × Value)} (hd : P.underlying kt = some (.int q)) (h : Instr.findNow (.int q) k l 0 = some r) (w : World) : (Instr.findKey kt k l).run P w = .ok r w := by
  simp [Instr.findKey, run_under hd, h]
theorem run_checkKey_int1 {kt : TypeId} {q k : IntKind} {n : Int} (hd : P.underlying kt = some (.int q)) (e : Bool) (w : World) (m : Nat) : (Instr.checkKey e (m + 1) kt (.int k n)).run P w = .ok () w := by
  simp [Instr.checkKey, run_under hd]
theorem run_checkKey_int {kt : TypeId} {q k : IntKind} {n : Int} (hd : P.underlying kt = some (.int q)) (e : Bool) (w : World) : (Instr.checkKey e 10000 kt (.int k n)).run P w = .ok () w := run_checkKey_int1 hd e w 9999
theorem sameBits_int (k : IntKind) (n : Int) (m : Nat) : Instr.sameBits (m + 1) (.int k n) (.int k n) = true := by simp [Instr.sameBits]

theorem w_lkp (rel : Rel P w0 ν0 ν hs w) (he : EnvOk ν N env a.tmps) {t : TypeId} {m k : Operand} {ok : Bool} {o : O} (hc : compOp P (.lookup t m k ok) = some o) :
    Does P w0 ν0 ν hs ((do pure (Next.value (← Instr.lookup t (a.eval m) (a.eval k) ok)) : Sem Next).run P w) (evW o env hs) := by
  simp only [compOp] at hc
  split at hc
  · rename_i kt e hu
    split at hc
    · rename_i q hk
      simp only [Option.pure_def, Option.bind_eq_bind, Option.bind_eq_some_iff, Option.some.injEq] at hc
      obtain ⟨z, hz, e1, h1, e2, h2, rfl⟩ := hc
      obtain ⟨hz1, i, Z, hi, hZ, hzd⟩ := zeroVal_ok hz
      have hzr : ∀ w, (zeroValue e).run P w = .ok Z w := by intro w; simp [zeroValue, typeInfo, hi, hZ]
      have fin : ∀ (x : SV) (X : Value), x.den ν = some X → (Instr.lookup t (a.eval m) (a.eval k) ok).run P w = .ok X w → DoesN P w0 ν0 ν x hs ((do pure (Next.value (← Instr.lookup t (a.eval m) (a.eval k) ok)) : Sem Next).run P w) := by
        intro x X hx hr
        exact ⟨X, w, ν, Ext.refl _, rel, hx, by simp [hr]⟩
      have tup : ∀ (x : SV) (X : Value) (b : Bool), x.one = true → x.den ν = some X → (SV.tup [x, .bool b]).den ν = some (.tuple #[X, .bool b]) := by
        intro x X b h1 h2
        simp only [SV.den]
        rw [dens_one_mk h1 h2 (dens_one_mk (V := .bool b) rfl rfl (dens_nil ν))]
        rfl
      simp only [evW]
      split
      · rename_i tg kk n hm hkk
        have hM := ev_ok he h1 hm
        have hK := den_int (ev_ok he h2 hkk)
        simp only [SV.den, Option.map_eq_some_iff] at hM
        obtain ⟨b, hb, hM⟩ := hM
        split
        · rename_i es c hes
          obtain ⟨b', O, hb', ⟨E, hE, rfl⟩, hw⟩ := rel.at_ hes
          rw [hb] at hb'; cases hb'
          have hg : ∀ (f : Obj → Sem (Array MapEntry)), (getObj b).run P w = .ok (.map E.toArray c) w := fun _ => by simp [getObj, Sem.run, hw]
          cases hf : findM kk n es with
          | none => trivial
          | some r =>
            rcases findM_ok (q := q) es E 0 r hE hf with ⟨rfl, h3⟩ | ⟨v, V, j, rfl, h3, h4, h5⟩
            · have hr : (Instr.lookup t (a.eval m) (a.eval k) ok).run P w = .ok (if ok then .tuple #[Z, .bool false] else Z) w := by
                rw [← hM, hK]
                simp [Instr.lookup, run_under hu, hg (fun _ => pure #[]), run_checkKey_int hk, run_findKey_of hk h3, hzr]
              simp only [lkpR]
              cases ok with
              | true => intro _; exact fin _ _ (tup z Z false hz1 (hzd ν)) (by simpa using hr)
              | false => intro _; exact fin _ _ (hzd ν) (by simpa using hr)
            · have hr : (Instr.lookup t (a.eval m) (a.eval k) ok).run P w = .ok (if ok then .tuple #[V, .bool true] else V) w := by
                rw [← hM, hK]
                simp [Instr.lookup, run_under hu, hg (fun _ => pure #[]), run_checkKey_int hk, run_findKey_of hk h5]
              simp only [lkpR]
              cases ok with
              | true => intro _; exact fin _ _ (tup v V true h3 h4) (by simpa using hr)
              | false => intro _; exact fin _ _ h4 (by simpa using hr)
        · trivial
      · rename_i kk n hm hkk
        have hM := ev_ok he h1 hm
        have hK := den_int (ev_ok he h2 hkk)
        simp only [SV.den, Option.some.injEq] at hM
        have h3 : Instr.findNow (.int q) (.int kk n) [] 0 = some none := rfl
        have hr : (Instr.lookup t (a.eval m) (a.eval k) ok).run P w = .ok (if ok then .tuple #[Z, .bool false] else Z) w := by
          rw [← hM, hK]
          simp [Instr.lookup, run_under hu, run_checkKey_int hk, run_findKey_of hk h3, hzr]
        simp only [lkpR]
        cases ok with
        | true => intro _; exact fin _ _ (tup z Z false hz1 (hzd ν)) (by simpa using hr)
        | false => intro _; exact fin _ _ (hzd ν) (by simpa using hr)
      · trivial
    · cases hc
  · cases hc

theorem insM_ok {ν : Nu} {k q : IntKind} {n : Int} {v : SV} {V : Value} {c : Nat} (hv : v.one = true) (hV : v.den ν = some V) : ∀ (es : List (IntKind × Int × SV × Nat)) (E : List MapEntry) (i : Nat) (r : List (IntKind × Int × SV × Nat) × Nat), entOk ν es E → insM k n v c es = some r →
    (Instr.findNow (.int q) (.int k n) E i = some none ∧ r.2 = c + 1 ∧ entOk ν r.1 (E ++ [{ key := .int k n, val := V, born := c }])) ∨
    (∃ j, j < E.length ∧ (∃ x, Instr.findNow (.int q) (.int k n) E i = some (some (i + j, x))) ∧ r.2 = c ∧ ((E[j]?).map (·.key)) = some (.int k n) ∧ entOk ν r.1 (E.modify j fun e => { e with key := .int k n, val := V }))
  | [], [], i, r, _, h => by
    simp [insM] at h; subst h
    exact .inl ⟨rfl, rfl, rfl, rfl, hv, hV, trivial⟩
  | [], _ :: _, _, _, h, _ => h.elim
  | _ :: _, [], _, _, h, _ => h.elim
  | (k', m, u, b) :: es, e :: E, i, r, ⟨h1, h2, h3, h4, h5⟩, h => by
    simp only [insM] at h
    split at h
    · rename_i hk
      subst hk
      have hs : Instr.sameNow (.int q) (.int k n) e.key = some (n == m) := by rw [h1]; simp [Instr.sameNow]
      split at h
      · rename_i hn
        cases h
        have hnm : n = m := by simpa using hn
        subst hnm
        right
        refine ⟨0, by simp, ⟨e.val, by simp [Instr.findNow, hs]⟩, rfl, by simp [h1], ?_⟩
        simp only [List.modify_cons, if_true]
        exact ⟨rfl, h2, hv, hV, h5⟩
      · rename_i hn
        have hn' : (n == m) = false := by simpa using hn
        simp only [Option.map_eq_some_iff] at h
        obtain ⟨r', hr', rfl⟩ := h
        rcases insM_ok (q := q) hv hV es E (i + 1) r' h5 hr' with ⟨a, b, d⟩ | ⟨j, a, ⟨x, b⟩, d, e', f⟩
        · exact .inl ⟨by simp only [Instr.findNow, hs, hn', a], b, h1, h2, h3, h4, d⟩
        · refine .inr ⟨j + 1, by simpa using a, ⟨x, by simp only [Instr.findNow, hs, hn', b]; congr 3; omega⟩, d, by simpa using e', ?_⟩
          exact ⟨h1, h2, h3, h4, f⟩
    · cases h

theorem w_ins (rel : Rel P w0 ν0 ν hs w) (he : EnvOk ν N env a.tmps) {t : TypeId} {m k x : Operand} {o : O} (hc : compOp P (.insert t m k x) = some o) :
    Does P w0 ν0 ν hs ((do Instr.mapUpdate t (a.eval m) (a.eval k) (a.eval x); pure Next.skip : Sem Next).run P w) (evW o env hs) := by
  simp only [compOp] at hc
  split at hc
  · rename_i kt e hu
    split at hc
    · rename_i q hk
      simp only [Option.pure_def, Option.bind_eq_bind, Option.bind_eq_some_iff, Option.some.injEq] at hc
      obtain ⟨e1, h1, e2, h2, e3, h3, rfl⟩ := hc
      simp only [evW]
      split
      · rename_i tg kk n v hm hkk hx
        have hM := ev_ok he h1 hm
        have hK := den_int (ev_ok he h2 hkk)
        have hX := ev_ok he h3 hx
        simp only [SV.den, Option.map_eq_some_iff] at hM
        obtain ⟨b, hb, hM⟩ := hM
        split
        · rename_i es c hes
          obtain ⟨b', O, hb', ⟨E, hE, rfl⟩, hw⟩ := rel.at_ hes
          rw [hb] at hb'; cases hb'
          have hg : (getObj b).run P w = .ok (.map E.toArray c) w := by simp [getObj, Sem.run, hw]
          have hset : ∀ O, (setObj b O).run P w = .ok () (w.putObj b O) := by intro O; simp [setObj, Sem.run, World.putObj, hw]
          split
          · rename_i hv
            cases hf : insM kk n v c es with
            | none => trivial
            | some r =>
              intro _
              rcases insM_ok (q := q) hv hX es E 0 r hE hf with ⟨a1, a2, a3⟩ | ⟨j, a0, ⟨y, a1⟩, a2, a3, a4⟩
              · refine ⟨w.putObj b (.map (E ++ [({ key := .int kk n, val := a.eval x, born := c } : MapEntry)]).toArray r.2), ?_, ?_⟩
                · exact rel.upd hb (o := .map r.1 r.2) ⟨_, a3, rfl⟩ rfl rfl rfl World.putObj_size (fun i hi => World.putObj_heap_other hi) (by have := rel.lt hb; simp [World.putObj, this])
                · rw [← hM, hK]
                  simp [Instr.mapUpdate, run_under hu, hg, run_checkKey_int hk, run_findKey_of hk a1, hset, a2]
              · refine ⟨w.putObj b (.map (E.modify j fun e => { e with key := .int kk n, val := a.eval x }).toArray r.2), ?_, ?_⟩
                · exact rel.upd hb (o := .map r.1 r.2) ⟨_, a4, rfl⟩ rfl rfl rfl World.putObj_size (fun i hi => World.putObj_heap_other hi) (by have := rel.lt hb; simp [World.putObj, this])
                · rw [← hM, hK]
                  have hkey : ((E.toArray[0 + j]?).map (·.key)).getD (.int kk n) = .int kk n := by
                    simp only [Nat.zero_add, List.getElem?_toArray, a3, Option.getD_some]
                  have hst : (Instr.keyThatStays (.int kk n) (.int kk n)).run P w = .ok (.int kk n) w := by
                    simp [Instr.keyThatStays, show Instr.sameBits 10000 (.int kk n) (.int kk n) = true from sameBits_int kk n 9999]
                  simp only [Instr.mapUpdate, Sem.run_bind, run_under hu, Result.andThen_ok, hg, run_checkKey_int hk, run_findKey_of hk a1, hkey, hst, hset, a2, Sem.run_pure]
                  simp
          · trivial
        · trivial
      · trivial
    · cases hc
  · cases hc
end

end Go.Pv
