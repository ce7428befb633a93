/- Operations that read alone: the program's operation gives what `evQ` says. -/
import Derived.Test.YtifoaokodgbhjaaGreatVc
namespace Go.Pv
open Go

/-- The blocks of the tags in `T` lie as `hs` says. -/
structure Look (P : Program) (ν : Nu) (hs : List SO) (T : Nat → Prop) (w : World) : Prop where
  at_ : ∀ (t : Nat) (o : SO), T t → hs[t]? = some o → ∃ b O, ν[t]? = some b ∧ o.Den P ν O ∧ w.heap[b]? = some O

theorem Rel.look {P : Program} {w0 w : World} {ν0 ν : Nu} {hs : List SO} (h : Rel P w0 ν0 ν hs w) (T : Nat → Prop) : Look P ν hs T w :=
  ⟨fun _ _ _ ho => h.at_ ho⟩

theorem svK_ok {ν : Nu} {V : Value} {v : SV} (h : svK V = some v) : v.den ν = some V := by
  unfold svK at h
  split at h
  case h_9 vs =>
    split at h
    · rename_i h1
      cases h
      have : vs = #[] := Array.size_eq_zero_iff.1 h1
      subst this
      simp [SV.den, dens]
    · cases h
  all_goals first | (cases h; rfl) | cases h

theorem add_mid (b o j : Nat) : (⟨b, o, none⟩ : Addr).add j = ⟨b, o + j, none⟩ := by unfold Addr.add; split <;> simp_all

section
variable {P : Program} {ν : Nu} {N : Nat} {env : Env} {a : Act}

theorem ev_ok (he : EnvOk ν N env a.tmps) {x : Operand} {e : Ex} (hc : exO x = some e) {v : SV} (hv : ev env e = some v) : v.den ν = some (a.eval x) := by
  cases x with
  | tmp t =>
    simp [exO] at hc; subst hc
    obtain ⟨V, h1, h2⟩ := he.at_ t v hv
    rw [h1]; simp [Act.eval, h2]
  | const c =>
    simp [exO] at hc
    obtain ⟨s, hs, rfl⟩ := hc
    simp [ev] at hv; subst hv
    exact svK_ok hs
  | func f =>
    simp [exO] at hc; subst hc
    simp [ev] at hv; subst hv
    simp [SV.den, dens, Act.eval]
  | global g => simp [exO] at hc

theorem evs_ok (he : EnvOk ν N env a.tmps) : ∀ (xs : List Operand) (es : List Ex) (vs : List SV), exs xs = some es → evs env es = some vs →
    (∀ v ∈ vs, (v.den ν).isSome = true) ∧ vs.map (SV.den ν) = xs.map fun x => some (a.eval x)
  | [], es, vs, hc, hv => by simp [exs] at hc; subst hc; simp [evs] at hv; subst hv; simp
  | x :: r, es, vs, hc, hv => by
    simp only [exs, Option.bind_eq_some_iff, Option.map_eq_some_iff] at hc
    obtain ⟨e, h1, es', h2, rfl⟩ := hc
    simp only [evs] at hv
    split at hv
    · rename_i v vs' h3 h4
      cases hv
      have hx := ev_ok he h1 h3
      obtain ⟨h5, h6⟩ := evs_ok he r es' vs' h2 h4
      refine ⟨?_, ?_⟩
      · intro v' hv'
        cases hv' with
        | head => rw [hx]; rfl
        | tail _ hm => exact h5 v' hm
      · simp [hx, h6]
    · cases hv

/-- Single values, one by one. -/
theorem dens_of_map : ∀ (vs : List SV) (Vs : List Value), vs.all SV.one = true → vs.map (SV.den ν) = Vs.map some → dens ν vs = some Vs
  | [], Vs, _, h => by cases Vs <;> simp_all [dens]
  | v :: r, Vs, h1, h => by
    cases Vs with
    | nil => simp at h
    | cons V Vs =>
      simp at h
      simp at h1
      rw [dens_one_mk h1.1 h.1 (dens_of_map r Vs (by simpa using h1.2) h.2)]
theorem map_of_dens : ∀ (vs : List SV) (Vs : List Value), vs.all SV.one = true → dens ν vs = some Vs → vs.map (SV.den ν) = Vs.map some
  | [], Vs, _, h => by simp [dens] at h; subst h; rfl
  | v :: r, Vs, h1, h => by
    simp at h1
    obtain ⟨V, R, hV, hR, rfl⟩ := dens_cons_one h1.1 h
    simp [hV, map_of_dens r R (by simpa using h1.2) hR]

/-- What runs to a value and leaves the world. -/
def Gives (P : Program) (w : World) (ν : Nu) (x : SV) (s : Sem Value) : Prop := ∃ V, x.den ν = some V ∧ s.run P w = .ok V w

theorem gives_v {s : Sem Value} {w : World} {x : SV} (h : Gives P w ν x s) : ∃ V, x.den ν = some V ∧ (do pure (Next.value (← s)) : Sem Next).run P w = .ok (.value V) w := by
  obtain ⟨V, h1, h2⟩ := h
  exact ⟨V, h1, by simp [h2]⟩

theorem den_ptr {t off : Nat} {V : Value} (h : (SV.ptr t off).den ν = some V) : ∃ b, ν[t]? = some b ∧ V = .pointer (some ⟨b, off, none⟩) := by
  simp only [SV.den, Option.map_eq_some_iff] at h
  obtain ⟨b, h1, rfl⟩ := h
  exact ⟨b, h1, rfl⟩
theorem den_sl {t off len cap : Nat} {V : Value} (h : (SV.sl t off len cap).den ν = some V) : ∃ b, ν[t]? = some b ∧ V = .slice (some ⟨b, off, none⟩) len cap := by
  simp only [SV.den, Option.map_eq_some_iff] at h
  obtain ⟨b, h1, rfl⟩ := h
  exact ⟨b, h1, rfl⟩
theorem den_int {k : IntKind} {n : Int} {V : Value} (h : (SV.int k n).den ν = some V) : V = .int k n := by simp [SV.den] at h; exact h.symm
theorem den_bool {b : Bool} {V : Value} (h : (SV.bool b).den ν = some V) : V = .bool b := by simp [SV.den] at h; exact h.symm
theorem den_str {s : ByteArray} {V : Value} (h : (SV.str s).den ν = some V) : V = .string s := by simp [SV.den] at h; exact h.symm
theorem den_agg {cs : List SV} {V : Value} (h : (SV.agg cs).den ν = some V) : ∃ Cs, dens ν cs = some Cs ∧ V = .agg Cs.toArray := by
  simp only [SV.den, Option.map_eq_some_iff] at h
  obtain ⟨b, h1, rfl⟩ := h
  exact ⟨b, h1, rfl⟩
theorem den_tup {cs : List SV} {V : Value} (h : (SV.tup cs).den ν = some V) : ∃ Cs, dens ν cs = some Cs ∧ V = .tuple Cs.toArray := by
  simp only [SV.den, Option.map_eq_some_iff] at h
  obtain ⟨b, h1, rfl⟩ := h
  exact ⟨b, h1, rfl⟩

/-- A cell of a block. -/
theorem cell_at {w : World} {b : Nat} {C : List Value} {ty : Nat} {f : Nat × Nat} (h : w.heap[b]? = some (.cells C.toArray ty f)) (o : Nat) : w.cell? ⟨b, o, none⟩ = C[o]? := by
  simp [World.cell?, h]

theorem ldR_ok {cs : List SV} {C : List Value} (hd : dens ν cs = some C) {off : Nat} {p : Prop} {x : SV} (h : ldR cs off = .v p x) (hp : p) :
    ∃ V, x.den ν = some V ∧ C[off]? = some V := by
  unfold ldR at h
  split at h
  · rename_i k n l
    simp only [Res.v.injEq] at h
    obtain ⟨rfl, rfl⟩ := h
    obtain ⟨hl, R, hR, rfl⟩ := dens_cons_run hd
    refine ⟨_, rfl, ?_⟩
    rw [List.getElem?_append_left (by simp; omega), List.getElem?_map]
    simp [show off < l.length by omega]
  · split at h
    · rename_i v hv
      simp only [Res.v.injEq] at h
      obtain ⟨rfl, rfl⟩ := h
      exact (rdC_ok _ _ _ _ hv hd).2
    · cases h

theorem ldaR_ok {cs : List SV} {C : List Value} (hd : dens ν cs = some C) {off n : Nat} {p : Prop} {x : SV} (h : ldaR cs off n = .v p x) (hp : p) :
    ∃ d, x = .agg d ∧ off + n ≤ C.length ∧ dens ν d = some ((C.drop off).take n) := by
  unfold ldaR at h
  split at h
  · rename_i k m l
    obtain ⟨hl, R, hR, rfl⟩ := dens_cons_run hd
    simp only [dens_nil, Option.some.injEq] at hR
    subst hR
    split at h
    · rename_i hc
      obtain ⟨rfl, rfl⟩ := hc
      simp only [Res.v.injEq] at h
      obtain ⟨rfl, rfl⟩ := h
      refine ⟨_, rfl, by simp [hl], ?_⟩
      rw [dens_run_mk hl (dens_nil ν)]
      simp [List.take_of_length_le (show (l.map (Value.int k)).length ≤ n by simp [hl])]
    · simp only [Res.v.injEq] at h
      obtain ⟨rfl, rfl⟩ := h
      refine ⟨_, rfl, by simp; omega, ?_⟩
      rw [dens_run_mk (by simp; omega) (dens_nil ν)]
      simp [List.map_take, List.map_drop]
  · split at h
    · rename_i d hs
      simp only [Res.v.injEq] at h
      obtain ⟨rfl, rfl⟩ := h
      obtain ⟨h1, h2⟩ := subC_ok _ _ _ _ _ hs hd
      exact ⟨d, rfl, h1, h2⟩
    · cases h

theorem look_cells {hs : List SO} {T : Nat → Prop} {w : World} (hl : Look P ν hs T w) {t : Nat} (hT : T t) {cs : List SV} {ty x y : Nat} (h : hs[t]? = some (.cells cs ty x y)) :
    ∃ b C, ν[t]? = some b ∧ dens ν cs = some C ∧ w.heap[b]? = some (.cells C.toArray ty (x, y)) := by
  obtain ⟨b, O, h1, ⟨C, h2, rfl⟩, h3⟩ := hl.at_ t _ hT h
  exact ⟨b, C, h1, h2, h3⟩

theorem run_under {t : TypeId} {d : TypeDesc} (h : P.underlying t = some d) (w : World) : (underlying t).run P w = .ok d w := run_underlying h w

theorem sizeT_run {t n : Nat} (h : sizeT P t = some n) (w : World) : (sizeOf t).run P w = .ok n w := by
  simp only [sizeT, Option.map_eq_some_iff] at h
  obtain ⟨i, h1, rfl⟩ := h
  simp [sizeOf, typeInfo, h1]

theorem aggT_run {t : TypeId} {d : TypeDesc} (h : P.underlying t = some d) (w : World) : (isAgg t).run P w = .ok (aggT P t) w := by
  unfold isAgg aggT
  rw [Sem.run_bind, run_underlying h w]
  rw [h]
  cases d <;> rfl
theorem aggT_under {t : TypeId} (h : aggT P t = true) : ∃ d, P.underlying t = some d := by
  unfold aggT at h
  cases hu : P.underlying t with
  | none => rw [hu] at h; simp at h
  | some d => exact ⟨d, rfl⟩

theorem run_loadVar_one {t : TypeId} {d : TypeDesc} (hu : P.underlying t = some d) (ha : aggT P t = false) {w : World} {ad : Addr} {V : Value} (h : w.cell? ad = some V) :
    (loadVar t ad).run P w = .ok V w := by
  simp [loadVar, aggT_run hu, ha, h]
theorem run_loadVar_agg {t n : Nat} (ha : aggT P t = true) (hn : sizeT P t = some n) {w : World} {b off : Nat} {C : List Value}
    (h : ∀ j, j < n → w.cell? ⟨b, off + j, none⟩ = C[off + j]?) (hlen : off + n ≤ C.length) :
    (loadVar t ⟨b, off, none⟩).run P w = .ok (.agg ((C.drop off).take n).toArray) w := by
  obtain ⟨d, hu⟩ := aggT_under ha
  have hl : (loadCells ⟨b, off, none⟩ ((C.drop off).take n).length).run P w = .ok ((C.drop off).take n).toArray w :=
    run_loadCells_list (P := P) w ⟨b, off, none⟩ _ (fun j v hv => by
      rw [add_mid]
      rw [List.getElem?_take] at hv
      split at hv
      · rename_i hj
        rw [List.getElem?_drop] at hv
        rw [h j hj]; exact hv
      · cases hv)
  have hlen' : ((C.drop off).take n).length = n := by simp; omega
  rw [hlen'] at hl
  simp [loadVar, aggT_run hu, ha, sizeT_run hn, hl]

theorem run_fieldPlace {f : Field} {n : Nat} (hn : sizeT P f.type = some n) (h0 : n ≠ 0) (w : World) (ad : Addr) : (fieldPlace ad f).run P w = .ok (ad.add f.offset) w := by
  simp [fieldPlace, sizeT_run hn, h0]

theorem asIntOf_int (k : IntKind) (n : Int) (w : World) : (asIntOf (.int k n)).run P w = .ok (k, n) w := rfl

theorem intBin_ok {op : BinOp} {k : IntKind} {x y : Int} {p : Prop} {r : SV} (h : intBin op k x y = .v p r) (hp : p) (hs : op ≠ .shl ∧ op ≠ .shr) (ty : TypeId) (w : World) :
    ∃ V, r.den ν = some V ∧ (binOp op ty (.int k x) (.int k y)).run P w = .ok V w := by
  obtain ⟨h1, h2⟩ := hs
  cases op
  case shl => exact absurd rfl h1
  case shr => exact absurd rfl h2
  all_goals (simp only [intBin] at h)
  case quo => cases h; exact ⟨_, rfl, by simp [binOp, Op.intDiv, hp]⟩
  case rem => cases h; exact ⟨_, rfl, by simp [binOp, Op.intDiv, hp]⟩
  all_goals first
    | (cases h; exact ⟨_, rfl, by simp [binOp, Op.intCmp, Op.intBits, Op.intArith, bw]⟩)
    | (cases h; exact ⟨_, rfl, by simp [binOp, Op.intCmp]; rfl⟩)
    | cases h

theorem evo_ok (he : EnvOk ν N env a.tmps) {x : Option Operand} {e : Option Ex} (hc : exOpt x = some e) {v : Option SV} (hv : evo env e = some v) :
    (x = none ∧ v = none) ∨ ∃ y u, x = some y ∧ v = some u ∧ u.den ν = some (a.eval y) := by
  cases x with
  | none => simp [exOpt] at hc; subst hc; simp [evo] at hv; exact .inl ⟨rfl, hv.symm⟩
  | some y =>
    simp only [exOpt, Option.map_eq_some_iff] at hc
    obtain ⟨e', h1, rfl⟩ := hc
    simp only [evo] at hv
    split at hv
    · rename_i u hu
      cases hv
      exact .inr ⟨y, u, rfl, rfl, ev_ok he h1 hu⟩
    · cases hv

theorem run_sliceBound_ok {k : IntKind} {n : Int} {y : Nat} {c : BoundsCode} (h0 : 0 ≤ n) (h1 : n ≤ (y : Int)) (w : World) : (Instr.sliceBound (.int k n) y c).run P w = .ok n.toNat w := by
  simp [Instr.sliceBound, asIntOf_int, h0, h1]

/-- The four forms of a slice expression. -/
theorem sliR_ok {sz t off len cap : Nat} {lo hi : Option SV} {p : Prop} {x : SV} (h : sliR sz t off len cap lo hi = .v p x) (hp : p) (w : World) (isSlice : Bool) {lo' hi' : Option Value}
    (hlo : (lo' = none ∧ lo = none) ∨ ∃ y u, lo' = some y ∧ lo = some u ∧ u.den ν = some y) (hhi : (hi' = none ∧ hi = none) ∨ ∃ y u, hi' = some y ∧ hi = some u ∧ u.den ν = some y) :
    ∃ l h' , (Instr.sliceBounds isSlice len cap lo' hi' none).run P w = .ok (l, h', cap) w ∧ x = .sl t (slo cap l off sz) (h' - l) (cap - l) := by
  unfold sliR at h
  split at h
  · cases h
    rcases hlo with ⟨rfl, _⟩ | ⟨_, _, _, h2, _⟩
    · rcases hhi with ⟨rfl, _⟩ | ⟨_, _, _, h2, _⟩
      · exact ⟨0, len, by simp [Instr.sliceBounds], rfl⟩
      · cases h2
    · cases h2
  · rename_i k l
    cases h
    rcases hlo with ⟨_, h2⟩ | ⟨y, u, rfl, h2, h3⟩
    · cases h2
    · cases h2
      have := den_int h3; subst this
      rcases hhi with ⟨rfl, _⟩ | ⟨_, _, _, h2, _⟩
      · obtain ⟨p0, p1, p2⟩ := hp
        refine ⟨l.toNat, len, ?_, rfl⟩
        simp [Instr.sliceBounds, run_sliceBound_ok p0 p1]
      · cases h2
  · rename_i k h'
    cases h
    rcases hhi with ⟨_, h2⟩ | ⟨y, u, rfl, h2, h3⟩
    · cases h2
    · cases h2
      have := den_int h3; subst this
      rcases hlo with ⟨rfl, _⟩ | ⟨_, _, _, h2, _⟩
      · obtain ⟨p0, p1⟩ := hp
        refine ⟨0, h'.toNat, ?_, rfl⟩
        simp [Instr.sliceBounds, run_sliceBound_ok p0 p1]
      · cases h2
  · rename_i k l k' h'
    cases h
    rcases hlo with ⟨_, h2⟩ | ⟨y, u, rfl, h2, h3⟩
    · cases h2
    · cases h2
      have := den_int h3; subst this
      rcases hhi with ⟨_, h2⟩ | ⟨y, u, rfl, h2, h3⟩
      · cases h2
      · cases h2
        have := den_int h3; subst this
        obtain ⟨p0, p1, p2⟩ := hp
        refine ⟨l.toNat, h'.toNat, ?_, rfl⟩
        have : l ≤ (h'.toNat : Int) := by omega
        simp [Instr.sliceBounds, run_sliceBound_ok (show 0 ≤ h' by omega) p2, run_sliceBound_ok p0 this]
  · cases h

theorem slo_add (b off sz cap l : Nat) : (if cap = l then (⟨b, off, none⟩ : Addr) else (⟨b, off, none⟩ : Addr).add (l * sz)) = ⟨b, slo cap l off sz, none⟩ := by
  unfold slo
  split
  · rfl
  · rw [add_mid]

theorem opt_map_eval {x : Option Operand} {v : Option SV} (h : (x = none ∧ v = none) ∨ ∃ y u, x = some y ∧ v = some u ∧ u.den ν = some (a.eval y)) :
    (x.map a.eval = none ∧ v = none) ∨ ∃ y u, x.map a.eval = some y ∧ v = some u ∧ u.den ν = some y := by
  rcases h with ⟨rfl, rfl⟩ | ⟨y, u, rfl, rfl, h⟩
  · exact .inl ⟨rfl, rfl⟩
  · exact .inr ⟨_, u, rfl, rfl, h⟩

theorem wid_ok : ∀ (cs : List SV) (C : List Value), dens ν cs = some C → C.length = wid cs
  | [], C, h => by simp [dens] at h; subst h; rfl
  | c :: r, C, h => by
    cases hc : c.one with
    | false =>
      cases c with
      | run k n l =>
        obtain ⟨hl, R, hR, rfl⟩ := dens_cons_run h
        simp [wid, hl, wid_ok r R hR]
      | _ => simp [SV.one] at hc
    | true =>
      obtain ⟨V, R, hV, hR, rfl⟩ := dens_cons_one hc h
      cases c <;> simp_all [wid, SV.one, wid_ok r R hR, Nat.add_comm]

/-- One part after the other. -/
theorem foldl_set : ∀ (new : List Value) (C : List Value) (o j : Nat), o + j + new.length ≤ C.length →
    (new.zipIdx j).foldl (fun (cs : Array Value) (c : Value × Nat) => cs.setIfInBounds (o + c.2) c.1) C.toArray = (C.take (o + j) ++ new ++ C.drop (o + j + new.length)).toArray
  | [], C, o, j, _ => by simp
  | v :: new, C, o, j, h => by
    simp only [List.zipIdx_cons, List.foldl_cons]
    have h1 : C.toArray.setIfInBounds (o + j) v = (C.set (o + j) v).toArray := by simp
    rw [h1, foldl_set new (C.set (o + j) v) o (j + 1) (by simp at h ⊢; omega)]
    congr 1
    have hlt : o + j < C.length := by simp at h; omega
    apply List.ext_getElem?
    intro i
    simp only [List.getElem?_append, List.getElem?_take, List.getElem?_drop, List.getElem?_set, List.length_append, List.length_take, List.length_set, List.length_cons, List.getElem?_cons]
    have e1 : min (o + (j + 1)) C.length = o + j + 1 := by simp at h; omega
    have e2 : min (o + j) C.length = o + j := by omega
    simp only [e1, e2]
    by_cases c1 : i < o + j
    · simp [c1, show i < o + j + 1 by omega, show i < o + j + 1 + new.length by omega, show i < o + j + (new.length + 1) by omega, show ¬ o + j = i by omega, show i < o + (j + 1) by omega]
    · by_cases c2 : i = o + j
      · subst c2
        simp [hlt, show o + j < o + (j + 1) by omega, show o + j < o + j + 1 + new.length by omega]
      · have c3 : ¬ i < o + j + 1 := by omega
        have c4 : ¬ (i - (o + j) = 0) := by omega
        by_cases c5 : i < o + j + 1 + new.length
        · simp [c1, c3, c4, c5, show i < o + j + (new.length + 1) by omega, show i - (o + j + 1) = i - (o + j) - 1 by omega]
        · simp [c5, show ¬ i < o + j + (new.length + 1) by omega]
          rw [show o + (j + 1) + new.length + (i - (o + j + 1 + new.length)) = i by omega, show o + j + (new.length + 1) + (i - (o + j + (new.length + 1))) = i by omega, if_neg (by omega)]

theorem fill_ok {places : Nat → Option (Nat × Nat)} (he : EnvOk ν N env a.tmps) : ∀ (ps : List (Nat × Operand)) (qs : List (Nat × Nat × Ex)) (cs cs' : List SV) (C : List Value),
    exP places ps = some qs → bldR (ev env) cs qs = some cs' → dens ν cs = some C →
    ∃ C', dens ν cs' = some C' ∧ Instr.fill places C.toArray (ps.map fun q => (q.1, a.eval q.2)) = some C'.toArray
  | [], qs, cs, cs', C, hx, hb, hd => by
    simp [exP] at hx; subst hx
    simp [bldR] at hb; subst hb
    exact ⟨C, hd, by simp [Instr.fill]⟩
  | (i, x) :: r, qs, cs, cs', C, hx, hb, hd => by
    simp only [exP, Option.bind_eq_some_iff, Option.map_eq_some_iff] at hx
    obtain ⟨⟨o, n⟩, h1, e, h2, qs', h3, rfl⟩ := hx
    simp only [bldR] at hb
    split at hb
    · cases hb
    · rename_i d hv
      split at hb
      · rename_i hw
        split at hb
        · rename_i cs1 hs
          have hV := ev_ok he h2 hv
          obtain ⟨D, hD, hE⟩ := den_agg hV
          have hlen := wid_ok _ _ hD
          obtain ⟨h4, h5⟩ := splC_ok _ _ _ _ _ _ _ hs hd hD (by omega)
          obtain ⟨C', h6, h7⟩ := fill_ok he r qs' cs1 cs' _ h3 hb h5
          refine ⟨C', h6, ?_⟩
          simp only [List.map_cons, Instr.fill, h1, hE, Value.cells, List.size_toArray]
          rw [if_neg (by simp; omega)]
          have := foldl_set D C o 0 (by omega)
          simp only [Nat.add_zero] at this
          rw [show D.length = n by omega] at this
          have h8 : (D.toArray.zipIdx).foldl (fun (cs : Array Value) (c : Value × Nat) => cs.setIfInBounds (o + c.2) c.1) C.toArray = (D.zipIdx).foldl (fun (cs : Array Value) (c : Value × Nat) => cs.setIfInBounds (o + c.2) c.1) C.toArray := by
            rw [← Array.foldl_toList]; simp
          rw [h8, this]
          exact h7
        · cases hb
      · cases hb
    · rename_i v hna hv
      split at hb
      · rename_i hw
        obtain ⟨rfl, hone⟩ := hw
        split at hb
        · rename_i cs1 hs
          have hV := ev_ok he h2 hv
          obtain ⟨h4, h5⟩ := wrC_ok _ _ _ _ _ _ hs hd hV
          obtain ⟨C', h6, h7⟩ := fill_ok he r qs' cs1 cs' _ h3 hb h5
          refine ⟨C', h6, ?_⟩
          have hcell : (a.eval x).cells = #[a.eval x] := (SV.c1_cell hone hV).2
          simp only [List.map_cons, Instr.fill, h1, hcell]
          rw [if_neg (by simp; omega)]
          have h8 : ((#[a.eval x] : Array Value).zipIdx).foldl (fun (cs : Array Value) (c : Value × Nat) => cs.setIfInBounds (o + c.2) c.1) C.toArray = C.toArray.setIfInBounds o (a.eval x) := by
            rw [← Array.foldl_toList]; simp
          rw [h8]
          simpa using h7
        · cases hb
      · cases hb
end

end Go.Pv
