/- Operations that read alone: the master theorem. -/
import Derived.Test.YtifoaokodgbhjaaGreatVd
namespace Go.Pv
open Go

section
variable {P : Program} {ν : Nu} {N : Nat} {env : Env} {a : Act} {hs : List SO} {T : Nat → Prop} {w : World}

theorem q_load (he : EnvOk ν N env a.tmps) {t : TypeId} {x : Operand} {o : O} (hc : compOp P (.load t x) = some o) (hl : Look P ν hs T w) (ht : ∀ t, tagQ o env = some t → T t) {p : Prop} {r : SV}
    (hv : evQ o env hs = .v p r) (hp : p) : Gives P w ν r (Instr.loadAt t (a.eval x)) := by
  simp only [compOp] at hc
  split at hc
  · rename_i ha
    simp only [Option.bind_eq_bind, Option.bind_eq_some_iff, Option.pure_def, Option.some.injEq] at hc
    obtain ⟨e, h1, n, h2, rfl⟩ := hc
    simp only [evQ] at hv
    split at hv
    · rename_i tg off hx
      split at hv
      · rename_i cs ty f1 f2 hh
        obtain ⟨b, hb, hE⟩ := den_ptr (ev_ok he h1 hx)
        obtain ⟨b', C, hb', hd, hw⟩ := look_cells hl (ht tg (by simp [tagQ, hx])) hh
        rw [hb] at hb'; cases hb'
        obtain ⟨d, rfl, hlen, hd'⟩ := ldaR_ok hd hv hp
        refine ⟨.agg ((C.drop off).take n).toArray, by simp [SV.den, hd'], ?_⟩
        rw [hE]
        simp [Instr.loadAt, Instr.sureAddr, run_loadVar_agg ha h2 (w := w) (b := b) (off := off) (C := C) (fun j _ => cell_at hw _) hlen]
      · cases hv
    · cases hv
  · rename_i ha
    split at hc
    · rename_i d hu
      simp only [Option.map_eq_some_iff] at hc
      obtain ⟨e, h1, rfl⟩ := hc
      simp only [evQ] at hv
      split at hv
      · rename_i tg off hx
        split at hv
        · rename_i cs ty f1 f2 hh
          obtain ⟨b, hb, hE⟩ := den_ptr (ev_ok he h1 hx)
          obtain ⟨b', C, hb', hd, hw⟩ := look_cells hl (ht tg (by simp [tagQ, hx])) hh
          rw [hb] at hb'; cases hb'
          obtain ⟨V, hV, hC⟩ := ldR_ok hd hv hp
          refine ⟨V, hV, ?_⟩
          rw [hE]
          simp [Instr.loadAt, Instr.sureAddr, run_loadVar_one hu (by simpa using ha) (w := w) (ad := ⟨b, off, none⟩) ((cell_at hw _).trans hC)]
        · cases hv
      · cases hv
    · cases hc

theorem q_field (he : EnvOk ν N env a.tmps) {t : TypeId} {x : Operand} {f : Nat} {o : O} (hc : compOp P (.field t x f) = some o) {p : Prop} {r : SV}
    (hv : evQ o env hs = .v p r) (hp : p) : Gives P w ν r (Instr.field t (a.eval x) f) := by
  simp only [compOp] at hc
  split at hc
  · rename_i fs hu
    simp only [Option.bind_eq_some_iff] at hc
    obtain ⟨fd, h1, n, h2, hc⟩ := hc
    split at hc
    · rename_i d hu2
      simp only [Option.map_eq_some_iff] at hc
      obtain ⟨e, h3, rfl⟩ := hc
      simp only [evQ] at hv
      split at hv
      · rename_i cs hx
        obtain ⟨C, hd, hE⟩ := den_agg (ev_ok he h3 hx)
        rw [hE]
        split at hv
        · rename_i hna
          have hna' : aggT P fd.type = false := by
            by_cases h : aggT P fd.type = true
            · rw [if_pos h] at hna; cases hna
            · simpa using h
          obtain ⟨V, hV, hC⟩ := ldR_ok hd hv hp
          refine ⟨V, hV, ?_⟩
          simp [Instr.field, run_under hu, h1, asAgg, part, aggT_run hu2, hna', hC]
        · rename_i m hna
          have hna' : aggT P fd.type = true ∧ m = n := by
            by_cases h : aggT P fd.type = true
            · rw [if_pos h] at hna; cases hna; exact ⟨h, rfl⟩
            · rw [if_neg h] at hna; cases hna
          obtain ⟨d', rfl, hlen, hd'⟩ := ldaR_ok hd hv hp
          refine ⟨.agg ((C.drop fd.offset).take m).toArray, by simp [SV.den, hd'], ?_⟩
          obtain ⟨h5, rfl⟩ := hna'
          simp [Instr.field, run_under hu, h1, asAgg, part, aggT_run hu2, h5, sizeT_run h2]
      · cases hv
    · cases hc
  · cases hc

theorem q_index (he : EnvOk ν N env a.tmps) {t : TypeId} {x i : Operand} {o : O} (hc : compOp P (.index t x i) = some o) {p : Prop} {r : SV}
    (hv : evQ o env hs = .v p r) (hp : p) : Gives P w ν r (Instr.index t (a.eval x) (a.eval i)) := by
  simp only [compOp] at hc
  split at hc
  · rename_i n e hu
    simp only [Option.bind_eq_bind, Option.bind_eq_some_iff] at hc
    obtain ⟨s, h1, hc⟩ := hc
    split at hc
    · rename_i d hu2
      simp only [Option.pure_def, Option.bind_eq_some_iff, Option.some.injEq] at hc
      obtain ⟨e1, h3, e2, h4, rfl⟩ := hc
      simp only [evQ] at hv
      split at hv
      · rename_i cs k ix hx hi
        obtain ⟨C, hd, hE⟩ := den_agg (ev_ok he h3 hx)
        have hI := den_int (ev_ok he h4 hi)
        rw [hE, hI]
        split at hv
        · rename_i hag
          split at hv
          · rename_i p' x' hld
            cases hv
            obtain ⟨⟨p0, p1⟩, p2⟩ := hp
            obtain ⟨d', rfl, hlen, hd'⟩ := ldaR_ok hd hld p2
            refine ⟨.agg ((C.drop (ix.toNat * s)).take s).toArray, by simp [SV.den, hd'], ?_⟩
            simp [Instr.index, asIntOf_int, run_under hu, p0, p1, sizeT_run h1, part, aggT_run hu2, hag]
          · cases hv
        · rename_i hag
          split at hv
          · rename_i p' x' hld
            cases hv
            obtain ⟨⟨p0, p1⟩, p2⟩ := hp
            obtain ⟨V, hV, hC⟩ := ldR_ok hd hld p2
            refine ⟨V, hV, ?_⟩
            simp [Instr.index, asIntOf_int, run_under hu, p0, p1, sizeT_run h1, part, aggT_run hu2, hag, hC]
          · cases hv
      · cases hv
    · cases hc
  · rename_i hu
    simp only [Option.pure_def, Option.bind_eq_bind, Option.bind_eq_some_iff, Option.some.injEq] at hc
    obtain ⟨e1, h3, e2, h4, rfl⟩ := hc
    simp only [evQ] at hv
    split at hv
    · rename_i s k ix hx hi
      cases hv
      have hE := den_str (ev_ok he h3 hx)
      have hI := den_int (ev_ok he h4 hi)
      rw [hE, hI]
      obtain ⟨p0, p1⟩ := hp
      refine ⟨_, rfl, ?_⟩
      have hlt : ix.toNat < s.size := by omega
      have hg : s[ix.toNat]? = some s[ix.toNat] := by simp [hlt]
      have hg2 : s.data[ix.toNat]?.getD 0 = s[ix.toNat] := by
        have hlt2 : ix.toNat < s.data.size := hlt
        rw [Array.getElem?_eq_getElem hlt2]; rfl
      rw [hg2]
      simp [Instr.index, asIntOf_int, run_under hu, p0, hg]
    · cases hv
  · cases hc

/-! ### Arrays and structs, compared -/
section
variable {P : Program}

def Leaf.eq : Leaf → Value → Value → Option Bool
  | .int k, .int k1 a, .int k2 b => if k1 = k ∧ k2 = k then some (a == b) else none
  | .bool, .bool a, .bool b => some (a == b)
  | .str, .string a, .string b => some (a.toList == b.toList)
  | _, _, _ => none
def leqs : List Leaf → List Value → List Value → Option Bool
  | [], [], [] => some true
  | l :: L, a :: A, b :: B => (l.eq a b).bind fun x => (leqs L A B).map (x && ·)
  | _, _, _ => none

theorem leqs_len : ∀ (L : List Leaf) (A B : List Value) (r : Bool), leqs L A B = some r → A.length = L.length ∧ B.length = L.length
  | [], [], [], _, _ => ⟨rfl, rfl⟩
  | [], _ :: _, _, _, h => by simp [leqs] at h
  | [], [], _ :: _, _, h => by simp [leqs] at h
  | _ :: _, [], _, _, h => by simp [leqs] at h
  | _ :: _, _ :: _, [], _, h => by simp [leqs] at h
  | l :: L, a :: A, b :: B, r, h => by
    simp only [leqs, Option.bind_eq_some_iff, Option.map_eq_some_iff] at h
    obtain ⟨_, _, _, h2, _⟩ := h
    obtain ⟨h3, h4⟩ := leqs_len L A B _ h2
    exact ⟨by simp [h3], by simp [h4]⟩

theorem leqs_nil : ∀ {A B : List Value} {r : Bool}, leqs [] A B = some r → r = true
  | [], [], _, h => by simp [leqs] at h; exact h
  | _ :: _, _, _, h => by simp [leqs] at h
  | [], _ :: _, _, h => by simp [leqs] at h

theorem leqs_app : ∀ (L M : List Leaf) (A B : List Value) (r : Bool), leqs (L ++ M) A B = some r →
    ∃ r1 r2, leqs L (A.take L.length) (B.take L.length) = some r1 ∧ leqs M (A.drop L.length) (B.drop L.length) = some r2 ∧ r = (r1 && r2)
  | [], M, A, B, r, h => ⟨true, r, by simp [leqs], by simpa using h, by simp⟩
  | l :: L, M, [], B, r, h => by simp [leqs] at h
  | l :: L, M, _ :: _, [], r, h => by simp [leqs] at h
  | l :: L, M, a :: A, b :: B, r, h => by
    simp only [List.cons_append, leqs, Option.bind_eq_some_iff, Option.map_eq_some_iff] at h
    obtain ⟨x, h1, y, h2, rfl⟩ := h
    obtain ⟨r1, r2, h3, h4, rfl⟩ := leqs_app L M A B _ h2
    exact ⟨x && r1, r2, by simp [leqs, h1, h3], by simpa using h4, by simp [Bool.and_assoc]⟩

theorem leqs_mk : ∀ (L M : List Leaf) (A A' B B' : List Value) (r r' : Bool), leqs L A B = some r → leqs M A' B' = some r' → leqs (L ++ M) (A ++ A') (B ++ B') = some (r && r')
  | [], M, [], A', [], B', r, r', h, h' => by simp [leqs] at h; subst h; simpa using h'
  | [], _, _ :: _, _, _, _, _, _, h, _ => by simp [leqs] at h
  | [], _, [], _, _ :: _, _, _, _, h, _ => by simp [leqs] at h
  | _ :: _, _, [], _, _, _, _, _, h, _ => by simp [leqs] at h
  | _ :: _, _, _ :: _, _, [], _, _, _, h, _ => by simp [leqs] at h
  | l :: L, M, a :: A, A', b :: B, B', r, r', h, h' => by
    simp only [leqs, Option.bind_eq_some_iff, Option.map_eq_some_iff] at h
    obtain ⟨x, h1, y, h2, rfl⟩ := h
    have := leqs_mk L M A A' B B' y r' h2 h'
    simp [leqs, h1, this, Bool.and_assoc]

/-- A value of type `t` whose cells are `A`. -/
def IsVal (P : Program) (t : TypeId) (a : Value) (A : List Value) : Prop := if aggT P t = true then a = .agg A.toArray else A = [a]

theorem part_val {t : TypeId} {L : List Leaf} (hu : ∃ d, P.underlying t = some d) (hs : P.cellsOf t = L.length) (h1 : aggT P t = false → L.length = 1) (xs : Array Value) (off : Nat) (w : World) (hlen : ((xs.toList.drop off).take L.length).length = L.length) :
    ∃ a, (part t xs off).run P w = .ok a w ∧ IsVal P t a ((xs.toList.drop off).take L.length) := by
  obtain ⟨d, hu⟩ := hu
  obtain ⟨i, hi⟩ := info_of_underlying hu
  cases ha : aggT P t with
  | true =>
    refine ⟨.agg (xs.extract off (off + L.length)), ?_, ?_⟩
    · simp only [part, Sem.run_bind, aggT_run hu, Result.andThen_ok, ha, if_true]
      have : (sizeOf t).run P w = .ok L.length w := by
        rw [run_sizeOf w hi, hs]
      simp [this]
    · simp only [IsVal, ha, if_true]
      congr 1
      rw [← Array.toList_inj, Array.toList_extract]
      simp [List.extract]
  | false =>
    have hl := h1 ha
    rw [hl] at hlen
    have hlt : off < xs.size := by
      simp at hlen; omega
    refine ⟨xs[off], ?_, ?_⟩
    · simp [part, aggT_run hu, ha, hlt]
    · simp only [IsVal, ha, hl]
      rw [List.take_one]
      simp [hlt]

theorem leafs_under {f : Nat} {t : TypeId} {L : List Leaf} (h : leafs P f t = some L) : ∃ d, P.underlying t = some d := by
  cases f with
  | zero => simp [leafs] at h
  | succ f =>
    unfold leafs at h
    cases hu : P.underlying t with
    | none => simp [hu] at h
    | some d => exact ⟨d, rfl⟩
theorem leafs_one {f : Nat} {t : TypeId} {L : List Leaf} (h : leafs P f t = some L) (ha : aggT P t = false) : L.length = 1 := by
  cases f with
  | zero => simp [leafs] at h
  | succ f =>
    unfold leafs at h
    unfold aggT at ha
    split at h
    · cases h; rfl
    · cases h; rfl
    · cases h; rfl
    · rename_i hu; simp [hu] at ha
    · rename_i hu; simp [hu] at ha
    · cases h

def EqOk (P : Program) (dd : Nat) (t : TypeId) (L : List Leaf) : Prop :=
  ∀ (w : World) (a b : Value) (A B : List Value) (r : Bool), IsVal P t a A → IsVal P t b B → leqs L A B = some r → (Op.equalIn dd t a b).run P w = .ok r w

theorem items_ok {dd : Nat} {e : TypeId} {L : List Leaf} (hu : ∃ d, P.underlying e = some d) (hs : P.cellsOf e = L.length) (h1 : aggT P e = false → L.length = 1) (IH : EqOk P dd e L) (xs ys : Array Value) (w : World) :
    ∀ (m i : Nat) (r : Bool), leqs (List.replicate m L).flatten (xs.toList.drop (i * L.length)) (ys.toList.drop (i * L.length)) = some r → (Op.eqItems dd e (P.cellsOf e) xs ys (List.range' i m)).run P w = .ok r w
  | 0, i, r, h => by
    simp only [List.replicate_zero, List.flatten_nil] at h
    have := leqs_nil h
    subst this
    simp [Op.eqItems]
  | m + 1, i, r, h => by
    rw [List.replicate_succ, List.flatten_cons] at h
    obtain ⟨r1, r2, g1, g2, rfl⟩ := leqs_app _ _ _ _ _ h
    obtain ⟨l1, l2⟩ := leqs_len _ _ _ _ g1
    obtain ⟨a, p1, v1⟩ := part_val (t := e) hu hs h1 xs (i * L.length) w l1
    obtain ⟨b, p2, v2⟩ := part_val (t := e) hu hs h1 ys (i * L.length) w l2
    have p3 := IH w a b _ _ r1 v1 v2 g1
    rw [List.drop_drop, List.drop_drop, show i * L.length + L.length = (i + 1) * L.length by rw [Nat.add_mul, Nat.one_mul]] at g2
    have ih := items_ok hu hs h1 IH xs ys w m (i + 1) r2 g2
    rw [List.range'_succ]
    rw [← hs] at p1 p2
    simp only [Op.eqItems, Sem.run_bind, p1, p2, p3, Result.andThen_ok]
    cases r1
    · simp
    · simpa using ih

theorem fields_ok {dd f : Nat} (IH : ∀ (t : TypeId) (L : List Leaf), leafs P f t = some L → EqOk P dd t L) (xs ys : Array Value) (w : World) :
    ∀ (fs : List Field) (o : Nat) (L : List Leaf) (r : Bool), leafsF P (leafs P f) fs o = some L → leqs L (xs.toList.drop o) (ys.toList.drop o) = some r → (Op.eqFields dd xs ys fs).run P w = .ok r w
  | [], o, L, r, hL, h => by
    simp only [leafsF, Option.some.injEq] at hL
    subst hL
    have := leqs_nil h
    subst this
    simp [Op.eqFields]
  | x :: fs, o, L, r, hL, h => by
    simp only [leafsF] at hL
    split at hL
    · rename_i hc
      simp only [Bool.and_eq_true, bne_iff_ne, ne_eq, beq_iff_eq] at hc
      simp only [Option.bind_eq_some_iff] at hL
      obtain ⟨l, q1, hL⟩ := hL
      split at hL
      · rename_i hs
        simp only [Option.map_eq_some_iff] at hL
        obtain ⟨M, q2, rfl⟩ := hL
        obtain ⟨r1, r2, g1, g2, rfl⟩ := leqs_app _ _ _ _ _ h
        obtain ⟨l1, l2⟩ := leqs_len _ _ _ _ g1
        obtain ⟨a, p1, v1⟩ := part_val (t := x.type) (leafs_under q1) hs (leafs_one q1) xs o w l1
        obtain ⟨b, p2, v2⟩ := part_val (t := x.type) (leafs_under q1) hs (leafs_one q1) ys o w l2
        have p3 := IH x.type l q1 w a b _ _ r1 v1 v2 g1
        rw [List.drop_drop, List.drop_drop] at g2
        have ih := fields_ok IH xs ys w fs _ _ _ q2 g2
        rw [← hc.2] at p1 p2
        simp only [Op.eqFields, hc.1, ne_eq, not_false_eq_true, if_true, Sem.run_bind, p1, p2, p3, Result.andThen_ok]
        cases r1
        · simp
        · simpa using ih
      · cases hL
    · cases hL

theorem eq_ok : ∀ (f : Nat) (t : TypeId) (L : List Leaf), leafs P f t = some L → ∀ d, EqOk P (d + f) t L
  | 0, _, _, h, _ => by simp [leafs] at h
  | f + 1, t, L, h, d => by
    intro w a b A B r ha hb he
    unfold leafs at h
    have one : aggT P t = false → ∀ (lf : Leaf), L = [lf] → A = [a] ∧ B = [b] ∧ lf.eq a b = some r := by
      intro hag lf hL
      simp only [IsVal, hag, Bool.false_eq_true, if_false] at ha hb
      subst ha hb hL
      simp only [leqs, Option.bind_eq_some_iff, Option.map_eq_some_iff] at he
      obtain ⟨x, h1, y, h2, rfl⟩ := he
      cases h2
      exact ⟨rfl, rfl, by simpa using h1⟩
    split at h
    · rename_i hu
      cases h
      obtain ⟨_, _, h1⟩ := one (by simp [aggT, hu]) _ rfl
      cases a <;> cases b <;> simp [Leaf.eq] at h1
      subst h1
      exact run_equalIn_bool w (d + f) t _ _ hu
    · rename_i k hu
      cases h
      obtain ⟨_, _, h1⟩ := one (by simp [aggT, hu]) _ rfl
      cases a <;> cases b <;> simp [Leaf.eq] at h1
      obtain ⟨⟨rfl, rfl⟩, rfl⟩ := h1
      rw [show d + (f + 1) = (d + f) + 1 from rfl]
      simp [Op.equalIn, run_underlying hu]
    · rename_i hu
      cases h
      obtain ⟨_, _, h1⟩ := one (by simp [aggT, hu]) _ rfl
      cases a <;> cases b <;> simp [Leaf.eq] at h1
      subst h1
      rw [show d + (f + 1) = (d + f) + 1 from rfl]
      exact run_equalIn_string w (d + f) t _ _ hu
    · rename_i n e hu
      simp only [Option.bind_eq_some_iff] at h
      obtain ⟨l, q1, h⟩ := h
      split at h
      · rename_i hc
        cases h
        obtain ⟨hs, hi⟩ := hc
        obtain ⟨i, hi⟩ := Option.isSome_iff_exists.1 hi
        have hag : aggT P t = true := by simp [aggT, hu]
        simp only [IsVal, hag, if_true] at ha hb
        subst ha hb
        rw [show d + (f + 1) = (d + f) + 1 from rfl, run_equalIn_array w (d + f) _ _ hu hi, List.range_eq_range']
        exact items_ok (leafs_under q1) hs (leafs_one q1) (eq_ok f e l q1 d) _ _ w n 0 r (by simpa using he)
      · cases h
    · rename_i fs hu
      split at h
      · cases h
      · rename_i hsh
        have hag : aggT P t = true := by simp [aggT, hu]
        simp only [IsVal, hag, if_true] at ha hb
        subst ha hb
        have hfs : P.fieldsOf t = fs := by simp [Program.fieldsOf, hu]
        rw [show d + (f + 1) = (d + f) + 1 from rfl, run_equalIn_struct w (d + f) t _ _ (by rw [hfs]; exact hu) (by simpa using hsh), hfs]
        exact fields_ok (fun t L h => eq_ok f t L h d) _ _ w fs.toList 0 L r h (by simpa using he)
    · cases h

theorem leqs_run {ν : Nu} {k : IntKind} : ∀ (l l' : List Int) , l.length = l'.length → leqs (List.replicate l.length (.int k)) (l.map (Value.int k)) (l'.map (Value.int k)) = some (l == l')
  | [], [], _ => rfl
  | [], _ :: _, h => by simp at h
  | _ :: _, [], h => by simp at h
  | a :: l, b :: l', h => by
    have ih := leqs_run (ν := ν) (k := k) l l' (by simpa using h)
    simp [List.replicate_succ, leqs, Leaf.eq, ih]

theorem eqC_ok {ν : Nu} : ∀ (z xs ys : List SV) (L : List Leaf) (A B : List Value) (r : Bool), leafsZ z = some L → dens ν xs = some A → dens ν ys = some B → eqC z xs ys = some r → leqs L A B = some r := by
  intro z
  induction z with
  | nil =>
    intro xs ys L A B r hL hA hB h
    cases xs <;> cases ys <;> simp [eqC] at h
    simp only [leafsZ, Option.some.injEq] at hL
    simp only [dens, Option.some.injEq] at hA hB
    subst hL hA hB h
    rfl
  | cons v z ih =>
    intro xs ys L A B r hL hA hB h
    unfold eqC at h
    split at h
    · rename_i h1; cases h1
    · rename_i k n _ z' k1 n1 l xs' k2 n2 l' ys' h1
      cases h1
      split at h
      · rename_i hc
        obtain ⟨rfl, rfl, rfl, rfl⟩ := hc
        simp only [leafsZ, Option.map_eq_some_iff] at hL h
        obtain ⟨L', hL', rfl⟩ := hL
        obtain ⟨r', hr', rfl⟩ := h
        obtain ⟨e1, A', hA', rfl⟩ := dens_cons_run hA
        obtain ⟨e2, B', hB', rfl⟩ := dens_cons_run hB
        refine leqs_mk _ _ _ _ _ _ _ _ ?_ (ih _ _ _ _ _ _ hL' hA' hB' hr')
        rw [← e1]
        exact leqs_run (ν := ν) l l' (by omega)
      · cases h
    · rename_i k n z' k1 a xs' k2 b ys' h1
      cases h1
      split at h
      · rename_i hc
        obtain ⟨rfl, rfl⟩ := hc
        simp only [leafsZ, Option.map_eq_some_iff] at hL h
        obtain ⟨L', hL', rfl⟩ := hL
        obtain ⟨r', hr', rfl⟩ := h
        obtain ⟨V, A', e1, hA', rfl⟩ := dens_cons_one rfl hA
        obtain ⟨V2, B', e2, hB', rfl⟩ := dens_cons_one rfl hB
        cases e1; cases e2
        simp [leqs, Leaf.eq, ih _ _ _ _ _ _ hL' hA' hB' hr']
      · cases h
    · rename_i n z' a xs' b ys' h1
      cases h1
      simp only [leafsZ, Option.map_eq_some_iff] at hL h
      obtain ⟨L', hL', rfl⟩ := hL
      obtain ⟨r', hr', rfl⟩ := h
      obtain ⟨V, A', e1, hA', rfl⟩ := dens_cons_one rfl hA
      obtain ⟨V2, B', e2, hB', rfl⟩ := dens_cons_one rfl hB
      cases e1; cases e2
      simp [leqs, Leaf.eq, ih _ _ _ _ _ _ hL' hA' hB' hr']
    · rename_i n z' a xs' b ys' h1
      cases h1
      simp only [leafsZ, Option.map_eq_some_iff] at hL h
      obtain ⟨L', hL', rfl⟩ := hL
      obtain ⟨r', hr', rfl⟩ := h
      obtain ⟨V, A', e1, hA', rfl⟩ := dens_cons_one rfl hA
      obtain ⟨V2, B', e2, hB', rfl⟩ := dens_cons_one rfl hB
      cases e1; cases e2
      simp [leqs, Leaf.eq, ih _ _ _ _ _ _ hL' hA' hB' hr']
    · cases h

end

theorem q_eqa (he : EnvOk ν N env a.tmps) {op : BinOp} {neg : Bool} (hop : (op = .eql ∧ neg = false) ∨ (op = .neq ∧ neg = true)) {ty : TypeId} {x y : Operand} {e1 e2 : Ex} (h1 : exO x = some e1) (h2 : exO y = some e2) (hag : aggT P ty = true) {z : List SV} (hz : cmpZ P ty = some z) {p : Prop} {r : SV}
    (hv : evQ (.eqa neg z e1 e2) env hs = .v p r) (hp : p) : Gives P w ν r (do eqGuard op ty x y (a.eval x) (a.eval y); binOp op ty (a.eval x) (a.eval y)) := by
  unfold cmpZ at hz
  split at hz
  · cases hz
  · rename_i hg
    simp only [Option.bind_eq_some_iff] at hz
    obtain ⟨z', hz', L, hL, hz⟩ := hz
    split at hz
    · rename_i hlf
      cases hz
      simp only [evQ] at hv
      split at hv
      · rename_i xs ys hx hy
        split at hv
        · rename_i b hb
          cases hv
          obtain ⟨A, hA, hA'⟩ := den_agg (ev_ok he h1 hx)
          obtain ⟨B, hB, hB'⟩ := den_agg (ev_ok he h2 hy)
          rw [hA', hB']
          have hleq := eqC_ok _ _ _ _ _ _ _ hL hA hB hb
          have heq : ∀ w, (Op.equalIn 10000 ty (.agg A.toArray) (.agg B.toArray)).run P w = .ok b w := fun w =>
            eq_ok 20 ty L hlf 9980 w _ _ A B b (by simp [IsVal, hag]) (by simp [IsVal, hag]) hleq
          refine ⟨_, rfl, ?_⟩
          have hgd := run_eqGuard_agg w op ty x y A.toArray B.toArray (by simpa using hg)
          rcases hop with ⟨rfl, rfl⟩ | ⟨rfl, rfl⟩
          · simp only [Sem.run_bind, hgd, Result.andThen_ok, run_eql_struct, heq]; rfl
          · simp only [Sem.run_bind, hgd, Result.andThen_ok, run_neq_struct, heq]; rfl
        · cases hv
      · cases hv
    · cases hz

theorem q_bin (he : EnvOk ν N env a.tmps) {op : BinOp} {ty ty2 : TypeId} {x y : Operand} {o : O} (hc : compOp P (.binOp op ty x y ty2) = some o) {p : Prop} {r : SV}
    (hv : evQ o env hs = .v p r) (hp : p) : Gives P w ν r (do eqGuard op ty x y (a.eval x) (a.eval y); binOp op ty (a.eval x) (a.eval y)) := by
  simp only [compOp, Option.bind_eq_bind, Option.bind_eq_some_iff] at hc
  obtain ⟨e1, h1, e2, h2, hc⟩ := hc
  split at hc
  · rename_i hag
    split at hc
    · simp only [Option.map_eq_some_iff] at hc
      obtain ⟨z, hz, rfl⟩ := hc
      exact q_eqa he (.inl ⟨rfl, rfl⟩) h1 h2 hag hz hv hp
    · simp only [Option.map_eq_some_iff] at hc
      obtain ⟨z, hz, rfl⟩ := hc
      exact q_eqa he (.inr ⟨rfl, rfl⟩) h1 h2 hag hz hv hp
    · cases hc
  · have key : ∀ e, some (O.bin op e1 e2) = some e → e = o → Gives P w ν r (do eqGuard op ty x y (a.eval x) (a.eval y); binOp op ty (a.eval x) (a.eval y)) := by
      intro e he1 he2
      cases he1; subst he2
      simp only [evQ] at hv
      split at hv
      · rename_i v u hx hy
        have hX := ev_ok he h1 hx
        have hY := ev_ok he h2 hy
        unfold binR at hv
        split at hv
        · rename_i k c k' d
          have h5 := den_int hX
          have h6 := den_int hY
          rw [h5, h6]
          have hg : ∀ w, (eqGuard op ty x y (.int k c) (.int k' d)).run P w = .ok () w := by
            intro w
            unfold eqGuard
            cases op <;> simp
          split at hv
          · cases hv
            refine ⟨_, rfl, ?_⟩
            simp [hg, binOp, Op.shift, show ¬ d < 0 by omega]
          · cases hv
            refine ⟨_, rfl, ?_⟩
            simp [hg, binOp, Op.shift, show ¬ d < 0 by omega]
          · rename_i n1 n2
            split at hv
            · rename_i hk
              subst hk
              obtain ⟨V, h7, h8⟩ := intBin_ok (P := P) (ν := ν) hv hp ⟨fun h => n1 h, fun h => n2 h⟩ ty w
              exact ⟨V, h7, by simp [hg, h8]⟩
            · cases hv
        · rename_i c d
          have h5 := den_str hX
          have h6 := den_str hY
          rw [h5, h6]
          have hg : ∀ w, (eqGuard op ty x y (.string c) (.string d)).run P w = .ok () w := by
            intro w
            unfold eqGuard
            cases op <;> simp
          split at hv
          · cases hv
            refine ⟨_, rfl, ?_⟩
            have h9 : ((c.size + d.size : Nat) : Int) ≤ IntKind.i64.max := hp
            have h10 : IntKind.i64.max = 9223372036854775807 := by decide
            rw [h10, Int.natCast_add] at h9
            simp [hg, binOp, Op.stringOp, h10]
            omega
          · cases hv
            exact ⟨_, rfl, by simp [hg, binOp, Op.stringOp]⟩
          · cases hv
            exact ⟨_, rfl, by simp [hg, binOp, Op.stringOp]⟩
          · cases hv
        · cases hv
      · cases hv
    split at hc
    · simp at hc; exact key _ rfl (by simpa using hc)
    · simp at hc; exact key _ rfl (by simpa using hc)
    · rename_i hu
      have kb : ∀ neg, (op = .eql ∧ neg = false) ∨ (op = .neq ∧ neg = true) → o = .eqb neg e1 e2 → Gives P w ν r (do eqGuard op ty x y (a.eval x) (a.eval y); binOp op ty (a.eval x) (a.eval y)) := by
        intro neg hop ho
        subst ho
        simp only [evQ] at hv
        split at hv
        · rename_i c d hx hy
          cases hv
          have h5 := den_bool (ev_ok he h1 hx)
          have h6 := den_bool (ev_ok he h2 hy)
          rw [h5, h6]
          have hqq : ∀ w, (Op.equal ty (.bool c) (.bool d)).run P w = .ok (c == d) w := by
            intro w
            show (Op.equalIn (9999 + 1) ty (.bool c) (.bool d)).run P w = _
            rw [Op.equalIn]
            simp [run_under hu]
          refine ⟨_, rfl, ?_⟩
          rcases hop with ⟨rfl, rfl⟩ | ⟨rfl, rfl⟩ <;> simp [eqGuard, binOp, hqq]
        · cases hv
      split at hc
      · simp at hc; exact kb false (.inl ⟨rfl, rfl⟩) hc.symm
      · simp at hc; exact kb true (.inr ⟨rfl, rfl⟩) hc.symm
      · cases hc
    all_goals
      rename_i hu
      have kn : ∀ kd neg, (op = .eql ∧ neg = false) ∨ (op = .neq ∧ neg = true) → o = .eqn kd neg e1 e2 →
          (∀ v u (b : Bool), nilR kd v u = some b → v.den ν = some (a.eval x) → u.den ν = some (a.eval y) → (∀ w, (eqGuard op ty x y (a.eval x) (a.eval y)).run P w = .ok () w) ∧ (∀ w, (binOp .eql ty (a.eval x) (a.eval y)).run P w = .ok (.bool b) w) ∧ (∀ w, (binOp .neq ty (a.eval x) (a.eval y)).run P w = .ok (.bool !b) w)) →
          Gives P w ν r (do eqGuard op ty x y (a.eval x) (a.eval y); binOp op ty (a.eval x) (a.eval y)) := by
        intro kd neg hop ho hall
        subst ho
        simp only [evQ] at hv
        split at hv
        · rename_i v u hx hy
          unfold eqnR at hv
          split at hv
          · rename_i b hb
            cases hv
            obtain ⟨g1, g2, g3⟩ := hall v u b hb (ev_ok he h1 hx) (ev_ok he h2 hy)
            refine ⟨_, rfl, ?_⟩
            rcases hop with ⟨rfl, rfl⟩ | ⟨rfl, rfl⟩ <;> simp [g1, g2, g3]
          · cases hv
        · cases hv
      skip
    · split at hc
      · cases hc
      · rename_i e hsz
        have hsz' : ∃ n, sizeT P e = some n ∧ n ≠ 0 := by
          cases hs : sizeT P e with
          | none => simp [hs] at hsz
          | some n => exact ⟨n, rfl, by rintro rfl; simp [hs] at hsz⟩
        obtain ⟨n, hn, hn0⟩ := hsz'
        have fin : ∀ v u (b : Bool), nilR 0 v u = some b → v.den ν = some (a.eval x) → u.den ν = some (a.eval y) → (∀ w, (eqGuard op ty x y (a.eval x) (a.eval y)).run P w = .ok () w) ∧ (∀ w, (binOp .eql ty (a.eval x) (a.eval y)).run P w = .ok (.bool b) w) ∧ (∀ w, (binOp .neq ty (a.eval x) (a.eval y)).run P w = .ok (.bool !b) w) := by
          intro v u b hb hv hu'
          have hqq : ∀ V U (b : Bool), (∀ w, (Op.equalIn (9999 + 1) ty V U).run P w = .ok b w) → ∀ w, (Op.equal ty V U).run P w = .ok b w := fun V U b h w => h w
          have done : ∀ V U, V = a.eval x → U = a.eval y → (∀ w, (Op.equalIn (9999 + 1) ty V U).run P w = .ok b w) → (∀ w, (eqGuard op ty x y V U).run P w = .ok () w) → (∀ w, (binOp .eql ty V U).run P w = (do pure (.bool (← Op.equal ty V U)) : Sem Value).run P w) → (∀ w, (binOp .neq ty V U).run P w = (do pure (.bool (!(← Op.equal ty V U))) : Sem Value).run P w) →
              (∀ w, (eqGuard op ty x y (a.eval x) (a.eval y)).run P w = .ok () w) ∧ (∀ w, (binOp .eql ty (a.eval x) (a.eval y)).run P w = .ok (.bool b) w) ∧ (∀ w, (binOp .neq ty (a.eval x) (a.eval y)).run P w = .ok (.bool !b) w) := by
            intro V U e1 e2 h1 h2 h3 h4
            rw [← e1, ← e2]
            have := hqq _ _ _ h1
            exact ⟨h2, fun w => by rw [h3]; simp [this], fun w => by rw [h4]; simp [this]⟩
          have hb' : nilP v u = some b := hb
          unfold nilP at hb'
          split at hb' <;> cases hb' <;> simp only [SV.den, Option.map_eq_some_iff, Option.some.injEq] at hv hu'
          all_goals
            (try obtain ⟨t1, _, hv⟩ := hv)
            (try obtain ⟨t2, _, hu'⟩ := hu')
            refine done _ _ hv hu' (fun w => by rw [Op.equalIn]; simp [run_under hu]) (fun w => by cases op <;> simp [eqGuard]) (fun w => rfl) (fun w => rfl)
        split at hc
        · simp at hc; exact kn 0 false (.inl ⟨rfl, rfl⟩) hc.symm fin
        · simp at hc; exact kn 0 true (.inr ⟨rfl, rfl⟩) hc.symm fin
        · cases hc
    · have fin : ∀ v u (b : Bool), nilR 1 v u = some b → v.den ν = some (a.eval x) → u.den ν = some (a.eval y) → (∀ w, (eqGuard op ty x y (a.eval x) (a.eval y)).run P w = .ok () w) ∧ (∀ w, (binOp .eql ty (a.eval x) (a.eval y)).run P w = .ok (.bool b) w) ∧ (∀ w, (binOp .neq ty (a.eval x) (a.eval y)).run P w = .ok (.bool !b) w) := by
        intro v u b hb hv hu'
        have hqq : ∀ V U (b : Bool), (∀ w, (Op.equalIn (9999 + 1) ty V U).run P w = .ok b w) → ∀ w, (Op.equal ty V U).run P w = .ok b w := fun V U b h w => h w
        have done : ∀ V U, V = a.eval x → U = a.eval y → (∀ w, (Op.equalIn (9999 + 1) ty V U).run P w = .ok b w) → (∀ w, (eqGuard op ty x y V U).run P w = .ok () w) → (∀ w, (binOp .eql ty V U).run P w = (do pure (.bool (← Op.equal ty V U)) : Sem Value).run P w) → (∀ w, (binOp .neq ty V U).run P w = (do pure (.bool (!(← Op.equal ty V U))) : Sem Value).run P w) →
            (∀ w, (eqGuard op ty x y (a.eval x) (a.eval y)).run P w = .ok () w) ∧ (∀ w, (binOp .eql ty (a.eval x) (a.eval y)).run P w = .ok (.bool b) w) ∧ (∀ w, (binOp .neq ty (a.eval x) (a.eval y)).run P w = .ok (.bool !b) w) := by
          intro V U e1 e2 h1 h2 h3 h4
          rw [← e1, ← e2]
          have := hqq _ _ _ h1
          exact ⟨h2, fun w => by rw [h3]; simp [this], fun w => by rw [h4]; simp [this]⟩
        have hb' : nilS v u = some b := hb
        unfold nilS at hb'
        split at hb' <;> cases hb' <;> simp only [SV.den, Option.map_eq_some_iff, Option.some.injEq] at hv hu'
        all_goals
          (try obtain ⟨t1, _, hv⟩ := hv)
          (try obtain ⟨t2, _, hu'⟩ := hu')
          refine done _ _ hv hu' (fun w => by rw [Op.equalIn]; simp [run_under hu]) (fun w => by cases op <;> simp [eqGuard]) (fun w => rfl) (fun w => rfl)
      split at hc
      · simp at hc; exact kn 1 false (.inl ⟨rfl, rfl⟩) hc.symm fin
      · simp at hc; exact kn 1 true (.inr ⟨rfl, rfl⟩) hc.symm fin
      · cases hc
    · have fin : ∀ v u (b : Bool), nilR 2 v u = some b → v.den ν = some (a.eval x) → u.den ν = some (a.eval y) → (∀ w, (eqGuard op ty x y (a.eval x) (a.eval y)).run P w = .ok () w) ∧ (∀ w, (binOp .eql ty (a.eval x) (a.eval y)).run P w = .ok (.bool b) w) ∧ (∀ w, (binOp .neq ty (a.eval x) (a.eval y)).run P w = .ok (.bool !b) w) := by
        intro v u b hb hv hu'
        have hqq : ∀ V U (b : Bool), (∀ w, (Op.equalIn (9999 + 1) ty V U).run P w = .ok b w) → ∀ w, (Op.equal ty V U).run P w = .ok b w := fun V U b h w => h w
        have done : ∀ V U, V = a.eval x → U = a.eval y → (∀ w, (Op.equalIn (9999 + 1) ty V U).run P w = .ok b w) → (∀ w, (eqGuard op ty x y V U).run P w = .ok () w) → (∀ w, (binOp .eql ty V U).run P w = (do pure (.bool (← Op.equal ty V U)) : Sem Value).run P w) → (∀ w, (binOp .neq ty V U).run P w = (do pure (.bool (!(← Op.equal ty V U))) : Sem Value).run P w) →
            (∀ w, (eqGuard op ty x y (a.eval x) (a.eval y)).run P w = .ok () w) ∧ (∀ w, (binOp .eql ty (a.eval x) (a.eval y)).run P w = .ok (.bool b) w) ∧ (∀ w, (binOp .neq ty (a.eval x) (a.eval y)).run P w = .ok (.bool !b) w) := by
          intro V U e1 e2 h1 h2 h3 h4
          rw [← e1, ← e2]
          have := hqq _ _ _ h1
          exact ⟨h2, fun w => by rw [h3]; simp [this], fun w => by rw [h4]; simp [this]⟩
        have hb' : nilM v u = some b := hb
        unfold nilM at hb'
        split at hb' <;> cases hb' <;> simp only [SV.den, Option.map_eq_some_iff, Option.some.injEq] at hv hu'
        all_goals
          (try obtain ⟨t1, _, hv⟩ := hv)
          (try obtain ⟨t2, _, hu'⟩ := hu')
          refine done _ _ hv hu' (fun w => by rw [Op.equalIn]; simp [run_under hu]) (fun w => by cases op <;> simp [eqGuard]) (fun w => rfl) (fun w => rfl)
      split at hc
      · simp at hc; exact kn 2 false (.inl ⟨rfl, rfl⟩) hc.symm fin
      · simp at hc; exact kn 2 true (.inr ⟨rfl, rfl⟩) hc.symm fin
      · cases hc
    · have fin : ∀ v u (b : Bool), nilR 3 v u = some b → v.den ν = some (a.eval x) → u.den ν = some (a.eval y) → (∀ w, (eqGuard op ty x y (a.eval x) (a.eval y)).run P w = .ok () w) ∧ (∀ w, (binOp .eql ty (a.eval x) (a.eval y)).run P w = .ok (.bool b) w) ∧ (∀ w, (binOp .neq ty (a.eval x) (a.eval y)).run P w = .ok (.bool !b) w) := by
        intro v u b hb hv hu'
        have hqq : ∀ V U (b : Bool), (∀ w, (Op.equalIn (9999 + 1) ty V U).run P w = .ok b w) → ∀ w, (Op.equal ty V U).run P w = .ok b w := fun V U b h w => h w
        have done : ∀ V U, V = a.eval x → U = a.eval y → (∀ w, (Op.equalIn (9999 + 1) ty V U).run P w = .ok b w) → (∀ w, (eqGuard op ty x y V U).run P w = .ok () w) → (∀ w, (binOp .eql ty V U).run P w = (do pure (.bool (← Op.equal ty V U)) : Sem Value).run P w) → (∀ w, (binOp .neq ty V U).run P w = (do pure (.bool (!(← Op.equal ty V U))) : Sem Value).run P w) →
            (∀ w, (eqGuard op ty x y (a.eval x) (a.eval y)).run P w = .ok () w) ∧ (∀ w, (binOp .eql ty (a.eval x) (a.eval y)).run P w = .ok (.bool b) w) ∧ (∀ w, (binOp .neq ty (a.eval x) (a.eval y)).run P w = .ok (.bool !b) w) := by
          intro V U e1 e2 h1 h2 h3 h4
          rw [← e1, ← e2]
          have := hqq _ _ _ h1
          exact ⟨h2, fun w => by rw [h3]; simp [this], fun w => by rw [h4]; simp [this]⟩
        have hb' : nilF v u = some b := hb
        unfold nilF at hb'
        split at hb' <;> cases hb' <;> simp only [SV.den, Option.map_eq_some_iff, Option.some.injEq] at hv hu'
        all_goals
          (try obtain ⟨t1, _, hv⟩ := hv)
          (try obtain ⟨t2, _, hu'⟩ := hu')
          refine done _ _ hv hu' (fun w => by rw [Op.equalIn]; simp [run_under hu]) (fun w => by cases op <;> simp [eqGuard]) (fun w => rfl) (fun w => rfl)
      split at hc
      · simp at hc; exact kn 3 false (.inl ⟨rfl, rfl⟩) hc.symm fin
      · simp at hc; exact kn 3 true (.inr ⟨rfl, rfl⟩) hc.symm fin
      · cases hc
    · cases hc
end

end Go.Pv
