/- Values with local block numbers ("tags") and what they stand for: the base of the walk by tags. -/
import Derived.WalkKit
import Derived.AtR
import Derived.OrdersHeld
import Derived.DeepKeys
import Derived.Laws.StructEq
namespace Go.Pv
open Go

/-- A value whose block numbers are tags (places in a list of blocks); `run` stands for `n` cells of integers. -/
inductive SV where
  | int (k : IntKind) (n : Int)
  | bool (b : Bool)
  | str (s : ByteArray)
  | ptr (t off : Nat)
  | nilp
  | sl (t off len cap : Nat)
  | nils
  | fn (f : Nat) (caps : List SV)
  | yld (t : Nat)
  | nilf
  | mp (t : Nat)
  | nilm
  | agg (cs : List SV)
  | tup (vs : List SV)
  | run (k : IntKind) (n : Nat) (l : List Int)
  | raw (V : Value)

/-- Where tag `t` lies. -/
abbrev Nu := List Nat

mutual
def SV.den (ν : Nu) : SV → Option Value
  | .int k n => some (.int k n)
  | .bool b => some (.bool b)
  | .str s => some (.string s)
  | .ptr t off => (ν[t]?).map fun b => .pointer (some ⟨b, off, none⟩)
  | .nilp => some (.pointer none)
  | .sl t off len cap => (ν[t]?).map fun b => .slice (some ⟨b, off, none⟩) len cap
  | .nils => some (.slice none 0 0)
  | .fn f caps => (dens ν caps).map fun cs => .func (.func f) #[] cs.toArray
  | .yld t => (ν[t]?).map fun b => .func (.yield b) #[] #[]
  | .nilf => some .nilFunc
  | .mp t => (ν[t]?).map fun b => .map (some b)
  | .nilm => some (.map none)
  | .agg cs => (dens ν cs).map fun cs => .agg cs.toArray
  | .tup vs => (dens ν vs).map fun cs => .tuple cs.toArray
  | .run _ _ _ => none
  | .raw V => some V
def dens (ν : Nu) : List SV → Option (List Value)
  | [] => some []
  | .run k n l :: r => if l.length = n then (dens ν r).map (l.map (Value.int k) ++ ·) else none
  | v :: r => (SV.den ν v).bind fun V => (dens ν r).map (V :: ·)
end

mutual
def SV.ren (σ : List Nat) : SV → SV
  | .ptr t off => .ptr (σ.getD t 0) off
  | .sl t off len cap => .sl (σ.getD t 0) off len cap
  | .fn f caps => .fn f (rens σ caps)
  | .yld t => .yld (σ.getD t 0)
  | .mp t => .mp (σ.getD t 0)
  | .agg cs => .agg (rens σ cs)
  | .tup vs => .tup (rens σ vs)
  | v => v
def rens (σ : List Nat) : List SV → List SV
  | [] => []
  | v :: r => SV.ren σ v :: rens σ r
end



theorem dens_nil (ν : Nu) : dens ν [] = some [] := by simp [dens]
theorem dens_run (ν : Nu) (k : IntKind) (n : Nat) (l : List Int) (r : List SV) :
    dens ν (.run k n l :: r) = if l.length = n then (dens ν r).map (l.map (Value.int k) ++ ·) else none := by simp [dens]

/-- Is it no run? -/
def SV.one : SV → Bool
  | .run _ _ _ => false
  | _ => true
theorem dens_one (ν : Nu) (v : SV) (r : List SV) (h : v.one = true) : dens ν (v :: r) = (SV.den ν v).bind fun V => (dens ν r).map (V :: ·) := by
  cases v <;> simp [SV.one] at h <;> simp [dens]

/-- Is it the value of one cell? -/
def SV.c1 : SV → Bool
  | .run _ _ _ => false
  | .agg _ => false
  | .tup _ => false
  | .raw .nilIface => true
  | .raw _ => false
  | _ => true
theorem SV.c1_one {v : SV} (h : v.c1 = true) : v.one = true := by cases v <;> simp_all [SV.c1, SV.one]
theorem SV.c1_cell {ν : Nu} {v : SV} {V : Value} (h : v.c1 = true) (hd : v.den ν = some V) : V.oneCell' = true ∧ V.cells = #[V] := by
  cases v <;> simp [SV.c1] at h <;> simp [SV.den] at hd
  case raw W =>
    cases W <;> simp_all
    subst hd; exact ⟨rfl, rfl⟩
  all_goals first
    | (subst hd; exact ⟨rfl, rfl⟩)
    | (obtain ⟨b, _, rfl⟩ := hd; exact ⟨rfl, rfl⟩)

def Ext (ν ν' : Nu) : Prop := ∀ (t b : Nat), ν[t]? = some b → ν'[t]? = some b

theorem Ext.refl (ν : Nu) : Ext ν ν := fun _ _ h => h
theorem Ext.trans {a b c : Nu} (h : Ext a b) (k : Ext b c) : Ext a c := fun t x hx => k t x (h t x hx)
theorem Ext.app (ν μ : Nu) : Ext ν (ν ++ μ) := fun t x h => by
  rw [List.getElem?_append_left (List.getElem?_eq_some_iff.1 h).1]; exact h

/-- `σ` sends the tags of `ν` to tags of `ν'` that stand for the same blocks. -/
def Maps (σ : List Nat) (ν ν' : Nu) : Prop := ∀ (t b : Nat), ν[t]? = some b → ν'[σ.getD t 0]? = some b

mutual
theorem den_ren {σ : List Nat} {ν ν' : Nu} (h : Maps σ ν ν') : ∀ (v : SV) (V : Value), v.den ν = some V → (v.ren σ).den ν' = some V
  | .int _ _, V, e => by simpa [SV.ren, SV.den] using e
  | .bool _, V, e => by simpa [SV.ren, SV.den] using e
  | .str _, V, e => by simpa [SV.ren, SV.den] using e
  | .ptr t off, V, e => by
    simp only [SV.ren, SV.den, Option.map_eq_some_iff] at e ⊢
    obtain ⟨b, hb, rfl⟩ := e; exact ⟨b, h _ _ hb, rfl⟩
  | .nilp, V, e => by simpa [SV.ren, SV.den] using e
  | .sl t off len cap, V, e => by
    simp only [SV.ren, SV.den, Option.map_eq_some_iff] at e ⊢
    obtain ⟨b, hb, rfl⟩ := e; exact ⟨b, h _ _ hb, rfl⟩
  | .nils, V, e => by simpa [SV.ren, SV.den] using e
  | .fn f caps, V, e => by
    simp only [SV.ren, SV.den, Option.map_eq_some_iff] at e ⊢
    obtain ⟨cs, hb, rfl⟩ := e; exact ⟨cs, dens_ren h _ _ hb, rfl⟩
  | .yld t, V, e => by
    simp only [SV.ren, SV.den, Option.map_eq_some_iff] at e ⊢
    obtain ⟨b, hb, rfl⟩ := e; exact ⟨b, h _ _ hb, rfl⟩
  | .nilf, V, e => by simpa [SV.ren, SV.den] using e
  | .mp t, V, e => by
    simp only [SV.ren, SV.den, Option.map_eq_some_iff] at e ⊢
    obtain ⟨b, hb, rfl⟩ := e; exact ⟨b, h _ _ hb, rfl⟩
  | .nilm, V, e => by simpa [SV.ren, SV.den] using e
  | .agg cs, V, e => by
    simp only [SV.ren, SV.den, Option.map_eq_some_iff] at e ⊢
    obtain ⟨cs', hb, rfl⟩ := e; exact ⟨cs', dens_ren h _ _ hb, rfl⟩
  | .tup cs, V, e => by
    simp only [SV.ren, SV.den, Option.map_eq_some_iff] at e ⊢
    obtain ⟨cs', hb, rfl⟩ := e; exact ⟨cs', dens_ren h _ _ hb, rfl⟩
  | .run _ _ _, V, e => by simp [SV.den] at e
  | .raw _, V, e => by simpa [SV.ren, SV.den] using e
theorem dens_ren {σ : List Nat} {ν ν' : Nu} (h : Maps σ ν ν') : ∀ (l : List SV) (L : List Value), dens ν l = some L → dens ν' (rens σ l) = some L
  | [], L, e => by simpa [rens, dens] using e
  | v :: r, L, e => by
    cases hv : v.one with
    | false =>
      cases v with
      | run k n l =>
        rw [dens_run] at e
        simp only [rens, SV.ren]
        rw [dens_run]
        split at e
        · rename_i hl
          rw [if_pos hl]
          simp only [Option.map_eq_some_iff] at e ⊢
          obtain ⟨a, ha, rfl⟩ := e
          exact ⟨a, dens_ren h _ _ ha, rfl⟩
        · cases e
      | _ => simp [SV.one] at hv
    | true =>
      have hr : (v.ren σ).one = true := by cases v <;> simp_all [SV.ren, SV.one]
      simp only [rens]
      rw [dens_one _ _ _ hv] at e
      rw [dens_one _ _ _ hr]
      simp only [Option.bind_eq_some_iff, Option.map_eq_some_iff] at e ⊢
      obtain ⟨V, hV, a, ha, rfl⟩ := e
      exact ⟨V, den_ren h _ _ hV, a, dens_ren h _ _ ha, rfl⟩
end

mutual
theorem den_ext {ν ν' : Nu} (h : Ext ν ν') : ∀ (v : SV) (V : Value), v.den ν = some V → v.den ν' = some V
  | .int _ _, V, e => by simpa [SV.den] using e
  | .bool _, V, e => by simpa [SV.den] using e
  | .str _, V, e => by simpa [SV.den] using e
  | .ptr t off, V, e => by
    simp only [SV.den, Option.map_eq_some_iff] at e ⊢
    obtain ⟨b, hb, rfl⟩ := e; exact ⟨b, h _ _ hb, rfl⟩
  | .nilp, V, e => by simpa [SV.den] using e
  | .sl t off len cap, V, e => by
    simp only [SV.den, Option.map_eq_some_iff] at e ⊢
    obtain ⟨b, hb, rfl⟩ := e; exact ⟨b, h _ _ hb, rfl⟩
  | .nils, V, e => by simpa [SV.den] using e
  | .fn f caps, V, e => by
    simp only [SV.den, Option.map_eq_some_iff] at e ⊢
    obtain ⟨cs, hb, rfl⟩ := e; exact ⟨cs, dens_ext h _ _ hb, rfl⟩
  | .yld t, V, e => by
    simp only [SV.den, Option.map_eq_some_iff] at e ⊢
    obtain ⟨b, hb, rfl⟩ := e; exact ⟨b, h _ _ hb, rfl⟩
  | .nilf, V, e => by simpa [SV.den] using e
  | .mp t, V, e => by
    simp only [SV.den, Option.map_eq_some_iff] at e ⊢
    obtain ⟨b, hb, rfl⟩ := e; exact ⟨b, h _ _ hb, rfl⟩
  | .nilm, V, e => by simpa [SV.den] using e
  | .agg cs, V, e => by
    simp only [SV.den, Option.map_eq_some_iff] at e ⊢
    obtain ⟨cs', hb, rfl⟩ := e; exact ⟨cs', dens_ext h _ _ hb, rfl⟩
  | .tup cs, V, e => by
    simp only [SV.den, Option.map_eq_some_iff] at e ⊢
    obtain ⟨cs', hb, rfl⟩ := e; exact ⟨cs', dens_ext h _ _ hb, rfl⟩
  | .run _ _ _, V, e => by simp [SV.den] at e
  | .raw _, V, e => by simpa [SV.den] using e
theorem dens_ext {ν ν' : Nu} (h : Ext ν ν') : ∀ (l : List SV) (L : List Value), dens ν l = some L → dens ν' l = some L
  | [], L, e => by simpa [dens] using e
  | v :: r, L, e => by
    cases hv : v.one with
    | false =>
      cases v with
      | run k n l =>
        rw [dens_run] at e ⊢
        split at e
        · rename_i hl
          rw [if_pos hl]
          simp only [Option.map_eq_some_iff] at e ⊢
          obtain ⟨a, ha, rfl⟩ := e
          exact ⟨a, dens_ext h _ _ ha, rfl⟩
        · cases e
      | _ => simp [SV.one] at hv
    | true =>
      rw [dens_one _ _ _ hv] at e ⊢
      simp only [Option.bind_eq_some_iff, Option.map_eq_some_iff] at e ⊢
      obtain ⟨V, hV, a, ha, rfl⟩ := e
      exact ⟨V, den_ext h _ _ hV, a, dens_ext h _ _ ha, rfl⟩
end

/-! ### Cells -/
def rdC : List SV → Nat → Option SV
  | [], _ => none
  | c :: r, o => match c with
    | .run k n l => if o < n then some (.int k (l.getD o 0)) else rdC r (o - n)
    | c => match o with
      | 0 => some c
      | o + 1 => rdC r o

def wrC : List SV → Nat → SV → Option (List SV)
  | [], _, _ => none
  | c :: r, o, v => match c with
    | .run k n l => if o < n then (match v with
        | .int k' x => if k = k' then some (.run k n (l.set o x) :: r) else none
        | _ => none) else (wrC r (o - n) v).map (.run k n l :: ·)
    | c => match o with
      | 0 => if v.c1 then some (v :: r) else none
      | o + 1 => (wrC r o v).map (c :: ·)

def dropC : List SV → Nat → Option (List SV)
  | [], o => if o = 0 then some [] else none
  | c :: r, o => if o = 0 then some (c :: r) else match c with
    | .run k n l => if n ≤ o then dropC r (o - n) else some (.run k (n - o) (l.drop o) :: r)
    | _ => dropC r (o - 1)

def takeC : List SV → Nat → Option (List SV)
  | [], o => if o = 0 then some [] else none
  | c :: r, o => if o = 0 then some [] else match c with
    | .run k n l => if n ≤ o then (takeC r (o - n)).map (.run k n l :: ·) else some [.run k o (l.take o)]
    | c => (takeC r (o - 1)).map (c :: ·)

def subC (cs : List SV) (o n : Nat) : Option (List SV) := (dropC cs o).bind (takeC · n)

/-- `new` (`n` cells) in the place of the cells from `o` on. -/
def splC : List SV → Nat → Nat → List SV → Option (List SV)
  | cs, o, n, new => if o = 0 then (match cs, new with
      | .run k m l :: r, [.run k' n' l'] => if n < m ∧ k = k' ∧ n = n' then some (.run k m (l' ++ l.drop n) :: r) else (dropC cs n).map (new ++ ·)
      | _, _ => (dropC cs n).map (new ++ ·))
    else match cs with
      | [] => none
      | c :: r => match c with
        | .run k m l => if m ≤ o then (splC r (o - m) n new).map (.run k m l :: ·) else
            match new with
            | [.run k' n' l'] => if o + n ≤ m ∧ k = k' ∧ n = n' then some (.run k m (l.take o ++ l' ++ l.drop (o + n)) :: r) else none
            | _ => none
        | c => (splC r (o - 1) n new).map (c :: ·)

theorem dens_cons_run {ν : Nu} {k : IntKind} {n : Nat} {l : List Int} {r : List SV} {Cs : List Value} (h : dens ν (.run k n l :: r) = some Cs) :
    l.length = n ∧ ∃ R, dens ν r = some R ∧ Cs = l.map (Value.int k) ++ R := by
  rw [dens_run] at h
  split at h
  · rename_i hl
    simp only [Option.map_eq_some_iff] at h
    obtain ⟨R, hR, rfl⟩ := h
    exact ⟨hl, R, hR, rfl⟩
  · cases h
theorem dens_cons_one {ν : Nu} {v : SV} {r : List SV} {Cs : List Value} (hv : v.one = true) (h : dens ν (v :: r) = some Cs) :
    ∃ V R, v.den ν = some V ∧ dens ν r = some R ∧ Cs = V :: R := by
  rw [dens_one _ _ _ hv] at h
  simp only [Option.bind_eq_some_iff, Option.map_eq_some_iff] at h
  obtain ⟨V, hV, R, hR, rfl⟩ := h
  exact ⟨V, R, hV, hR, rfl⟩
theorem dens_run_mk {ν : Nu} {k : IntKind} {n : Nat} {l : List Int} {r : List SV} {R : List Value} (hl : l.length = n) (h : dens ν r = some R) :
    dens ν (.run k n l :: r) = some (l.map (Value.int k) ++ R) := by rw [dens_run, if_pos hl, h]; rfl
theorem dens_one_mk {ν : Nu} {v : SV} {r : List SV} {V : Value} {R : List Value} (hv : v.one = true) (h1 : v.den ν = some V) (h : dens ν r = some R) :
    dens ν (v :: r) = some (V :: R) := by rw [dens_one _ _ _ hv, h1, h]; rfl

theorem rdC_ok {ν : Nu} : ∀ (cs : List SV) (o : Nat) (v : SV) (Cs : List Value), rdC cs o = some v → dens ν cs = some Cs →
    v.one = true ∧ ∃ V, v.den ν = some V ∧ Cs[o]? = some V
  | [], o, v, Cs, h, _ => by simp [rdC] at h
  | c :: r, o, v, Cs, h, hd => by
    cases hc : c.one with
    | false =>
      cases c with
      | run k n l =>
        obtain ⟨hl, R, hR, rfl⟩ := dens_cons_run hd
        simp only [rdC] at h
        split at h
        · rename_i ho
          cases h
          have ho' : o < l.length := by omega
          refine ⟨rfl, _, rfl, ?_⟩
          rw [List.getElem?_append_left (by simpa using ho'), List.getElem?_map]
          simp [ho']
        · rename_i ho
          obtain ⟨h1, V, hV, hg⟩ := rdC_ok r _ v R h hR
          refine ⟨h1, V, hV, ?_⟩
          rw [List.getElem?_append_right (by simp; omega)]
          simpa [hl] using hg
      | _ => simp [SV.one] at hc
    | true =>
      obtain ⟨V, R, hV, hR, rfl⟩ := dens_cons_one hc hd
      cases o with
      | zero =>
        have : c = v := by cases c <;> simp_all [rdC, SV.one]
        subst this
        exact ⟨hc, V, hV, rfl⟩
      | succ o =>
        have h' : rdC r o = some v := by cases c <;> simp_all [rdC, SV.one]
        obtain ⟨h1, V', hV', hg⟩ := rdC_ok r _ v R h' hR
        exact ⟨h1, V', hV', by simpa using hg⟩

theorem wrC_ok {ν : Nu} : ∀ (cs : List SV) (o : Nat) (v : SV) (cs' : List SV) (Cs : List Value) (V : Value), wrC cs o v = some cs' → dens ν cs = some Cs → v.den ν = some V →
    o < Cs.length ∧ dens ν cs' = some (Cs.set o V)
  | [], o, v, cs', Cs, V, h, _, _ => by simp [wrC] at h
  | c :: r, o, v, cs', Cs, V, h, hd, hV => by
    cases hc : c.one with
    | false =>
      cases c with
      | run k n l =>
        obtain ⟨hl, R, hR, rfl⟩ := dens_cons_run hd
        simp only [wrC] at h
        split at h
        · rename_i ho
          split at h
          · split at h
            · rename_i k' x hk
              subst hk
              cases h
              simp only [SV.den, Option.some.injEq] at hV
              subst hV
              refine ⟨by simp; omega, ?_⟩
              rw [dens_run_mk (by simpa using hl) hR, List.map_set, List.set_append_left _ _ (by simp; omega)]
            · cases h
          · cases h
        · rename_i ho
          simp only [Option.map_eq_some_iff] at h
          obtain ⟨r', hr', rfl⟩ := h
          obtain ⟨hlt, h2⟩ := wrC_ok r _ v r' R V hr' hR hV
          refine ⟨by simp; omega, ?_⟩
          rw [dens_run_mk hl h2, List.set_append_right _ _ (by simp; omega)]
          simp [hl]
      | _ => simp [SV.one] at hc
    | true =>
      obtain ⟨V0, R, hV0, hR, rfl⟩ := dens_cons_one hc hd
      cases o with
      | zero =>
        have h' : (if v.c1 then some (v :: r) else none) = some cs' := by cases c <;> simp_all [wrC, SV.one]
        split at h'
        · rename_i h1
          cases h'
          exact ⟨by simp, by rw [dens_one_mk (SV.c1_one h1) hV hR]; rfl⟩
        · cases h'
      | succ o =>
        have h' : (wrC r o v).map (c :: ·) = some cs' := by cases c <;> simp_all [wrC, SV.one]
        simp only [Option.map_eq_some_iff] at h'
        obtain ⟨r', hr', rfl⟩ := h'
        obtain ⟨hlt, h2⟩ := wrC_ok r _ v r' R V hr' hR hV
        exact ⟨by simp; omega, by rw [dens_one_mk hc hV0 h2]; rfl⟩

theorem dropC_ok {ν : Nu} : ∀ (cs : List SV) (o : Nat) (cs' : List SV) (Cs : List Value), dropC cs o = some cs' → dens ν cs = some Cs →
    o ≤ Cs.length ∧ dens ν cs' = some (Cs.drop o)
  | [], o, cs', Cs, h, hd => by
    simp only [dropC] at h
    split at h
    · rename_i h0; subst h0; cases h; exact ⟨Nat.zero_le _, by simpa using hd⟩
    · cases h
  | c :: r, o, cs', Cs, h, hd => by
    by_cases h0 : o = 0
    · subst h0
      have : some (c :: r) = some cs' := by simpa [dropC] using h
      cases this
      exact ⟨Nat.zero_le _, by simpa using hd⟩
    cases hc : c.one with
    | false =>
      cases c with
      | run k n l =>
        obtain ⟨hl, R, hR, rfl⟩ := dens_cons_run hd
        simp only [dropC, if_neg h0] at h
        split at h
        · rename_i ho
          obtain ⟨h1, h2⟩ := dropC_ok r _ cs' R h hR
          refine ⟨by simp; omega, ?_⟩
          rw [h2, List.drop_append, List.drop_of_length_le (l := l.map (Value.int k)) (by simp; omega)]
          simp [hl]
        · rename_i ho
          cases h
          refine ⟨by simp; omega, ?_⟩
          rw [dens_run_mk (by simp; omega) hR, List.drop_append, List.map_drop]
          simp [show o - l.length = 0 by omega]
      | _ => simp [SV.one] at hc
    | true =>
      obtain ⟨V0, R, hV0, hR, rfl⟩ := dens_cons_one hc hd
      have h' : dropC r (o - 1) = some cs' := by cases c <;> simp_all [dropC, SV.one]
      obtain ⟨h1, h2⟩ := dropC_ok r _ cs' R h' hR
      obtain ⟨o, rfl⟩ : ∃ m, o = m + 1 := ⟨o - 1, by omega⟩
      exact ⟨by simp; omega, by rw [h2]; rfl⟩

theorem takeC_ok {ν : Nu} : ∀ (cs : List SV) (o : Nat) (cs' : List SV) (Cs : List Value), takeC cs o = some cs' → dens ν cs = some Cs →
    o ≤ Cs.length ∧ dens ν cs' = some (Cs.take o)
  | [], o, cs', Cs, h, hd => by
    simp only [takeC] at h
    split at h
    · rename_i h0; subst h0; cases h; exact ⟨Nat.zero_le _, by simp [dens]⟩
    · cases h
  | c :: r, o, cs', Cs, h, hd => by
    by_cases h0 : o = 0
    · subst h0
      have : some [] = some cs' := by simpa [takeC] using h
      cases this
      exact ⟨Nat.zero_le _, by simp [dens]⟩
    cases hc : c.one with
    | false =>
      cases c with
      | run k n l =>
        obtain ⟨hl, R, hR, rfl⟩ := dens_cons_run hd
        simp only [takeC, if_neg h0] at h
        split at h
        · rename_i ho
          simp only [Option.map_eq_some_iff] at h
          obtain ⟨r', hr', rfl⟩ := h
          obtain ⟨h1, h2⟩ := takeC_ok r _ r' R hr' hR
          refine ⟨by simp; omega, ?_⟩
          rw [dens_run_mk hl h2, List.take_append, List.take_of_length_le (l := l.map (Value.int k)) (by simp; omega)]
          simp [hl]
        · rename_i ho
          cases h
          refine ⟨by simp; omega, ?_⟩
          rw [dens_run_mk (by simp; omega) (dens_nil ν), List.take_append, List.map_take]
          simp [show o - l.length = 0 by omega]
      | _ => simp [SV.one] at hc
    | true =>
      obtain ⟨V0, R, hV0, hR, rfl⟩ := dens_cons_one hc hd
      have h' : (takeC r (o - 1)).map (c :: ·) = some cs' := by cases c <;> simp_all [takeC, SV.one]
      simp only [Option.map_eq_some_iff] at h'
      obtain ⟨r', hr', rfl⟩ := h'
      obtain ⟨h1, h2⟩ := takeC_ok r _ r' R hr' hR
      obtain ⟨o, rfl⟩ : ∃ m, o = m + 1 := ⟨o - 1, by omega⟩
      exact ⟨by simp at *; omega, by rw [dens_one_mk hc hV0 h2]; rfl⟩

theorem subC_ok {ν : Nu} (cs : List SV) (o n : Nat) (cs' : List SV) (Cs : List Value) (h : subC cs o n = some cs') (hd : dens ν cs = some Cs) :
    o + n ≤ Cs.length ∧ dens ν cs' = some ((Cs.drop o).take n) := by
  simp only [subC, Option.bind_eq_some_iff] at h
  obtain ⟨d, h1, h2⟩ := h
  obtain ⟨h3, h4⟩ := dropC_ok cs o d Cs h1 hd
  obtain ⟨h5, h6⟩ := takeC_ok d n cs' _ h2 h4
  exact ⟨by simp at h5; omega, h6⟩

theorem dens_append {ν : Nu} : ∀ (a b : List SV) (A B : List Value), dens ν a = some A → dens ν b = some B → dens ν (a ++ b) = some (A ++ B)
  | [], b, A, B, ha, hb => by simp [dens] at ha; subst ha; simpa using hb
  | v :: r, b, A, B, ha, hb => by
    cases hv : v.one with
    | false =>
      cases v with
      | run k n l =>
        obtain ⟨hl, R, hR, rfl⟩ := dens_cons_run ha
        rw [List.cons_append, dens_run_mk hl (dens_append r b R B hR hb), List.append_assoc]
      | _ => simp [SV.one] at hv
    | true =>
      obtain ⟨V, R, hV, hR, rfl⟩ := dens_cons_one hv ha
      rw [List.cons_append, dens_one_mk hv hV (dens_append r b R B hR hb)]
      rfl

theorem splC_ok {ν : Nu} : ∀ (cs : List SV) (o n : Nat) (new : List SV) (cs' : List SV) (Cs New : List Value), splC cs o n new = some cs' → dens ν cs = some Cs → dens ν new = some New → New.length = n →
    o + n ≤ Cs.length ∧ dens ν cs' = some (Cs.take o ++ New ++ Cs.drop (o + n)) := by
  intro cs
  induction cs with
  | nil =>
    intro o n new cs' Cs New h hd hn hln
    unfold splC at h
    split at h
    · rename_i h0
      subst h0
      simp only [Option.map_eq_some_iff] at h
      obtain ⟨d, h1, rfl⟩ := h
      obtain ⟨h2, h3⟩ := dropC_ok _ _ _ _ h1 hd
      exact ⟨by omega, by rw [dens_append _ _ _ _ hn h3]; simp⟩
    · cases h
  | cons c r ih =>
    intro o n new cs' Cs New h hd hn hln
    have gen : o = 0 → (dropC (c :: r) n).map (new ++ ·) = some cs' → o + n ≤ Cs.length ∧ dens ν cs' = some (Cs.take o ++ New ++ Cs.drop (o + n)) := by
      clear h
      intro h0 h9
      subst h0
      simp only [Option.map_eq_some_iff] at h9
      obtain ⟨d, h1, rfl⟩ := h9
      obtain ⟨h2, h3⟩ := dropC_ok _ _ _ _ h1 hd
      exact ⟨by omega, by rw [dens_append _ _ _ _ hn h3]; simp⟩
    unfold splC at h
    split at h
    · rename_i h0
      split at h
      · split at h
        · rename_i k m l r' k' n' l' heq hcond
          simp only [List.cons.injEq] at heq
          obtain ⟨rfl, rfl⟩ := heq
          obtain ⟨h1, rfl, rfl⟩ := hcond
          cases h
          subst h0
          obtain ⟨hl, R, hR, rfl⟩ := dens_cons_run hd
          obtain ⟨hl', R', hR', rfl⟩ := dens_cons_run hn
          simp only [dens_nil, Option.some.injEq] at hR'
          subst hR'
          refine ⟨by simp; omega, ?_⟩
          rw [dens_run_mk (by simp; omega) hR]
          simp [List.drop_append, show n - l.length = 0 by omega]
        · exact gen h0 h
      · exact gen h0 h
    · rename_i h0
      cases hc : c.one with
      | false =>
        cases c with
        | run k m l =>
          obtain ⟨hl, R, hR, rfl⟩ := dens_cons_run hd
          simp only at h
          split at h
          · rename_i hm
            simp only [Option.map_eq_some_iff] at h
            obtain ⟨r', hr', rfl⟩ := h
            obtain ⟨h1, h2⟩ := ih _ _ _ _ _ _ hr' hR hn hln
            refine ⟨by simp; omega, ?_⟩
            rw [dens_run_mk hl h2]
            simp only [List.take_append, List.drop_append, List.length_map, hl]
            rw [List.take_of_length_le (l := l.map _) (by simp; omega), List.drop_of_length_le (l := l.map _) (by simp; omega)]
            simp [show o + n - m = o - m + n by omega]
          · rename_i hm
            split at h
            · split at h
              · rename_i k' n' l' hcond
                obtain ⟨h1, rfl, rfl⟩ := hcond
                cases h
                obtain ⟨hl', R', hR', rfl⟩ := dens_cons_run hn
                simp only [dens_nil, Option.some.injEq] at hR'
                subst hR'
                refine ⟨by simp; omega, ?_⟩
                rw [dens_run_mk (by simp; omega) hR]
                simp [List.drop_append, List.take_append, show o + n - l.length = 0 by omega, show o - l.length = 0 by omega]
              · cases h
            · cases h
        | _ => simp [SV.one] at hc
      | true =>
        obtain ⟨V0, R, hV0, hR, rfl⟩ := dens_cons_one hc hd
        have h' : (splC r (o - 1) n new).map (c :: ·) = some cs' := by cases c <;> simp_all [SV.one]
        simp only [Option.map_eq_some_iff] at h'
        obtain ⟨r', hr', rfl⟩ := h'
        obtain ⟨h1, h2⟩ := ih _ _ _ _ _ _ hr' hR hn hln
        obtain ⟨o, rfl⟩ : ∃ m, o = m + 1 := ⟨o - 1, by omega⟩
        refine ⟨by simp at *; omega, ?_⟩
        rw [dens_one_mk hc hV0 h2]
        simp [show o + 1 + n = o + n + 1 by omega]

end Go.Pv
