/- A state by tags, what an operation of the short form does with it, and that the program's operation does the same. -/
import Derived.Test.YtifoaokodgbhjaaGreatVb
namespace Go.Pv
open Go

abbrev Env := List (Nat × SV)
def lk : Env → Nat → Option SV
  | [], _ => none
  | (a, v) :: e, s => if a = s then some v else lk e s

def ev (env : Env) : Ex → Option SV
  | .t n => lk env n
  | .c v => some v
def evs (env : Env) : List Ex → Option (List SV)
  | [] => some []
  | x :: r => match ev env x, evs env r with
    | some v, some vs => some (v :: vs)
    | _, _ => none
def evo (env : Env) : Option Ex → Option (Option SV)
  | none => some none
  | some x => match ev env x with
    | some v => some (some v)
    | none => none

structure EnvOk (ν : Nu) (N : Nat) (env : Env) (tmps : Array Value) : Prop where
  size : tmps.size = N
  at_ : ∀ (s : Nat) (v : SV), lk env s = some v → ∃ V, v.den ν = some V ∧ tmps[s]? = some V

inductive Jmp where
  | ret
  | exit (id : Nat)
def Jmp.code : Jmp → Code
  | .ret => .ret
  | .exit id => .exit id

inductive SO where
  | cells (cs : List SV) (ty : Nat) (a b : Nat)
  | loop (st : LoopState) (pend : Option Jmp) (fn : Nat) (env : Env) (N : Nat) (ps : List Nat) (x y : IC) (D : Nat)
  | defd (on : Bool)
  | map (es : List (IntKind × Int × SV × Nat)) (clock : Nat)

def entOk (ν : Nu) : List (IntKind × Int × SV × Nat) → List MapEntry → Prop
  | [], [] => True
  | (k, n, v, b) :: r, e :: es => e.key = .int k n ∧ e.born = b ∧ v.one = true ∧ v.den ν = some e.val ∧ entOk ν r es
  | _, _ => False

def SO.Den (P : Program) (ν : Nu) : SO → Obj → Prop
  | .cells cs ty a b, O => ∃ C, dens ν cs = some C ∧ O = .cells C.toArray ty (a, b)
  | .loop st pend fn env N ps x y D, O => ∃ tmps asC bdC Db, ν[D]? = some Db ∧ EnvOk ν N env tmps ∧ comp P asC = some x ∧ comp P bdC = some y ∧
      O = .loop { state := st, pending := pend.map Jmp.code, fn := fn, tmps := tmps, params := ps.toArray, assign := asC, body := bdC, defers := Db }
  | .defd on, O => O = .deferred (if on then some [] else none)
  | .map es c, O => ∃ E, entOk ν es E ∧ O = .map E.toArray c

theorem EnvOk.ext {ν ν' : Nu} (h : Ext ν ν') {N : Nat} {env : Env} {tmps : Array Value} (e : EnvOk ν N env tmps) : EnvOk ν' N env tmps :=
  ⟨e.size, fun s v hs => let ⟨V, h1, h2⟩ := e.at_ s v hs; ⟨V, den_ext h _ _ h1, h2⟩⟩

theorem entOk_ext {ν ν' : Nu} (h : Ext ν ν') : ∀ (l : List (IntKind × Int × SV × Nat)) (E : List MapEntry), entOk ν l E → entOk ν' l E
  | [], [], _ => trivial
  | [], _ :: _, e => e.elim
  | _ :: _, [], e => e.elim
  | (_, _, _, _) :: r, _ :: es, ⟨h1, h2, h3, h4, h5⟩ => ⟨h1, h2, h3, den_ext h _ _ h4, entOk_ext h r es h5⟩

theorem SO.Den.ext {P : Program} {ν ν' : Nu} (h : Ext ν ν') {o : SO} {O : Obj} (e : o.Den P ν O) : o.Den P ν' O := by
  cases o with
  | cells cs ty a b => obtain ⟨C, h1, h2⟩ := e; exact ⟨C, dens_ext h _ _ h1, h2⟩
  | loop st pend fn env N ps x y D =>
    obtain ⟨tmps, asC, bdC, Db, h1, h2, h3⟩ := e
    exact ⟨tmps, asC, bdC, Db, h _ _ h1, h2.ext h, h3⟩
  | defd on => exact e
  | map es c => obtain ⟨E, h1, h2⟩ := e; exact ⟨E, entOk_ext h _ _ h1, h2⟩

/-- The world as the tags have it: `hs` lies at `ν`; of what was there in `w0` (`ν0`: the tags that were) nothing else has turned. -/
structure Rel (P : Program) (w0 : World) (ν0 ν : Nu) (hs : List SO) (w : World) : Prop where
  os : w.os = w0.os
  tape : w.tape = w0.tape
  output : w.output = w0.output
  size : w0.heap.size ≤ w.heap.size
  frame : ∀ b, b < w0.heap.size → b ∉ ν0 → w.heap[b]? = w0.heap[b]?
  nodup : ∀ (i j b : Nat), ν[i]? = some b → ν[j]? = some b → i = j
  new : ∀ (t b : Nat), ν[t]? = some b → b ∈ ν0 ∨ w0.heap.size ≤ b
  len : ν.length = hs.length
  objs : ∀ (t b : Nat) (o : SO), ν[t]? = some b → hs[t]? = some o → ∃ O, o.Den P ν O ∧ w.heap[b]? = some O

section rel
variable {P : Program} {w0 w : World} {ν0 ν : Nu} {hs : List SO}

theorem Rel.at_ (h : Rel P w0 ν0 ν hs w) {t : Nat} {o : SO} (ho : hs[t]? = some o) : ∃ b O, ν[t]? = some b ∧ o.Den P ν O ∧ w.heap[b]? = some O := by
  have hlt : t < ν.length := by rw [h.len]; exact (List.getElem?_eq_some_iff.1 ho).1
  obtain ⟨O, h1, h2⟩ := h.objs t ν[t] o (List.getElem?_eq_getElem hlt) ho
  exact ⟨ν[t], O, List.getElem?_eq_getElem hlt, h1, h2⟩

theorem Rel.lt (h : Rel P w0 ν0 ν hs w) {t b : Nat} (hb : ν[t]? = some b) : b < w.heap.size := by
  have hlt : t < hs.length := by rw [← h.len]; exact (List.getElem?_eq_some_iff.1 hb).1
  obtain ⟨O, h1, h2⟩ := h.objs t b hs[t] hb (List.getElem?_eq_getElem hlt)
  exact (Array.getElem?_eq_some_iff.1 h2).1

/-- A draw. -/
theorem Rel.drawn (h : Rel P w0 ν0 ν hs w) (n : Nat) : Rel P w0 ν0 ν hs { w with drawn := n } :=
  ⟨h.os, h.tape, h.output, h.size, h.frame, h.nodup, h.new, h.len, h.objs⟩

/-- A new block. -/
theorem Rel.alloc (h : Rel P w0 ν0 ν hs w) {o : SO} {O : Obj} (ho : o.Den P (ν ++ [w.heap.size]) O) :
    Rel P w0 ν0 (ν ++ [w.heap.size]) (hs ++ [o]) { w with heap := w.heap.push O } := by
  have hn : ∀ (t b : Nat), (ν ++ [w.heap.size])[t]? = some b → (ν[t]? = some b ∧ t < ν.length) ∨ (t = ν.length ∧ b = w.heap.size) := by
    intro t b hb
    rcases Nat.lt_trichotomy t ν.length with hlt | heq | hgt
    · rw [List.getElem?_append_left hlt] at hb; exact .inl ⟨hb, hlt⟩
    · subst heq; simp at hb; exact .inr ⟨rfl, hb.symm⟩
    · rw [List.getElem?_eq_none (by simp; omega)] at hb; cases hb
  refine ⟨h.os, h.tape, h.output, ?_, ?_, ?_, ?_, ?_, ?_⟩
  · simp; have := h.size; omega
  · intro b hb hnb
    show (w.heap.push O)[b]? = _
    rw [Array.getElem?_push, if_neg (by have := h.size; omega)]
    exact h.frame b hb hnb
  · intro i j b hi hj
    rcases hn i b hi with ⟨h1, _⟩ | ⟨h1, h1'⟩ <;> rcases hn j b hj with ⟨h2, _⟩ | ⟨h2, h2'⟩
    · exact h.nodup i j b h1 h2
    · have := h.lt h1; omega
    · have := h.lt h2; omega
    · omega
  · intro t b hb
    rcases hn t b hb with ⟨h1, _⟩ | ⟨_, h1⟩
    · exact h.new t b h1
    · right; rw [h1]; exact h.size
  · simp [h.len]
  · intro t b o' hb ho'
    rcases hn t b hb with ⟨h1, hlt⟩ | ⟨h1, h1'⟩
    · rw [List.getElem?_append_left (by rw [← h.len]; exact hlt)] at ho'
      obtain ⟨O', hd, hw⟩ := h.objs t b o' h1 ho'
      refine ⟨O', hd.ext (Ext.app _ _), ?_⟩
      show (w.heap.push O)[b]? = _
      rw [Array.getElem?_push, if_neg (by have := h.lt h1; omega)]
      exact hw
    · subst h1 h1'
      rw [h.len] at ho'
      simp at ho'
      subst ho'
      refine ⟨O, ho, ?_⟩
      show (w.heap.push O)[w.heap.size]? = _
      simp

/-- One block turned. -/
theorem Rel.upd (h : Rel P w0 ν0 ν hs w) {t b : Nat} {o : SO} {O : Obj} (hb : ν[t]? = some b) (ho : o.Den P ν O) {w' : World}
    (h1 : w'.os = w.os) (h2 : w'.tape = w.tape) (h3 : w'.output = w.output) (h4 : w'.heap.size = w.heap.size) (h5 : ∀ i, i ≠ b → w'.heap[i]? = w.heap[i]?) (h6 : w'.heap[b]? = some O) :
    Rel P w0 ν0 ν (hs.set t o) w' := by
  refine ⟨h1.trans h.os, h2.trans h.tape, h3.trans h.output, by rw [h4]; exact h.size, ?_, h.nodup, h.new, by simpa using h.len, ?_⟩
  · intro i hi hni
    rw [h5 i ?_]
    · exact h.frame i hi hni
    · intro e
      subst e
      rcases h.new t i hb with h' | h'
      · exact hni h'
      · omega
  · intro t' b' o' hb' ho'
    by_cases e : t' = t
    · subst e
      rw [hb] at hb'; cases hb'
      have hlt : t' < hs.length := by rw [← h.len]; exact (List.getElem?_eq_some_iff.1 hb).1
      rw [List.getElem?_set_self hlt] at ho'
      cases ho'
      exact ⟨O, ho, h6⟩
    · rw [List.getElem?_set_ne (fun e' => e e'.symm)] at ho'
      obtain ⟨O', hd, hw⟩ := h.objs t' b' o' hb' ho'
      refine ⟨O', hd, ?_⟩
      rw [h5 b' ?_]
      · exact hw
      · intro e'
        subst e'
        exact e (h.nodup t' t b' hb' hb)
end rel

/-! ### What an operation does -/

/-- A value (where `p`), nothing (where `p`), a call, an append (in place where there is room, else in a new block of whatever capacity); no word. -/
inductive Res where
  | v (p : Prop) (x : SV)
  | n (p : Prop) (x : SV) (hs : List SO)
  | u (p : Prop) (hs : List SO)
  | call (f : SV) (as : List SV)
  | ap (p : Prop) (need cap : Nat) (x : SV) (hs : List SO) (f : Nat → SV × List SO)
  | no

def wid : List SV → Nat
  | [] => 0
  | c :: r => (match c with | .run _ n _ => n | _ => 1) + wid r

/-- Bits. -/
def bw (op : BinOp) (k : IntKind) (x y : Int) : Int :=
  k.wrap (match op with
    | .and => (BitVec.ofInt k.bits x &&& BitVec.ofInt k.bits y).toNat
    | .or => (BitVec.ofInt k.bits x ||| BitVec.ofInt k.bits y).toNat
    | .xor => (BitVec.ofInt k.bits x ^^^ BitVec.ofInt k.bits y).toNat
    | _ => (BitVec.ofInt k.bits x &&& ~~~ BitVec.ofInt k.bits y).toNat)

/-- Where a slice that begins at `l` of `cap` lies. -/
def slo (cap l off sz : Nat) : Nat := if cap = l then off else off + l * sz

def ldR (cs : List SV) (off : Nat) : Res :=
  match cs with
  | [.run k n l] => .v (off < n) (.int k (l.getD off 0))
  | cs => match rdC cs off with
    | some v => .v True v
    | none => .no

def ldaR (cs : List SV) (off n : Nat) : Res :=
  match cs with
  | [.run k m l] => if off = 0 ∧ n = m then .v True (.agg [.run k m l]) else .v (off + n ≤ m) (.agg [.run k n ((l.drop off).take n)])
  | cs => match subC cs off n with
    | some d => .v True (.agg d)
    | none => .no

def intBin (op : BinOp) (k : IntKind) (a b : Int) : Res :=
  match op with
  | .add => .v True (.int k (k.wrap (a + b)))
  | .sub => .v True (.int k (k.wrap (a - b)))
  | .mul => .v True (.int k (k.wrap (a * b)))
  | .quo => .v (b ≠ 0) (.int k (k.wrap (a.tdiv b)))
  | .rem => .v (b ≠ 0) (.int k (a.tmod b))
  | .and => .v True (.int k (bw .and k a b))
  | .or => .v True (.int k (bw .or k a b))
  | .xor => .v True (.int k (bw .xor k a b))
  | .andNot => .v True (.int k (bw .andNot k a b))
  | .eql => .v True (.bool (a == b))
  | .neq => .v True (.bool (a != b))
  | .lss => .v True (.bool (decide (a < b)))
  | .leq => .v True (.bool (decide (a ≤ b)))
  | .gtr => .v True (.bool (decide (b < a)))
  | .geq => .v True (.bool (decide (b ≤ a)))
  | _ => .no

def binR (op : BinOp) (x y : SV) : Res :=
  match x, y with
  | .int k a, .int k' b => match op with
    | .shl => .v (0 ≤ b) (.int k (k.wrap (a * 2 ^ min b.toNat k.bits)))
    | .shr => .v (0 ≤ b) (.int k (a.fdiv (2 ^ min b.toNat k.bits)))
    | op => if k = k' then intBin op k a b else .no
  | .str a, .str b => match op with
    | .add => .v (((a.size + b.size : Nat) : Int) ≤ IntKind.i64.max) (.str (a ++ b))
    | .eql => .v True (.bool (a.toList == b.toList))
    | .neq => .v True (.bool (!(a.toList == b.toList)))
    | _ => .no
  | _, _ => .no

def unR (op : UnOp) (x : SV) : Res :=
  match op, x with
  | .neg, .int k n => .v True (.int k (k.wrap (0 - n)))
  | .xor, .int k n => .v True (.int k (bw .xor k (if k.signed then -1 else k.max) n))
  | .not, .bool b => .v True (.bool !b)
  | _, _ => .no

/-- The bounds of a slice expression. -/
def sliR (sz : Nat) (t off : Nat) (len cap : Nat) (lo hi : Option SV) : Res :=
  match lo, hi with
  | none, none => .v (len ≤ cap) (.sl t (slo cap 0 off sz) len cap)
  | some (.int _ l), none => .v (0 ≤ l ∧ l ≤ (len : Int) ∧ len ≤ cap) (.sl t (slo cap l.toNat off sz) (len - l.toNat) (cap - l.toNat))
  | none, some (.int _ h) => .v (0 ≤ h ∧ h ≤ (cap : Int)) (.sl t (slo cap 0 off sz) h.toNat cap)
  | some (.int _ l), some (.int _ h) => .v (0 ≤ l ∧ l ≤ h ∧ h ≤ (cap : Int)) (.sl t (slo cap l.toNat off sz) (h.toNat - l.toNat) (cap - l.toNat))
  | _, _ => .no

/-- A slice of nothing. -/
def nilSl : Res → Res
  | .v p (.sl _ _ 0 0) => .v p .nils
  | .v p (.sl _ _ n m) => .v (p ∧ n = 0 ∧ m = 0) .nils
  | _ => .no

/-- Two rows of cells of a kind, cell by cell. -/
def eqC : List SV → List SV → List SV → Option Bool
  | [], [], [] => some true
  | .run k n _ :: z, .run k1 n1 l :: r, .run k2 n2 l' :: r' => if k1 = k ∧ k2 = k ∧ n1 = n ∧ n2 = n then (eqC z r r').map (l == l' && ·) else none
  | .int k _ :: z, .int k1 a :: r, .int k2 b :: r' => if k1 = k ∧ k2 = k then (eqC z r r').map (a == b && ·) else none
  | .bool _ :: z, .bool a :: r, .bool b :: r' => (eqC z r r').map (a == b && ·)
  | .str _ :: z, .str a :: r, .str b :: r' => (eqC z r r').map (a.toList == b.toList && ·)
  | _, _, _ => none

def nilP (x y : SV) : Option Bool :=
  match x, y with
  | .nilp, .nilp => some true
  | .ptr _ _, .nilp => some false
  | .nilp, .ptr _ _ => some false
  | _, _ => none
def nilS (x y : SV) : Option Bool :=
  match x, y with
  | .nils, .nils => some true
  | .sl _ _ _ _, .nils => some false
  | .nils, .sl _ _ _ _ => some false
  | _, _ => none
def nilM (x y : SV) : Option Bool :=
  match x, y with
  | .nilm, .nilm => some true
  | .mp _, .nilm => some false
  | .nilm, .mp _ => some false
  | _, _ => none
def nilF (x y : SV) : Option Bool :=
  match x, y with
  | .nilf, .nilf => some true
  | .fn _ _, .nilf => some false
  | .nilf, .fn _ _ => some false
  | .yld _, .nilf => some false
  | _, _ => none
def nilR (kd : Nat) (x y : SV) : Option Bool :=
  match kd with
  | 0 => nilP x y
  | 1 => nilS x y
  | 2 => nilM x y
  | _ => nilF x y
def eqnR (kd : Nat) (neg : Bool) (x y : SV) : Res :=
  match nilR kd x y with
  | some b => .v True (.bool (if neg then !b else b))
  | none => .no

def bldR (ρ : Ex → Option SV) : List SV → List (Nat × Nat × Ex) → Option (List SV)
  | cs, [] => some cs
  | cs, (o, n, x) :: r => match ρ x with
    | none => none
    | some (.agg d) => if wid d = n then (match splC cs o n d with | some cs' => bldR ρ cs' r | none => none) else none
    | some v => if n = 1 ∧ v.c1 = true then (match wrC cs o v with | some cs' => bldR ρ cs' r | none => none) else none

/-- What reads alone. -/
def evQ (o : O) (env : Env) (hs : List SO) : Res :=
  match o with
  | .mv x => match ev env x with
    | some v => .v True v
    | none => .no
  | .pick c a b => match ev env c, ev env a, ev env b with
    | some (.bool t), some (.bool x), some (.bool y) => .v True (.bool (bif t then x else y))
    | some (.bool true), some x, _ => .v True x
    | some (.bool false), _, some y => .v True y
    | _, _, _ => .no
  | .ld x => match ev env x with
    | some (.ptr t off) => match hs[t]? with
      | some (.cells cs _ _ _) => ldR cs off
      | _ => .no
    | _ => .no
  | .lda x n => match ev env x with
    | some (.ptr t off) => match hs[t]? with
      | some (.cells cs _ _ _) => ldaR cs off n
      | _ => .no
    | _ => .no
  | .nc x => match ev env x with
    | some (.ptr t off) => .v True (.ptr t off)
    | some (.fn f cs) => .v True (.fn f cs)
    | some (.yld t) => .v True (.yld t)
    | _ => .no
  | .bin op x y => match ev env x, ev env y with
    | some v, some u => binR op v u
    | _, _ => .no
  | .eqb neg x y => match ev env x, ev env y with
    | some (.bool a), some (.bool b) => .v True (.bool (if neg then !(a == b) else a == b))
    | _, _ => .no
  | .eqn kd neg x y => match ev env x, ev env y with
    | some v, some u => eqnR kd neg v u
    | _, _ => .no
  | .un op x => match ev env x with
    | some v => unR op v
    | none => .no
  | .cvi k x => match ev env x with
    | some (.int _ n) => .v True (.int k (k.wrap n))
    | _ => .no
  | .cvs x => match ev env x with
    | some (.str s) => .v True (.str s)
    | _ => .no
  | .s2a n x => match ev env x with
    | some (.sl t off len _) => .v (n ≤ len) (.ptr t off)
    | _ => .no
  | .mkf f caps => match evs env caps with
    | some vs => if vs.all SV.one then .v True (.fn f vs) else .no
    | none => .no
  | .slc sz x lo hi => match ev env x, evo env lo, evo env hi with
    | some (.sl t off len cap), some l, some h => sliR sz t off len cap l h
    | some .nils, some l, some h => nilSl (sliR sz 0 0 0 0 l h)
    | _, _, _ => .no
  | .sla n sz x lo hi => match ev env x, evo env lo, evo env hi with
    | some (.ptr t off), some l, some h => sliR sz t off n n l h
    | _, _, _ => .no
  | .fa off x => match ev env x with
    | some (.ptr t o) => .v True (.ptr t (o + off))
    | _ => .no
  | .iaa n sz x i => match ev env x, ev env i with
    | some (.ptr t o), some (.int _ i) => .v (0 ≤ i ∧ i < (n : Int)) (.ptr t (i.toNat * sz + o))
    | _, _ => .no
  | .ias sz x i => match ev env x, ev env i with
    | some (.sl t o len _), some (.int _ i) => .v (0 ≤ i ∧ i < (len : Int)) (.ptr t (i.toNat * sz + o))
    | _, _ => .no
  | .fld off n x => match ev env x with
    | some (.agg cs) => match n with
      | none => ldR cs off
      | some n => ldaR cs off n
    | _ => .no
  | .idx len sz agg x i => match ev env x, ev env i with
    | some (.agg cs), some (.int _ i) => if agg = true then (match ldaR cs (i.toNat * sz) sz with
        | .v p x => .v ((0 ≤ i ∧ i < (len : Int)) ∧ p) x
        | _ => .no) else (match ldR cs (i.toNat * sz) with
        | .v p x => .v ((0 ≤ i ∧ i < (len : Int)) ∧ p) x
        | _ => .no)
    | _, _ => .no
  | .ids x i => match ev env x, ev env i with
    | some (.str s), some (.int _ i) => .v (0 ≤ i ∧ i < (s.size : Int)) (.int .u8 ((s.data[i.toNat]?.getD 0).toNat : Int))
    | _, _ => .no
  | .ext x i => match ev env x with
    | some (.tup vs) => match vs[i]? with
      | some v => if vs.all SV.one then .v True v else .no
      | none => .no
    | _ => .no
  | .len x => match ev env x with
    | some (.sl _ _ n _) => .v True (.int .i64 n)
    | some .nils => .v True (.int .i64 0)
    | _ => .no
  | .lens x => match ev env x with
    | some (.str s) => .v True (.int .i64 s.size)
    | _ => .no
  | .lena n => .v True (.int .i64 n)
  | .cap x => match ev env x with
    | some (.sl _ _ _ n) => .v True (.int .i64 n)
    | some .nils => .v True (.int .i64 0)
    | _ => .no
  | .mx xs => match evs env xs with
    | some [.int k a, .int k' b] => if k = k' then .v True (.int k (if b > a then b else a)) else .no
    | _ => .no
  | .mn xs => match evs env xs with
    | some [.int k a, .int k' b] => if k = k' then .v True (.int k (if b < a then b else a)) else .no
    | _ => .no
  | .eqa neg z x y => match ev env x, ev env y with
    | some (.agg xs), some (.agg ys) => match eqC z xs ys with
      | some b => .v True (.bool (if neg then !b else b))
      | none => .no
    | _, _ => .no
  | .bld z ps => match bldR (ev env) z ps with
    | some cs => .v True (.agg cs)
    | none => .no
  | .sls x lo hi => match ev env x, evo env lo, evo env hi with
    | some (.str s), some none, some (some (.int _ h)) => .v (0 ≤ h ∧ h ≤ (s.size : Int)) (.str (s.extract 0 h.toNat))
    | some (.str s), some (some (.int _ l)), some none => .v (0 ≤ l ∧ l ≤ (s.size : Int)) (.str (s.extract l.toNat s.size))
    | some (.str s), some (some (.int _ l)), some (some (.int _ h)) => .v (0 ≤ l ∧ l ≤ h ∧ h ≤ (s.size : Int)) (.str (s.extract l.toNat h.toNat))
    | _, _, _ => .no
  | _ => .no

/-- The tag whose cells the operation reads. -/
def tagQ (o : O) (env : Env) : Option Nat :=
  match o with
  | .ld x | .lda x _ => match ev env x with
    | some (.ptr t _) => some t
    | _ => none
  | _ => none

end Go.Pv
