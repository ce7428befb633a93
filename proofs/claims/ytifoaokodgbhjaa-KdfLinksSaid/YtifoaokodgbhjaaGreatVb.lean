/- The code of a function in a short form (`IC`), and the check that a short form is a code's (`comp`). -/
import Derived.Test.YtifoaokodgbhjaaGreatVa
namespace Go.Pv
open Go

inductive Ex where
  | t (n : Nat)
  | c (v : SV)

inductive O where
  | mv (x : Ex)
  | pick (c a b : Ex)
  | al (ty : Nat) (z : List SV)
  | bx (ty : Nat) (x : Ex)
  | bld (z : List SV) (ps : List (Nat × Nat × Ex))
  | bsl (ty len : Nat) (z : List SV) (ps : List (Nat × Nat × Ex))
  | ld (x : Ex)
  | lda (x : Ex) (n : Nat)
  | st (x y : Ex)
  | sta (x y : Ex) (n : Nat)
  | nc (x : Ex)
  | bin (op : BinOp) (x y : Ex)
  | un (op : UnOp) (x : Ex)
  | cvi (k : IntKind) (x : Ex)
  | cvs (x : Ex)
  | s2b (ty : Nat) (x : Ex)
  | b2s (x : Ex)
  | s2a (n : Nat) (x : Ex)
  | mkf (f : Nat) (caps : List Ex)
  | mks (ty sz by_ : Nat) (z : List SV) (l c : Ex)
  | slc (sz : Nat) (x : Ex) (lo hi : Option Ex)
  | sla (n sz : Nat) (x : Ex) (lo hi : Option Ex)
  | fa (off : Nat) (x : Ex)
  | iaa (n sz : Nat) (x i : Ex)
  | ias (sz : Nat) (x i : Ex)
  | fld (off : Nat) (n : Option Nat) (x : Ex)
  | idx (len sz : Nat) (agg : Bool) (x i : Ex)
  | ids (x i : Ex)
  | ext (x : Ex) (i : Nat)
  | call (f : Ex) (as : List Ex)
  | len (x : Ex)
  | lens (x : Ex)
  | lena (n : Nat)
  | cap (x : Ex)
  | app (ty sz by_ : Nat) (z : List SV) (zeros : Bool) (x y : Ex)
  | cpy (sz : Nat) (x y : Ex)
  | mx (xs : List Ex)
  | mn (xs : List Ex)
  | eqa (neg : Bool) (z : List SV) (x y : Ex)
  | eqb (neg : Bool) (x y : Ex)
  | eqn (kd : Nat) (neg : Bool) (x y : Ex)
  | mkm
  | ins (m k v : Ex)
  | lkp (z : SV) (ok : Bool) (m k : Ex)
  | rng (m : Ex)
  | nxt (it : Ex)
  | sls (x : Ex) (lo hi : Option Ex)
  | mark (x : Ex)
  | bad

structure IOp where
  d : Option Nat
  g : Option (Nat × Bool)
  o : O

/-- A region's operations in an order that serves for all: taken ahead (`tk`: it reads, and does nothing else), the only one that may come (`one`). -/
inductive DT where
  | fin
  | tk (i : Nat) (o : IOp) (r : DT)
  | one (i : Nat) (o : IOp) (dr : List Nat) (r : DT)
  | two (i : Nat) (o : IOp) (dr : List Nat) (r : DT) (j : Nat) (p : IOp) (dr' : List Nat) (s : DT)

inductive IC where
  | skip
  | reg (l : List IOp)
  | dreg (l : DT)
  | seq (a b : IC)
  | cond (c : Ex) (a b : IC)
  | block (id : Nat) (a : IC)
  | loop (a : IC)
  | rf (g : Ex) (ps : List Nat) (as bd : IC)
  | exit (id : Nat)
  | scope (a : IC)
  | label (l : Nat)
  | goto (l : Nat)
  | ret

def svK : Value → Option SV
  | .int k n => some (.int k n)
  | .bool b => some (.bool b)
  | .string s => some (.str s)
  | .pointer none => some .nilp
  | .slice none 0 0 => some .nils
  | .nilFunc => some .nilf
  | .map none => some .nilm
  | .nilIface => some (.raw .nilIface)
  | .tuple vs => if vs.size = 0 then some (.tup []) else none
  | _ => none

def exO : Operand → Option Ex
  | .tmp t => some (.t t)
  | .const v => (svK v).map .c
  | .func f => some (.c (.fn f []))
  | .global _ => none

def exs : List Operand → Option (List Ex)
  | [] => some []
  | x :: r => (exO x).bind fun e => (exs r).map (e :: ·)

def exP (places : Nat → Option (Nat × Nat)) : List (Nat × Operand) → Option (List (Nat × Nat × Ex))
  | [] => some []
  | (i, x) :: r => (places i).bind fun (o, n) => (exO x).bind fun e => (exP places r).map ((o, n, e) :: ·)

def exOpt : Option Operand → Option (Option Ex)
  | none => some none
  | some x => (exO x).map some

/-- The zero value's cells, by the type's shape. -/
def zs (P : Program) : Nat → TypeId → Option (List SV)
  | 0, _ => none
  | f + 1, t => match P.underlying t with
    | some .bool => some [.bool false]
    | some (.int k) => some [.int k 0]
    | some .string => some [.str ByteArray.empty]
    | some (.pointer _) => some [.nilp]
    | some (.slice _) => some [.nils]
    | some (.map _ _) => some [.nilm]
    | some (.func _ _ _) => some [.nilf]
    | some (.interface _) => some [.raw .nilIface]
    | some (.array n e) => match P.underlying e with
      | some (.int k) => some [.run k n (List.replicate n 0)]
      | _ => (zs P f e).map fun z => (List.replicate n z).flatten
    | some (.struct fs) => (fs.toList.mapM fun x => zs P f x.type).map List.flatten
    | _ => none

def peel (k : IntKind) : List Int → List Value → Option (List Value)
  | [], Vs => some Vs
  | n :: l, .int k' m :: Vs => if k = k' ∧ n = m then peel k l Vs else none
  | _, _ => none

def eqv : SV → Value → Bool
  | .int k n, .int k' m => k = k' && n = m
  | .bool a, .bool b => a == b
  | .str s, .string t => s = t
  | .nilp, .pointer none => true
  | .nils, .slice none 0 0 => true
  | .nilf, .nilFunc => true
  | .nilm, .map none => true
  | .raw .nilIface, .nilIface => true
  | _, _ => false

def eqc : List SV → List Value → Bool
  | [], [] => true
  | .run k n l :: r, Vs => l.length = n && (match peel k l Vs with | some Vs' => eqc r Vs' | none => false)
  | v :: r, V :: Vs => eqv v V && eqc r Vs
  | _, _ => false

theorem peel_ok {k : IntKind} : ∀ (l : List Int) (Vs Vs' : List Value), peel k l Vs = some Vs' → Vs = l.map (Value.int k) ++ Vs'
  | [], Vs, Vs', h => by simp [peel] at h; simp [h]
  | n :: l, [], Vs', h => by simp [peel] at h
  | n :: l, V :: Vs, Vs', h => by
    cases V <;> simp [peel] at h
    obtain ⟨⟨rfl, rfl⟩, h⟩ := h
    simp [peel_ok l Vs Vs' h]

theorem eqv_ok {ν : Nu} (v : SV) (V : Value) (h : eqv v V = true) : v.one = true ∧ v.den ν = some V := by
  unfold eqv at h
  split at h <;> simp_all [SV.one, SV.den]

theorem eqc_ok {ν : Nu} : ∀ (l : List SV) (Vs : List Value), eqc l Vs = true → dens ν l = some Vs
  | [], Vs, h => by cases Vs <;> simp_all [eqc, dens]
  | v :: r, Vs, h => by
    cases hv : v.one with
    | false =>
      cases v with
      | run k n l =>
        simp only [eqc, Bool.and_eq_true, decide_eq_true_eq] at h
        obtain ⟨hl, h⟩ := h
        split at h
        · rename_i Vs' hp
          rw [dens_run_mk hl (eqc_ok r Vs' h), peel_ok _ _ _ hp]
        · cases h
      | _ => simp [SV.one] at hv
    | true =>
      cases Vs with
      | nil => cases v <;> simp_all [eqc, SV.one]
      | cons V Vs =>
        have h' : (eqv v V && eqc r Vs) = true := by cases v <;> simp_all [eqc, SV.one]
        simp only [Bool.and_eq_true] at h'
        exact dens_one_mk hv (eqv_ok v V h'.1).2 (eqc_ok r Vs h'.2)

/-- The zero cells of type `t`, held against the program's own table. -/
def zeroOf (P : Program) (t : TypeId) : Option (List SV) :=
  (zs P 20 t).bind fun z => match P.info? t with
    | some i => match i.zero with
      | some V => if eqc z V.cells.toList = true ∧ V.cells.size = i.size then some z else none
      | none => none
    | none => none

def zerosC (z : List SV) (n : Nat) : List SV :=
  match z with
  | [.int k x] => [.run k n (List.replicate n x)]
  | _ => (List.replicate n z).flatten

/-- `n` times the zero cells of `t`. -/
def zerosOf (P : Program) (t : TypeId) (n : Nat) : Option (List SV) := (zeroOf P t).map (zerosC · n)

def sizeT (P : Program) (t : TypeId) : Option Nat := (P.info? t).map (·.size)
def bytesT (P : Program) (t : TypeId) : Option Nat := (P.info? t).map (·.bytes)

def aggT (P : Program) (t : TypeId) : Bool := match P.underlying t with
  | some (.struct _) => true
  | some (.array _ _) => true
  | _ => false

/-- What is compared, cell by cell. -/
inductive Leaf where
  | int (k : IntKind)
  | bool
  | str
deriving DecidableEq

def leafsF (P : Program) (g : TypeId → Option (List Leaf)) : List Field → Nat → Option (List Leaf)
  | [], _ => some []
  | x :: r, o => if x.name != "_" && x.offset == o then (g x.type).bind fun l => if P.cellsOf x.type = l.length then (leafsF P g r (o + l.length)).map (l ++ ·) else none else none

/-- The cells of types whose values are compared cell by cell: numbers, bools, strings, arrays and structs of these. -/
def leafs (P : Program) : Nat → TypeId → Option (List Leaf)
  | 0, _ => none
  | f + 1, t => match P.underlying t with
    | some .bool => some [.bool]
    | some (.int k) => some [.int k]
    | some .string => some [.str]
    | some (.array n e) => (leafs P f e).bind fun l => if P.cellsOf e = l.length ∧ (P.info? e).isSome = true then some (List.replicate n l).flatten else none
    | some (.struct fs) => if P.stoodInHeld t then none else leafsF P (leafs P f) fs.toList 0
    | _ => none

def leafsZ : List SV → Option (List Leaf)
  | [] => some []
  | .run k n _ :: r => (leafsZ r).map (List.replicate n (.int k) ++ ·)
  | .int k _ :: r => (leafsZ r).map (.int k :: ·)
  | .bool _ :: r => (leafsZ r).map (.bool :: ·)
  | .str _ :: r => (leafsZ r).map (.str :: ·)
  | _ :: _ => none

/-- The zero cells of a type whose values may be compared. -/
def cmpZ (P : Program) (t : TypeId) : Option (List SV) :=
  if P.eqGuardType P.depth t then none else (zeroOf P t).bind fun z => (leafsZ z).bind fun l => if leafs P 20 t = some l then some z else none

/-- A type's zero value. -/
def zeroVal (P : Program) (t : TypeId) : Option SV :=
  (zeroOf P t).bind fun z => match P.info? t with
    | some i => match i.zero with
      | some (.agg _) => some (.agg z)
      | some V => match z with
        | [v] => if eqv v V then some v else none
        | _ => none
      | none => none
    | none => none

def compOp (P : Program) (o : Op) : Option O :=
  match o with
  | .move x | .assign x => (exO x).map .mv
  | .pick c a b => do pure (.pick (← exO c) (← exO a) (← exO b))
  | .alloc t => (zeroOf P t).map (.al t)
  | .box t x => (exO x).map (.bx t)
  | .build t ps => do
    let z ← zeroOf P t
    match P.underlying t with
    | some (.struct fs) =>
      let ps ← exP (fun i => (fs[i]?).bind fun f => (sizeT P f.type).map fun n => (f.offset, n)) ps.toList
      if fs.all (fun f => (sizeT P f.type).isSome) then pure (.bld z ps) else none
    | some (.array _ e) =>
      let n ← sizeT P e
      let ps ← exP (fun i => some (i * n, n)) ps.toList
      pure (.bld z ps)
    | _ => none
  | .buildSlice t len ps =>
    match P.underlying t with
    | some (.slice e) => do
      let n ← sizeT P e
      let z ← zerosOf P e len
      let ps ← exP (fun i => some (i * n, n)) ps.toList
      if len * n ≤ 2 ^ 24 ∧ (0 < len * n ∨ len = 0) then pure (.bsl e len (if len = 0 then [] else z) ps) else none
    | _ => none
  | .load t x => if aggT P t then do pure (.lda (← exO x) (← sizeT P t)) else (match P.underlying t with | some _ => (exO x).map .ld | none => none)
  | .store t x y => do
    let n ← sizeT P t
    let x ← exO x
    let y ← exO y
    if aggT P t then pure (.sta x y n) else if n = 1 then pure (.st x y) else none
  | .nilCheck x => (exO x).map .nc
  | .binOp op ty x y _ => do
    let x' ← exO x
    let y' ← exO y
    if aggT P ty then
      (match op with | .eql => (cmpZ P ty).map (.eqa false · x' y') | .neq => (cmpZ P ty).map (.eqa true · x' y') | _ => none)
    else match P.underlying ty with
      | some (.int _) | some .string => pure (.bin op x' y')
      | some .bool => (match op with | .eql => pure (.eqb false x' y') | .neq => pure (.eqb true x' y') | _ => none)
      | some (.pointer e) => (if sizeT P e = none ∨ sizeT P e = some 0 then none else match op with | .eql => pure (.eqn 0 false x' y') | .neq => pure (.eqn 0 true x' y') | _ => none)
      | some (.slice _) => (match op with | .eql => pure (.eqn 1 false x' y') | .neq => pure (.eqn 1 true x' y') | _ => none)
      | some (.map _ _) => (match op with | .eql => pure (.eqn 2 false x' y') | .neq => pure (.eqn 2 true x' y') | _ => none)
      | some (.func _ _ _) => (match op with | .eql => pure (.eqn 3 false x' y') | .neq => pure (.eqn 3 true x' y') | _ => none)
      | _ => none
  | .unOp op _ x => (exO x).map (.un op)
  | .convert src dst x => do
    let x ← exO x
    match P.underlying src, P.underlying dst with
    | some (.int _), some (.int k) => pure (.cvi k x)
    | some .string, some .string => pure (.cvs x)
    | some .string, some (.slice e) => (match P.underlying e with | some (.int .u8) => pure (.s2b e x) | _ => none)
    | some (.slice e), some .string => (match P.underlying e with | some (.int .u8) => pure (.b2s x) | _ => none)
    | some (.slice _), some (.slice e) => (match P.underlying e with | some (.int .u8) => if src = dst then pure (.mark x) else none | _ => none)
    | _, _ => none
  | .sliceToArrayPointer t x => (match P.underlying t with | some (.array n _) => (exO x).map (.s2a n) | _ => none)
  | .makeFunc (.func f) first caps => if first.size = 0 then (exs caps.toList).map (.mkf f) else none
  | .makeSlice t l c =>
    match P.underlying t with
    | some (.slice e) => do
      pure (.mks e (← sizeT P e) (← bytesT P e) (← zeroOf P e) (← exO l) (← exO c))
    | _ => none
  | .slice t x lo hi none =>
    match P.underlying t with
    | some (.slice e) => do pure (.slc (← sizeT P e) (← exO x) (← exOpt lo) (← exOpt hi))
    | some (.array n e) => do pure (.sla n (← sizeT P e) (← exO x) (← exOpt lo) (← exOpt hi))
    | some .string => do pure (.sls (← exO x) (← exOpt lo) (← exOpt hi))
    | _ => none
  | .fieldAddr t x f =>
    match P.underlying t with
    | some (.struct fs) => (fs[f]?).bind fun f => (sizeT P f.type).bind fun n => if n = 0 then none else (exO x).map (.fa f.offset)
    | _ => none
  | .indexAddr t x i =>
    match P.underlying t with
    | some (.array n e) => do pure (.iaa n (← sizeT P e) (← exO x) (← exO i))
    | some (.slice e) => do pure (.ias (← sizeT P e) (← exO x) (← exO i))
    | _ => none
  | .field t x f =>
    match P.underlying t with
    | some (.struct fs) => (fs[f]?).bind fun f => (sizeT P f.type).bind fun n =>
        (match P.underlying f.type with | some _ => (exO x).map (.fld f.offset (if aggT P f.type then some n else none)) | none => none)
    | _ => none
  | .index t x i =>
    match P.underlying t with
    | some (.array n e) => do
      let s ← sizeT P e
      (match P.underlying e with | some _ => do pure (.idx n s (aggT P e) (← exO x) (← exO i)) | none => none)
    | some .string => do pure (.ids (← exO x) (← exO i))
    | _ => none
  | .extract x i => (exO x).map (.ext · i)
  | .call { callee := .value f, args, .. } => do pure (.call (← exO f) (← exs args.toList))
  | .call { callee := .builtin .len, args, argTypes } =>
    match args.toList, argTypes.toList with
    | [x], [t] => (match P.underlying t with
      | some (.slice _) => (exO x).map .len
      | some .string => (exO x).map .lens
      | some (.array n _) => some (.lena n)
      | _ => none)
    | _, _ => none
  | .call { callee := .builtin .cap, args, argTypes } =>
    match args.toList, argTypes.toList with
    | [x], [t] => (match P.underlying t with
      | some (.slice _) => (exO x).map .cap
      | _ => none)
    | _, _ => none
  | .call { callee := .builtin .append, args, argTypes } =>
    match args.toList, argTypes.toList with
    | [x, y], [t, u] => (match P.underlying t with
      | some (.slice e) => do
        let z ← zeroOf P e
        let n ← sizeT P e
        let b ← bytesT P e
        let x ← exO x
        let y ← exO y
        if n = 0 ∨ b = 0 then none else
        (match P.underlying u with
        | some (.int _) => pure (.app e n b z true x y)
        | some (.slice _) => pure (.app e n b z false x y)
        | some .string => pure (.app e n b z false x y)
        | _ => none)
      | _ => none)
    | _, _ => none
  | .call { callee := .builtin .copy, args, argTypes } =>
    match args.toList, argTypes.toList with
    | [x, y], t :: _ => (match P.underlying t with
      | some (.slice e) => do pure (.cpy (← sizeT P e) (← exO x) (← exO y))
      | _ => none)
    | _, _ => none
  | .call { callee := .builtin .max, args, .. } => (exs args.toList).map .mx
  | .call { callee := .builtin .min, args, .. } => (exs args.toList).map .mn
  | .makeMap _ none => some .mkm
  | .insert t m k v | .mapUpdate t m k v =>
    match P.underlying t with
    | some (.map kt _) => (match P.underlying kt with | some (.int _) => do pure (.ins (← exO m) (← exO k) (← exO v)) | _ => none)
    | _ => none
  | .lookup t m k ok =>
    match P.underlying t with
    | some (.map kt e) => (match P.underlying kt with | some (.int _) => do pure (.lkp (← zeroVal P e) ok (← exO m) (← exO k)) | _ => none)
    | _ => none
  | _ => none

def slotOf (ops : Array Oper) (g : Option (Nat × Bool)) : Option (Option (Nat × Bool)) :=
  match g with
  | none => some none
  | some (j, want) => ((ops[j]?).bind (·.dst)).map fun d => some (d, want)

def compOper (P : Program) (ops : Array Oper) (o : Oper) : Option IOp := do
  let g ← slotOf ops o.guard
  pure { d := o.dst, g, o := (compOp P o.op).getD .bad }

def compOps (P : Program) (ops : Array Oper) : List Oper → Option (List IOp)
  | [] => some []
  | o :: r => (compOper P ops o).bind fun x => (compOps P ops r).map (x :: ·)

/-- Does it read alone? -/
def O.quiet : O → Bool
  | .mv _ | .pick .. | .ld _ | .lda .. | .nc _ | .bin .. | .un .. | .cvi .. | .cvs .. | .s2a .. | .mkf .. | .slc .. | .sla .. | .fa .. | .iaa .. | .ias .. | .fld .. | .idx .. | .ids .. | .ext .. | .len _ | .lens _ | .lena _ | .cap _ | .mx _ | .mn _ | .eqa .. | .eqb .. | .eqn .. | .bld .. | .sls .. => true
  | _ => false

/-- What an operation waits for, at once. -/
def direct (ops : Array Oper) (j : Nat) : List Nat := match ops[j]? with
  | some o => (o.after.toList.filter (Region.binds .any)).map (·.on)
  | none => []
def growA (ops : Array Oper) : Nat → List Nat → List Nat
  | 0, s => s
  | n + 1, s => let s' := (s ++ s.flatMap (direct ops)).eraseDups
    if s'.length = s.length then s' else growA ops n s'
/-- What an operation waits for. -/
def anc (ops : Array Oper) (j : Nat) : List Nat := growA ops ops.size (direct ops j).eraseDups

/-- An order for a region that draws: what reads alone is taken as soon as it may come; else there must be just one that may. -/
def sched (P : Program) (ops : Array Oper) : Nat → Array Bool → Option DT
  | 0, listed => if Region.ready .any ops listed = [] then some .fin else none
  | fuel + 1, listed =>
    match Region.ready .any ops listed with
    | [] => some .fin
    | [i] => do
      let o ← ops[i]?
      let x ← compOper P ops o
      pure (.one i x (if x.o.quiet then [] else anc ops i) (← sched P ops fuel (listed.setIfInBounds i true)))
    | rs =>
      match rs.find? (fun i => ((ops[i]?).bind fun o => (compOper P ops o).map fun x => x.o.quiet && Region.free .any ops listed i).getD false) with
      | some i => do
        let o ← ops[i]?
        let x ← compOper P ops o
        pure (.tk i x (← sched P ops fuel (listed.setIfInBounds i true)))
      | none => match rs with
        | [i, j] => do
          let o ← ops[i]?
          let p ← ops[j]?
          let x ← compOper P ops o
          let y ← compOper P ops p
          pure (.two i x (if x.o.quiet then [] else anc ops i) (← sched P ops fuel (listed.setIfInBounds i true)) j y (if y.o.quiet then [] else anc ops j) (← sched P ops fuel (listed.setIfInBounds j true)))
        | _ => none

/-- No deferring here. -/
def noDefer (ops : Array Oper) : Bool := ops.all fun o => match o.op with | .defer _ => false | _ => true

def comp (P : Program) : Code → Option IC
  | .skip => some .skip
  | .region _ ops false => (compOps P ops ops.toList).map .reg
  | .region _ ops true => if P.follows .mixedOrders && Region.noSelect ops && noDefer ops then (sched P ops ops.size (Array.replicate ops.size false)).map .dreg else none
  | .seq a b => (comp P a).bind fun x => (comp P b).map (.seq x ·)
  | .cond c a b => (exO c).bind fun e => (comp P a).bind fun x => (comp P b).map (.cond e x ·)
  | .block id a => (comp P a).map (.block id)
  | .loop a => (comp P a).map .loop
  | .rangeFunc g ps a b => (exO g).bind fun e => (comp P a).bind fun x => (comp P b).map (.rf e ps.toList x ·)
  | .exit id => some (.exit id)
  | .scope a => (comp P a).map .scope
  | .label l => some (.label l)
  | .goto l => some (.goto l)
  | .ret => some .ret
  | .refuse _ => none

end Go.Pv
