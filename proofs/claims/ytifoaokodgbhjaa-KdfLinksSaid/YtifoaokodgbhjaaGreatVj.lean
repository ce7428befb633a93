/- The machine by tags: frames, what is left to do, and the goal `Ok`. -/
import Derived.RangeFuncIn
import Derived.RangeFuncLeaves
import Derived.Test.YtifoaokodgbhjaaGreatVi
namespace Go.Pv
open Go

inductive It where
  | c (x : IC)
  | blk (id : Nat)
  | lp (x : IC)
  | sc (x : IC)
  | ops (l : List IOp)
  | irf (t : Nat)
  | erf (t : Nat)
  | br

/-- A result: a temporary; a cell (one); a row of cells. -/
inductive RP where
  | t (n : Nat)
  | c (n : Nat)
  | a (n sz : Nat)

structure FS where
  fn : Nat
  ro : Option Nat
  N : Nat
  rs : List RP
  env : Env
  todo : List It
  defs : List Nat

def restOk (P : Program) (ops : Array Oper) : List Nat → List IOp → Prop
  | [], [] => True
  | i :: r, x :: l => (∃ o, ops[i]? = some o ∧ compOper P ops o = some x) ∧ restOk P ops r l
  | _, _ => False

def itOk (P : Program) (ν : Nu) : It → Item → Prop
  | .c x, .code c => comp P c = some x
  | .blk id, .inBlock id' => id' = id
  | .lp x, .inLoop c => comp P c = some x
  | .sc x, .inScope c => comp P c = some x
  | .ops l, .inRegion ops r => restOk P ops r l
  | .irf t, .inRangeFunc l => ν[t]? = some l
  | .erf t, .endRangeFunc l => ν[t]? = some l
  | .br, .beginRound => True
  | _, _ => False

def todoOk (P : Program) (ν : Nu) : List It → List Item → Prop
  | [], [] => True
  | x :: r, y :: s => itOk P ν x y ∧ todoOk P ν r s
  | _, _ => False

def defsOk (ν : Nu) : List Nat → List Deferred → Prop
  | [], [] => True
  | t :: r, d :: ds => (∃ b, ν[t]? = some b ∧ d.target = .collected b) ∧ defsOk ν r ds
  | _, _ => False

def compRP (P : Program) : ResultVar → Option RP
  | .tmp t => some (.t t)
  | .cell a ty => if aggT P ty then (sizeT P ty).map (.a a) else (P.underlying ty).map fun _ => .c a
def compRs (P : Program) : List ResultVar → Option (List RP)
  | [] => some []
  | x :: r => (compRP P x).bind fun y => (compRs P r).map (y :: ·)

structure FS.Ok (P : Program) (ν : Nu) (s : FS) (fr : Frame) : Prop where
  fn : fr.fn = s.fn
  env : EnvOk ν s.N s.env fr.tmps
  todo : todoOk P ν s.todo fr.todo
  defs : defsOk ν s.defs fr.defers
  mode : fr.mode = .run
  kind : fr.kind = .normal
  ro : match s.ro with
    | none => fr.roundOf = none
    | some t => ∃ l, ν[t]? = some l ∧ fr.roundOf = some l
  rs : s.ro = none → ∃ F, P.funcs[s.fn]? = some F ∧ compRs P F.results.toList = some s.rs

def fsOk (P : Program) (ν : Nu) : List FS → List Frame → Prop
  | [], [] => True
  | s :: r, fr :: frs => s.Ok P ν fr ∧ fsOk P ν r frs
  | _, _ => False

/-- One proof's frame: the program, the world and the tags it began with, the frames below, the function, what is to come out, the goal. -/
structure Ctx where
  P : Program
  w0 : World
  ν0 : Nu
  cs : List Frame
  f : Nat
  Q : SV → List SO → Prop
  G : Machine → Prop
  back : ∀ m m', step P m = .next m' → G m' → G m
  fin : ∀ fr w v ν x hs, fr.fn = f → fr.leaving P w (.returned v) → Ext ν0 ν → Rel P w0 ν0 ν hs w → x.den ν = some v → Q x hs → G (lone fr cs w)

def Ok (C : Ctx) (fs : List FS) (hs : List SO) : Prop :=
  ∀ ν w fr frs, Ext C.ν0 ν → Rel C.P C.w0 C.ν0 ν hs w → fsOk C.P ν fs (fr :: frs) → C.G (lone fr (frs ++ C.cs) w)

section
variable {P : Program} {ν ν' : Nu}

theorem itOk_ext (h : Ext ν ν') {x : It} {y : Item} (k : itOk P ν x y) : itOk P ν' x y := by
  cases x <;> cases y <;> first | exact k | exact h _ _ k
theorem todoOk_ext (h : Ext ν ν') : ∀ {l : List It} {k : List Item}, todoOk P ν l k → todoOk P ν' l k
  | [], [], _ => trivial
  | [], _ :: _, e => e.elim
  | _ :: _, [], e => e.elim
  | _ :: _, _ :: _, ⟨h1, h2⟩ => ⟨itOk_ext h h1, todoOk_ext h h2⟩
theorem defsOk_ext (h : Ext ν ν') : ∀ {l : List Nat} {k : List Deferred}, defsOk ν l k → defsOk ν' l k
  | [], [], _ => trivial
  | [], _ :: _, e => e.elim
  | _ :: _, [], e => e.elim
  | _ :: _, _ :: _, ⟨⟨b, h1, h2⟩, h3⟩ => ⟨⟨b, h _ _ h1, h2⟩, defsOk_ext h h3⟩
theorem FS.Ok.ext (h : Ext ν ν') {s : FS} {fr : Frame} (k : s.Ok P ν fr) : s.Ok P ν' fr :=
  ⟨k.fn, k.env.ext h, todoOk_ext h k.todo, defsOk_ext h k.defs, k.mode, k.kind, by
    have := k.ro
    cases hr : s.ro with
    | none => rw [hr] at this; exact this
    | some t => rw [hr] at this; obtain ⟨l, h1, h2⟩ := this; exact ⟨l, h _ _ h1, h2⟩, k.rs⟩
theorem fsOk_ext (h : Ext ν ν') : ∀ {l : List FS} {k : List Frame}, fsOk P ν l k → fsOk P ν' l k
  | [], [], _ => trivial
  | [], _ :: _, e => e.elim
  | _ :: _, [], e => e.elim
  | _ :: _, _ :: _, ⟨h1, h2⟩ => ⟨h1.ext h, fsOk_ext h h2⟩

theorem todoOk_cons {x : It} {l : List It} {k : List Item} (h : todoOk P ν (x :: l) k) : ∃ y k', k = y :: k' ∧ itOk P ν x y ∧ todoOk P ν l k' := by
  cases k with
  | nil => exact h.elim
  | cons y k' => exact ⟨y, k', rfl, h.1, h.2⟩
theorem todoOk_nil {k : List Item} (h : todoOk P ν [] k) : k = [] := by
  cases k with
  | nil => rfl
  | cons y k' => exact h.elim

theorem FS.Ok.atR {s : FS} {fr : Frame} (k : s.Ok P ν fr) : fr = fr.atR ⟨fr.tmps, fr.defers⟩ fr.todo := by
  have h1 := k.mode
  cases fr
  simp only [Frame.atR] at *
  simp [h1]

/-- The frame with other temporaries and other things to do. -/
theorem FS.Ok.put {s : FS} {fr : Frame} (k : s.Ok P ν fr) (h : Ext ν ν') {a : Act} {todo : List Item} {env : Env} {l : List It} {ds : List Nat} (he : EnvOk ν' s.N env a.tmps) (ht : todoOk P ν' l todo) (hd : defsOk ν' ds a.defers) :
    FS.Ok P ν' { s with env := env, todo := l, defs := ds } (fr.atR a todo) := by
  have k' := k.ext h
  exact ⟨k.fn, he, ht, hd, rfl, k.kind, k'.ro, k.rs⟩

theorem EnvOk.put {N : Nat} {env : Env} {tmps : Array Value} (e : EnvOk ν N env tmps) {d : Nat} {x : SV} {V : Value} (hd : d < N) (hx : x.den ν = some V) : EnvOk ν N ((d, x) :: env) (tmps.setIfInBounds d V) := by
  refine ⟨by simpa using e.size, fun s v hs => ?_⟩
  simp only [lk] at hs
  split at hs
  · rename_i h
    cases hs; subst h
    exact ⟨V, hx, by rw [Array.getElem?_setIfInBounds_self]; simp [e.size, hd]⟩
  · rename_i h
    obtain ⟨W, h1, h2⟩ := e.at_ s v hs
    exact ⟨W, h1, by rw [Array.getElem?_setIfInBounds_ne h]; exact h2⟩

theorem EnvOk.weaken {N : Nat} {env env' : Env} {tmps : Array Value} (e : EnvOk ν N env tmps) (h : ∀ s v, lk env' s = some v → lk env s = some v) : EnvOk ν N env' tmps :=
  ⟨e.size, fun s v hs => e.at_ s v (h s v hs)⟩
end

/-- `d` gets `x`. -/
def putE (N : Nat) (d : Option Nat) (x : SV) (env : Env) : Option Env :=
  match d with
  | none => some env
  | some d => if d < N then some ((d, x) :: env) else none

theorem putE_ok {ν : Nu} {N : Nat} {env env' : Env} {a : Act} (e : EnvOk ν N env a.tmps) {d : Option Nat} {x : SV} {V : Value} (h : putE N d x env = some env') (hx : x.den ν = some V) : EnvOk ν N env' (a.put d V).tmps := by
  cases d with
  | none => cases h; exact e
  | some d =>
    simp only [putE] at h
    split at h
    · rename_i hd; cases h; exact e.put hd hx
    · cases h
theorem put_defers {a : Act} {d : Option Nat} {V : Value} : (a.put d V).defers = a.defers := by cases d <;> rfl

/-- What is left to do behind a jump out of block `id`. -/
def exitS (id : Nat) : List It → Option (List It)
  | [] => none
  | .blk id' :: k => if id' = id then some k else exitS id k
  | _ :: k => exitS id k
theorem exitS_ok {P : Program} {ν : Nu} (id : Nat) : ∀ (l : List It) (k : List Item), todoOk P ν l k → (∀ l', exitS id l = some l' → ∃ k', exitTo id k = some k' ∧ todoOk P ν l' k') ∧ (exitS id l = none → exitTo id k = none)
  | [], [], _ => ⟨fun _ h => by simp [exitS] at h, fun _ => rfl⟩
  | [], _ :: _, h => h.elim
  | _ :: _, [], h => h.elim
  | x :: l, y :: k, ⟨h1, h2⟩ => by
    have ih := exitS_ok (P := P) (ν := ν) id l k h2
    cases x with
    | blk id' =>
      cases y with
      | inBlock id'' =>
        cases h1
        simp only [exitS, exitTo, beq_iff_eq]
        split
        · exact ⟨fun l' h => by cases h; exact ⟨k, rfl, h2⟩, fun h => by cases h⟩
        · exact ih
      | _ => exact h1.elim
    | _ => cases y <;> first | exact h1.elim | exact ih

def findS : IC → Nat → Option IC
  | .seq a b, l => match findS a l with
    | some r => some (.seq r b)
    | none => findS b l
  | .label l', l => if l' = l then some .skip else none
  | _, _ => none
theorem findS_ok {P : Program} (l : Nat) : ∀ (c : Code) (x : IC), comp P c = some x → (∀ y, findS x l = some y → ∃ d, findLabel c l = some d ∧ comp P d = some y) ∧ (findS x l = none → findLabel c l = none) := by
  intro c
  induction c with
  | seq a b iha ihb =>
    intro x h
    simp only [comp, Option.bind_eq_some_iff, Option.map_eq_some_iff] at h
    obtain ⟨xa, ha, xb, hb, rfl⟩ := h
    obtain ⟨a1, a2⟩ := iha xa ha
    obtain ⟨b1, b2⟩ := ihb xb hb
    simp only [findS, findLabel]
    cases hf : findS xa l with
    | some r =>
      obtain ⟨d, h1, h2⟩ := a1 r hf
      refine ⟨fun y hy => ?_, fun h => (by cases h)⟩
      cases hy
      exact ⟨.seq d b, by rw [h1], by simp [comp, h2, hb]⟩
    | none =>
      rw [a2 hf]
      exact ⟨b1, b2⟩
  | label l' =>
    intro x h
    cases h
    simp only [findS, findLabel, beq_iff_eq]
    split
    · exact ⟨fun y hy => by cases hy; exact ⟨.skip, rfl, rfl⟩, fun h => by cases h⟩
    · exact ⟨fun y hy => (by cases hy), fun _ => rfl⟩
  | region id ops dr =>
    intro x h
    cases dr with
    | false =>
      simp only [comp, Option.map_eq_some_iff] at h
      obtain ⟨_, _, rfl⟩ := h
      exact ⟨fun y hy => by simp [findS] at hy, fun _ => rfl⟩
    | true =>
      simp only [comp] at h
      split at h
      · simp only [Option.map_eq_some_iff] at h
        obtain ⟨_, _, rfl⟩ := h
        exact ⟨fun y hy => by simp [findS] at hy, fun _ => rfl⟩
      · cases h
  | refuse why => intro x h; cases h
  | _ =>
    intro x h
    simp only [comp, Option.bind_eq_some_iff, Option.map_eq_some_iff, Option.some.injEq] at h
    first
      | (subst h; exact ⟨fun y hy => by simp [findS] at hy, fun _ => rfl⟩)
      | (cases h; exact ⟨fun y hy => by simp [findS] at hy, fun _ => rfl⟩)
      | (obtain ⟨_, _, rfl⟩ := h; exact ⟨fun y hy => by simp [findS] at hy, fun _ => rfl⟩)
      | (obtain ⟨_, _, _, _, rfl⟩ := h; exact ⟨fun y hy => by simp [findS] at hy, fun _ => rfl⟩)
      | (obtain ⟨_, _, _, _, _, _, rfl⟩ := h; exact ⟨fun y hy => by simp [findS] at hy, fun _ => rfl⟩)

def gotoS (id : Nat) : List It → Option (List It)
  | [] => none
  | .sc x :: k => match findS x id with
    | some r => some (.c r :: .sc x :: k)
    | none => gotoS id k
  | _ :: k => gotoS id k
theorem gotoS_ok {P : Program} {ν : Nu} (id : Nat) : ∀ (l : List It) (k : List Item), todoOk P ν l k → (∀ l', gotoS id l = some l' → ∃ k', gotoIn id k = some k' ∧ todoOk P ν l' k')
  | [], [], _ => fun _ h => by simp [gotoS] at h
  | [], _ :: _, h => h.elim
  | _ :: _, [], h => h.elim
  | x :: l, y :: k, ⟨h1, h2⟩ => by
    have ih := gotoS_ok (P := P) (ν := ν) id l k h2
    cases x with
    | sc x' =>
      cases y with
      | inScope c =>
        obtain ⟨f1, f2⟩ := findS_ok (P := P) id c x' h1
        intro l' h
        simp only [gotoS] at h
        simp only [gotoIn]
        split at h
        · rename_i r hr
          cases h
          obtain ⟨d, h3, h4⟩ := f1 r hr
          rw [h3]
          exact ⟨_, rfl, h4, h1, h2⟩
        · rename_i hr
          rw [f2 hr]
          exact ih l' h
      | _ => exact h1.elim
    | _ => cases y <;> first | exact h1.elim | exact ih

end Go.Pv
