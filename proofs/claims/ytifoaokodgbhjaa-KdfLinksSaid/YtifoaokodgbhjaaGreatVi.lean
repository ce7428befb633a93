/- One operation of the short form: what it does is what the program's operation does. -/
import Derived.Test.YtifoaokodgbhjaaGreatVh
namespace Go.Pv
open Go

def evR (o : O) (env : Env) (hs : List SO) : Res :=
  match o.quiet with
  | true => match evQ o env hs with
    | .v p x => .v p x
    | _ => .no
  | false => evW o env hs

section
variable {P : Program} {w0 : World} {ν0 ν : Nu} {N : Nat} {env : Env} {a : Act} {hs : List SO} {w : World}

theorem run_builtin (b : Builtin) (args : Array Operand) (argTypes : Array TypeId) (type : TypeId) (ρ : Operand → Value) (w : World) :
    (do let d ← resolve ρ { callee := .builtin b, args, argTypes } type; invoke d.target d.args : Sem Next).run P w = (builtin b argTypes type (args.map fun | .const _ => true | _ => false) (args.map ρ)).run P w := by
  simp only [resolve, pure_bind, invoke]
  rfl

theorem run_call_value (f : Operand) (args : Array Operand) (argTypes : Array TypeId) (type : TypeId) (ρ : Operand → Value) (w : World) :
    (do let d ← resolve ρ { callee := .value f, args, argTypes } type; invoke d.target d.args : Sem Next).run P w = (do let d ← Deferred.ofValue (ρ f) (args.map ρ); invoke d.target d.args : Sem Next).run P w := rfl

theorem evR_w {o : O} (h : o.quiet = false) : evR o env hs = evW o env hs := by
  unfold evR
  simp [h]

/-- **One operation.** -/
theorem op_ok (rel : Rel P w0 ν0 ν hs w) (he : EnvOk ν N env a.tmps) {op : Oper} {o : O} (hc : compOp P op.op = some o) : Does P w0 ν0 ν hs ((execOp a.eval op).run P w) (evR o env hs) := by
  by_cases hq : o.quiet = true
  · unfold evR
    rw [hq]
    simp only
    cases hv : evQ o env hs with
    | v p r =>
      intro hp
      obtain ⟨V, h1, h2⟩ := quiet_ok he hc (rel.look fun _ => True) (fun _ _ => trivial) hv hp
      exact ⟨V, w, ν, Ext.refl _, rel, h1, h2⟩
    | _ => trivial
  · have hq' : o.quiet = false := by simpa using hq
    rw [evR_w hq']
    obtain ⟨dst, op, type, pos, after, guard⟩ := op
    simp only at hc
    cases op with
    | alloc t => exact w_alloc rel hc
    | box t x => exact w_box rel he hc
    | buildSlice t n ps => exact w_buildSlice rel he hc
    | store t x y => exact w_store rel he hc
    | makeSlice t l c => exact w_makeSlice rel he hc
    | makeMap t r => exact w_mkm rel hc
    | convert s d x => exact w_s2b rel he hc
    | lookup t m k ok => exact w_lkp rel he hc
    | insert t m k x => exact w_ins rel he hc
    | mapUpdate t m k x => exact w_ins rel he hc
    | call c =>
      obtain ⟨cal, args, argTypes⟩ := c
      cases cal with
      | value f =>
        have hc' := hc
        simp only [compOp, Option.pure_def, Option.bind_eq_bind, Option.bind_eq_some_iff, Option.some.injEq] at hc
        obtain ⟨e1, h1, e2, h2, rfl⟩ := hc
        simp only [evW]
        split
        · split <;> trivial
        · trivial
      | invoke r m => simp [compOp] at hc
      | builtin b =>
        simp only [execOp]
        rw [run_builtin]
        cases b with
        | append => exact w_append rel he hc
        | copy => exact w_copy rel he hc
        | _ =>
          simp only [compOp, Option.map_eq_some_iff] at hc
          first
            | (cases hc; done)
            | (obtain ⟨_, _, rfl⟩ := hc; simp [O.quiet] at hq'; done)
            | (exfalso; repeat' split at hc
               all_goals first
                | (cases hc; done)
                | (simp only [Option.map_eq_some_iff] at hc; obtain ⟨_, _, rfl⟩ := hc; simp [O.quiet] at hq'; done)
                | (simp at hc; subst hc; simp [O.quiet] at hq'; done))
    | _ =>
      clear he rel
      simp only [compOp, Option.pure_def, Option.bind_eq_bind] at hc
      repeat' (first | (split at hc) | (simp only [Option.bind_eq_some_iff, Option.map_eq_some_iff, Option.some.injEq] at hc) | (obtain ⟨_, _, hc⟩ := hc) | (cases hc; done))
      all_goals first
        | (subst hc; simp [O.quiet] at hq'; done)
        | (simp [O.quiet] at hq'; done)
        | (subst hc; trivial)
        | trivial
end
end Go.Pv
