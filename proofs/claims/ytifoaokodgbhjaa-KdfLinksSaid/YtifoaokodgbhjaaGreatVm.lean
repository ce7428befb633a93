/- Calls, returns and rounds of the machine by tags. -/
import Derived.Test.YtifoaokodgbhjaaGreatVl
namespace Go.Pv
open Go

/-- A function by tags: its temporaries, its results, its code. -/
structure FnC where
  N : Nat
  rs : List RP
  body : IC

structure FnOk (P : Program) (f : Nat) (c : FnC) : Prop where
  ok : ∃ F code, P.funcs[f]? = some F ∧ F.name ≠ "runtime.NumGoroutine" ∧ F.ntmps = c.N ∧ F.body = some code ∧ comp P code = some c.body ∧ compRs P F.results.toList = some c.rs

theorem fnOk_mk {P : Program} {f : Nat} {c : FnC} (F : Func) (h1 : P.funcs[f]? = some F) (h2 : (F.name == "runtime.NumGoroutine") = false) (h3 : F.ntmps = c.N) (h4 : F.body.bind (comp P) = some c.body) (h5 : compRs P F.results.toList = some c.rs) : FnOk P f c := by
  simp only [Option.bind_eq_some_iff] at h4
  obtain ⟨code, h6, h7⟩ := h4
  exact ⟨F, code, h1, by simpa using h2, h3, h6, h7, h5⟩

def fnOkB (P : Program) (f : Nat) (N : Nat) : Bool :=
  match P.funcs[f]? with
  | some F => F.name != "runtime.NumGoroutine" && F.ntmps == N && F.body.isSome
  | none => false

def paramsE : Nat → List SV → Env
  | _, [] => []
  | i, a :: r => (i, a) :: paramsE (i + 1) r

/-- The callee's frame. -/
def FS.start (f : Nat) (c : FnC) (as : List SV) : FS := ⟨f, none, c.N, c.rs, paramsE 0 as, [.c c.body], []⟩

theorem lk_paramsE : ∀ (as : List SV) (i s : Nat) (v : SV), lk (paramsE i as) s = some v → ∃ j, s = i + j ∧ as[j]? = some v
  | [], i, s, v, h => by simp [paramsE, lk] at h
  | a :: r, i, s, v, h => by
    simp only [paramsE, lk] at h
    split at h
    · rename_i e; cases h; exact ⟨0, by omega, rfl⟩
    · obtain ⟨j, h1, h2⟩ := lk_paramsE r (i + 1) s v h
      exact ⟨j + 1, by omega, by simpa using h2⟩

theorem start_ok {P : Program} {ν : Nu} {f : Nat} {c : FnC} (hF : FnOk P f c) {as : List SV} {As : List Value} (h1 : as.all SV.one = true) (hd : dens ν as = some As) (hn : as.length ≤ c.N) :
    (FS.start f c as).Ok P ν (Frame.enter P f As.toArray .normal) := by
  obtain ⟨F, code, g1, g2, g3, g4, g5, g6⟩ := hF.ok
  have hm := map_of_dens as As h1 hd
  have hl : as.length = As.length := by have := congrArg List.length hm; simpa using this
  refine ⟨rfl, ⟨?_, ?_⟩, ⟨?_, trivial⟩, trivial, rfl, rfl, rfl, fun _ => ⟨F, g1, g6⟩⟩
  · simp [Frame.enter, g1, g3, FS.start]; omega
  · intro s v hs
    obtain ⟨j, e, hj⟩ := lk_paramsE _ _ _ _ hs
    have e : s = j := by omega
    subst e
    have hjl : s < As.length := by rw [← hl]; exact (List.getElem?_eq_some_iff.1 hj).1
    have h2 : (as.map (SV.den ν))[s]? = (As.map some)[s]? := by rw [hm]
    rw [List.getElem?_map, List.getElem?_map, hj, List.getElem?_eq_getElem hjl] at h2
    simp only [Option.map_some, Option.some.injEq] at h2
    refine ⟨As[s], h2, ?_⟩
    simp only [Frame.enter]
    rw [Array.getElem?_append_left (by simpa using hjl)]
    simp [hjl]
  · simp only [g1, Option.bind_some, g4, Option.getD_some]
    exact g5

def roundE (N : Nat) : List Nat → List SV → Env → Option Env
  | [], [], env => some env
  | p :: ps, a :: as, env => if p < N then roundE N ps as ((p, a) :: env) else none
  | _, _, _ => none

theorem roundE_ok {ν : Nu} {N : Nat} : ∀ (ps : List Nat) (as : List SV) (As : List Value) (env env' : Env) (tmps : Array Value), EnvOk ν N env tmps → as.map (SV.den ν) = As.map some → roundE N ps as env = some env' →
    ps.length = as.length ∧ EnvOk ν N env' ((ps.zip As).foldl (fun tmps (t, a) => tmps.setIfInBounds t a) tmps)
  | [], [], [], env, env', tmps, he, _, h => by simp [roundE] at h; subst h; exact ⟨rfl, he⟩
  | [], [], _ :: _, _, _, _, _, h1, _ => by simp at h1
  | [], _ :: _, _, _, _, _, _, _, h => by simp [roundE] at h
  | _ :: _, [], _, _, _, _, _, _, h => by simp [roundE] at h
  | _ :: _, _ :: _, [], _, _, _, _, h1, _ => by simp at h1
  | p :: ps, a :: as, A :: As, env, env', tmps, he, h1, h => by
    simp only [List.map_cons, List.cons.injEq] at h1
    simp only [roundE] at h
    split at h
    · rename_i hp
      obtain ⟨e1, e2⟩ := roundE_ok ps as As _ _ (tmps.setIfInBounds p A) (he.put hp h1.1) h1.2 h
      exact ⟨by simp [e1], e2⟩
    · cases h

theorem compOp_call {P : Program} {oop : Op} {f : Ex} {es : List Ex} (h : compOp P oop = some (.call f es)) : ∃ fo args argTypes, oop = .call { callee := .value fo, args, argTypes } := by
  cases oop with
  | call c =>
    obtain ⟨cal, args, argTypes⟩ := c
    cases cal with
    | value f => exact ⟨_, _, _, rfl⟩
    | invoke r m => simp [compOp] at h
    | builtin b =>
      exfalso
      cases b <;> simp only [compOp, Option.map_eq_some_iff] at h
      all_goals first
        | (cases h; done)
        | (obtain ⟨_, _, h⟩ := h; cases h; done)
        | (repeat' (first | (split at h) | (simp only [Option.pure_def, Option.bind_eq_bind, Option.bind_eq_some_iff, Option.map_eq_some_iff, Option.some.injEq] at h) | (obtain ⟨_, _, h⟩ := h) | (cases h; done)))
  | _ =>
    exfalso
    simp only [compOp, Option.pure_def, Option.bind_eq_bind] at h
    repeat' (first | (split at h) | (simp only [Option.bind_eq_some_iff, Option.map_eq_some_iff, Option.some.injEq] at h) | (obtain ⟨_, _, h⟩ := h) | (cases h; done))
    all_goals (rename_i heq _ _; cases heq)

section
variable {C : Ctx} {fn N : Nat} {ro : Option Nat} {rs : List RP} {env : Env} {k : List It} {defs : List Nat} {r : List FS} {hs : List SO} {op : IOp} {l : List IOp}

/-- The call's own step. -/
theorem stepR_callop {P : Program} {b : Frame} {a : Act} {K : List Item} {cs : List Frame} {w : World} {ops : Array Oper} {i : Nat} {rest : List Nat} {o : Oper} (ho : ops[i]? = some o) (hw : Region.wanted o (yielded ops a.tmps) = true) (hnd : ∀ c, o.op ≠ .defer c)
    {n : Next} {w' : World} (hr : (execOp a.eval o).run P w = .ok n w') {fr' : Frame}
    (hn : (∃ f args, n = .enter f args ∧ fr' = Frame.enter P f args .normal) ∨ (∃ l f tmps as bd, n = .round l f tmps as bd ∧ fr' = Frame.round l f tmps as bd .normal)) :
    step P (lone (b.atR a (.inRegion ops (i :: rest) :: K)) cs w) = .next (lone fr' (b.atR a (.inRegion ops (i :: rest) :: K) :: cs) w') :=
  step_lone_go (by
    rw [stepGR_op ho hw, Oper.semAt_eq _ _ _ hnd]
    rcases hn with ⟨f, args, rfl, rfl⟩ | ⟨l, f, tmps, as, bd, rfl, rfl⟩ <;> simp [stepG.apply, Sem.runT_eq, hr, GStep.bare_after, Frame.atR])

theorem run_callFunc {P : Program} {f : Nat} {c : FnC} (hF : FnOk P f c) (args : Array Value) (w : World) : (callFunc f args).run P w = .ok (.enter f args) w := by
  obtain ⟨F, code, g1, g2, g3, g4, g5, g6⟩ := hF.ok
  simp [callFunc, g1, g2, g4]

theorem call_inv {op : IOp} {env : Env} {hs : List SO} {x : SV} {as : List SV} (h : evR op.o env hs = .call x as) : ∃ f es, op.o = .call f es ∧ evW op.o env hs = .call x as ∧ as.all SV.one = true := by
  unfold evR at h
  split at h
  · split at h <;> cases h
  · have h' := h
    unfold evW at h
    split at h
    all_goals first
      | (cases h; done)
      | skip
    all_goals (try (unfold stR at h))
    all_goals (try (unfold staR at h))
    all_goals (try (unfold lkpR at h))
    all_goals (try (unfold insR at h))
    all_goals (repeat' split at h)
    all_goals first
      | (cases h; done)
      | (rename_i f1 es1 heq _ _ f2 as2 _ _ hall; cases h; exact ⟨f1, es1, heq, h', hall⟩)

/-- **A call of a function that the program holds, of its own kind: on with the callee's frame.** -/
theorem ok_enter (hg : wantG op.g env = some true) {f : Nat} {caps as : List SV} (hev : evR op.o env hs = .call (.fn f caps) as) {c : FnC} (hF : FnOk C.P f c) (hc1 : caps.all SV.one = true) (hn : (as ++ caps).length ≤ c.N) :
    Ok C (FS.start f c (as ++ caps) :: ⟨fn, ro, N, rs, env, .ops (op :: l) :: k, defs⟩ :: r) hs → Ok C (⟨fn, ro, N, rs, env, .ops (op :: l) :: k, defs⟩ :: r) hs := by
  intro H ν w fr frs hx hr hf
  obtain ⟨h1, h2⟩ := hf
  obtain ⟨ops, i, rest, K', o, hK, g1, g2, g3, g4⟩ := todo_ops h1.todo
  have hat := h1.atR
  rw [hK] at hat
  obtain ⟨hd, hcb⟩ := compOper_inv g2
  have hw := wantG_ok (a := ⟨fr.tmps, fr.defers⟩) h1.env g2 hg
  obtain ⟨fe, es, ho, hevW, hall⟩ := call_inv hev
  have hc : compOp C.P o.op = some op.o := by
    rcases hcb with h | h
    · exact h
    · rw [ho] at h; cases h
  obtain ⟨dst, oop, type, pos, after, guard⟩ := o
  simp only at hc
  have hcall : ∃ fo args argTypes, oop = .call { callee := .value fo, args, argTypes } := by
    rw [ho] at hc
    exact compOp_call hc
  obtain ⟨fo, args, argTypes, rfl⟩ := hcall
  obtain ⟨e1, e2⟩ := w_call (a := ⟨fr.tmps, fr.defers⟩) h1.env hc hevW
  simp only [SV.den, Option.map_eq_some_iff] at e1
  obtain ⟨Cs, e3, e4⟩ := e1
  have hrun : (execOp (Act.eval ⟨fr.tmps, fr.defers⟩) { dst := dst, op := Op.call { callee := .value fo, args, argTypes }, type, pos, after, guard }).run C.P w = .ok (.enter f (args.map (Act.eval ⟨fr.tmps, fr.defers⟩) ++ Cs.toArray)) w := by
    show (do let d ← resolve (Act.eval ⟨fr.tmps, fr.defers⟩) { callee := .value fo, args, argTypes } type; invoke d.target d.args : Sem Next).run C.P w = _
    rw [run_call_value, ← e4]
    simp only [Deferred.ofValue, pure_bind, invoke, Array.empty_append]
    exact run_callFunc hF _ w
  have hst := stepR_callop (b := fr) (K := K') (cs := frs ++ C.cs) (rest := rest) g1 hw (op_not_defer (x := op.o) hc) hrun (.inl ⟨f, _, rfl, rfl⟩)
  rw [← hat] at hst
  refine C.back _ _ hst (H ν w _ (fr :: frs) hx hr ⟨?_, h1, h2⟩)
  have := start_ok hF (as := as ++ caps) (As := (args.map (Act.eval ⟨fr.tmps, fr.defers⟩)).toList ++ Cs) (by simp [List.all_append, hall, hc1]) (dens_append _ _ _ _ e2 e3) hn
  have e5 : ((args.map (Act.eval ⟨fr.tmps, fr.defers⟩)).toList ++ Cs).toArray = args.map (Act.eval ⟨fr.tmps, fr.defers⟩) ++ Cs.toArray := by
    rw [← Array.toList_inj]; simp
  rw [e5] at this
  exact this
end
end Go.Pv
