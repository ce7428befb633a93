/- The moves of the machine by tags. -/
import Derived.Test.YtifoaokodgbhjaaGreatVj
namespace Go.Pv
open Go

section
variable {C : Ctx} {fn N : Nat} {ro : Option Nat} {rs : List RP} {env : Env} {k : List It} {defs : List Nat} {r : List FS} {hs : List SO}

/-- A move that touches what is left to do, and nothing else. -/
theorem ok_move {l l' : List It} (h : ∀ (ν : Nu) (b : Frame) (a : Act) (K : List Item), EnvOk ν N env a.tmps → todoOk C.P ν l K →
      ∃ K', todoOk C.P ν l' K' ∧ ∀ cs w, step C.P (lone (b.atR a K) cs w) = .next (lone (b.atR a K') cs w)) :
    Ok C (⟨fn, ro, N, rs, env, l', defs⟩ :: r) hs → Ok C (⟨fn, ro, N, rs, env, l, defs⟩ :: r) hs := by
  intro H ν w fr frs hx hr hf
  obtain ⟨h1, h2⟩ := hf
  obtain ⟨K', h3, h4⟩ := h ν fr ⟨fr.tmps, fr.defers⟩ fr.todo h1.env h1.todo
  have := h4 (frs ++ C.cs) w
  rw [← h1.atR] at this
  refine C.back _ _ this (H ν w _ frs hx hr ⟨?_, h2⟩)
  exact h1.put (Ext.refl _) h1.env h3 h1.defs

theorem comp_inv {P : Program} {c : Code} {x : IC} (h : comp P c = some x) : (match c, x with
    | .skip, .skip => True
    | .region _ ops dr, .reg l => dr = false ∧ compOps P ops ops.toList = some l
    | .region _ ops dr, .dreg d => dr = true ∧ P.follows .mixedOrders = true ∧ Region.noSelect ops = true ∧ noDefer ops = true ∧ sched P ops ops.size (Array.replicate ops.size false) = some d
    | .seq a b, .seq x y => comp P a = some x ∧ comp P b = some y
    | .cond c a b, .cond e x y => exO c = some e ∧ comp P a = some x ∧ comp P b = some y
    | .block id a, .block id' x => id' = id ∧ comp P a = some x
    | .loop a, .loop x => comp P a = some x
    | .rangeFunc g ps a b, .rf e qs x y => exO g = some e ∧ qs = ps.toList ∧ comp P a = some x ∧ comp P b = some y
    | .exit id, .exit id' => id' = id
    | .scope a, .scope x => comp P a = some x
    | .label l, .label l' => l' = l
    | .goto l, .goto l' => l' = l
    | .ret, .ret => True
    | _, _ => False) := by
  cases c with
  | region id ops dr =>
    cases dr with
    | false =>
      simp only [comp, Option.map_eq_some_iff] at h
      obtain ⟨_, h1, rfl⟩ := h
      exact ⟨rfl, h1⟩
    | true =>
      simp only [comp] at h
      split at h
      · rename_i hc
        simp only [Option.map_eq_some_iff] at h
        obtain ⟨_, h1, rfl⟩ := h
        simp only [Bool.and_eq_true] at hc
        exact ⟨rfl, hc.1.1, hc.1.2, hc.2, h1⟩
      · cases h
  | refuse why => cases h
  | skip => cases h; trivial
  | exit id => cases h; rfl
  | label id => cases h; rfl
  | goto id => cases h; rfl
  | ret => cases h; trivial
  | seq a b =>
    simp only [comp, Option.bind_eq_some_iff, Option.map_eq_some_iff] at h
    obtain ⟨_, h1, _, h2, rfl⟩ := h
    exact ⟨h1, h2⟩
  | cond c a b =>
    simp only [comp, Option.bind_eq_some_iff, Option.map_eq_some_iff] at h
    obtain ⟨_, h0, _, h1, _, h2, rfl⟩ := h
    exact ⟨h0, h1, h2⟩
  | rangeFunc g ps a b =>
    simp only [comp, Option.bind_eq_some_iff, Option.map_eq_some_iff] at h
    obtain ⟨_, h0, _, h1, _, h2, rfl⟩ := h
    exact ⟨h0, rfl, h1, h2⟩
  | block id a =>
    simp only [comp, Option.map_eq_some_iff] at h
    obtain ⟨_, h1, rfl⟩ := h
    exact ⟨rfl, h1⟩
  | loop a =>
    simp only [comp, Option.map_eq_some_iff] at h
    obtain ⟨_, h1, rfl⟩ := h
    exact h1
  | scope a =>
    simp only [comp, Option.map_eq_some_iff] at h
    obtain ⟨_, h1, rfl⟩ := h
    exact h1
theorem todo_code {P : Program} {ν : Nu} {x : IC} {k : List It} {K : List Item} (h : todoOk P ν (.c x :: k) K) : ∃ c K', K = .code c :: K' ∧ comp P c = some x ∧ todoOk P ν k K' := by
  obtain ⟨y, K', rfl, h1, h2⟩ := todoOk_cons h
  cases y with
  | code c => exact ⟨c, K', rfl, h1, h2⟩
  | _ => exact h1.elim
theorem ok_skip : Ok C (⟨fn, ro, N, rs, env, k, defs⟩ :: r) hs → Ok C (⟨fn, ro, N, rs, env, .c .skip :: k, defs⟩ :: r) hs := by
  refine ok_move fun ν b a K _ ht => ?_
  obtain ⟨c, K', rfl, hc, hk⟩ := todo_code ht
  have hi := comp_inv hc
  cases c <;> simp only at hi
  exact ⟨K', hk, fun cs w => stepR_skip⟩
theorem ok_label {l : Nat} : Ok C (⟨fn, ro, N, rs, env, k, defs⟩ :: r) hs → Ok C (⟨fn, ro, N, rs, env, .c (.label l) :: k, defs⟩ :: r) hs := by
  refine ok_move fun ν b a K _ ht => ?_
  obtain ⟨c, K', rfl, hc, hk⟩ := todo_code ht
  have hi := comp_inv hc
  cases c <;> simp only at hi
  exact ⟨K', hk, fun cs w => stepR_label⟩
theorem ok_seq {x y : IC} : Ok C (⟨fn, ro, N, rs, env, .c x :: .c y :: k, defs⟩ :: r) hs → Ok C (⟨fn, ro, N, rs, env, .c (.seq x y) :: k, defs⟩ :: r) hs := by
  refine ok_move fun ν b a K _ ht => ?_
  obtain ⟨c, K', rfl, hc, hk⟩ := todo_code ht
  have hi := comp_inv hc
  cases c <;> simp only at hi
  rename_i ca cb
  exact ⟨.code ca :: .code cb :: K', ⟨hi.1, hi.2, hk⟩, fun cs w => stepR_seq⟩
theorem ok_block {id : Nat} {x : IC} : Ok C (⟨fn, ro, N, rs, env, .c x :: .blk id :: k, defs⟩ :: r) hs → Ok C (⟨fn, ro, N, rs, env, .c (.block id x) :: k, defs⟩ :: r) hs := by
  refine ok_move fun ν b a K _ ht => ?_
  obtain ⟨c, K', rfl, hc, hk⟩ := todo_code ht
  have hi := comp_inv hc
  cases c <;> simp only at hi
  rename_i id' ca
  exact ⟨.code ca :: .inBlock id' :: K', ⟨hi.2, hi.1.symm, hk⟩, fun cs w => stepR_block⟩
theorem ok_loop {x : IC} : Ok C (⟨fn, ro, N, rs, env, .c x :: .lp x :: k, defs⟩ :: r) hs → Ok C (⟨fn, ro, N, rs, env, .c (.loop x) :: k, defs⟩ :: r) hs := by
  refine ok_move fun ν b a K _ ht => ?_
  obtain ⟨c, K', rfl, hc, hk⟩ := todo_code ht
  have hi := comp_inv hc
  cases c <;> simp only at hi
  rename_i ca
  exact ⟨.code ca :: .inLoop ca :: K', ⟨hi, hi, hk⟩, fun cs w => stepR_loop⟩
theorem ok_scope {x : IC} : Ok C (⟨fn, ro, N, rs, env, .c x :: .sc x :: k, defs⟩ :: r) hs → Ok C (⟨fn, ro, N, rs, env, .c (.scope x) :: k, defs⟩ :: r) hs := by
  refine ok_move fun ν b a K _ ht => ?_
  obtain ⟨c, K', rfl, hc, hk⟩ := todo_code ht
  have hi := comp_inv hc
  cases c <;> simp only at hi
  rename_i ca
  exact ⟨.code ca :: .inScope ca :: K', ⟨hi, hi, hk⟩, fun cs w => step_lone_go (by simp [stepG, stepG.exec, Frame.atR])⟩
theorem ok_reg {l : List IOp} : Ok C (⟨fn, ro, N, rs, env, .ops l :: k, defs⟩ :: r) hs → Ok C (⟨fn, ro, N, rs, env, .c (.reg l) :: k, defs⟩ :: r) hs := by
  refine ok_move fun ν b a K _ ht => ?_
  obtain ⟨c, K', rfl, hc, hk⟩ := todo_code ht
  have hi := comp_inv hc
  cases c <;> simp only at hi
  rename_i id ops dr
  obtain ⟨rfl, hi⟩ := hi
  refine ⟨.inRegion ops (List.range ops.size) :: K', ⟨?_, hk⟩, fun cs w => stepR_region⟩
  show restOk C.P ops (List.range ops.size) l
  have gen : ∀ (m : List Oper) (l : List IOp) (i : Nat), (∀ j, m[j]? = ops[i + j]?) → compOps C.P ops m = some l → restOk C.P ops (List.range' i m.length) l := by
    intro m
    induction m with
    | nil => intro l i _ h; cases h; trivial
    | cons o m ih =>
      intro l i hj h
      simp only [compOps, Option.bind_eq_some_iff, Option.map_eq_some_iff] at h
      obtain ⟨x, h1, l', h2, rfl⟩ := h
      refine ⟨⟨o, by have := hj 0; simpa using this.symm, h1⟩, ih l' (i + 1) (fun j => ?_) h2⟩
      have := hj (j + 1)
      simpa [Nat.add_assoc, Nat.add_comm 1] using this
  have := gen ops.toList l 0 (by simp) hi
  simpa [List.range_eq_range'] using this
theorem ok_cond {e : Ex} {t : Bool} {x y : IC} (he : ev env e = some (.bool t)) :
    Ok C (⟨fn, ro, N, rs, env, .c (match t with | true => x | false => y) :: k, defs⟩ :: r) hs → Ok C (⟨fn, ro, N, rs, env, .c (.cond e x y) :: k, defs⟩ :: r) hs := by
  refine ok_move fun ν b a K hen ht => ?_
  obtain ⟨c, K', rfl, hc, hk⟩ := todo_code ht
  have hi := comp_inv hc
  cases c <;> simp only at hi
  obtain ⟨h1, h2, h3⟩ := hi
  have hb := den_bool (ev_ok hen h1 he)
  rename_i co ca cb
  exact ⟨.code (if t then ca else cb) :: K', ⟨by cases t; exact h3; exact h2, hk⟩, fun cs w => stepR_cond hb⟩
theorem ok_exit {id : Nat} {l : List It} (h : exitS id k = some l) :
    Ok C (⟨fn, ro, N, rs, env, l, defs⟩ :: r) hs → Ok C (⟨fn, ro, N, rs, env, .c (.exit id) :: k, defs⟩ :: r) hs := by
  refine ok_move fun ν b a K _ ht => ?_
  obtain ⟨c, K', rfl, hc, hk⟩ := todo_code ht
  have hi := comp_inv hc
  cases c <;> simp only at hi
  subst hi
  obtain ⟨k', h1, h2⟩ := (exitS_ok id _ _ hk).1 _ h
  exact ⟨k', h2, fun cs w => stepR_exit h1⟩
theorem ok_goto {id : Nat} {l : List It} (h : gotoS id k = some l) :
    Ok C (⟨fn, ro, N, rs, env, l, defs⟩ :: r) hs → Ok C (⟨fn, ro, N, rs, env, .c (.goto id) :: k, defs⟩ :: r) hs := by
  refine ok_move fun ν b a K _ ht => ?_
  obtain ⟨c, K', rfl, hc, hk⟩ := todo_code ht
  have hi := comp_inv hc
  cases c <;> simp only at hi
  subst hi
  obtain ⟨k', h1, h2⟩ := gotoS_ok id _ _ hk _ h
  exact ⟨k', h2, fun cs w => stepR_goto h1⟩
theorem ok_blk {id : Nat} : Ok C (⟨fn, ro, N, rs, env, k, defs⟩ :: r) hs → Ok C (⟨fn, ro, N, rs, env, .blk id :: k, defs⟩ :: r) hs := by
  refine ok_move fun ν b a K _ ht => ?_
  obtain ⟨y, K', rfl, h1, h2⟩ := todoOk_cons ht
  cases y with
  | inBlock id' => exact ⟨K', h2, fun cs w => stepR_inBlock⟩
  | _ => exact h1.elim
theorem ok_sc {x : IC} : Ok C (⟨fn, ro, N, rs, env, k, defs⟩ :: r) hs → Ok C (⟨fn, ro, N, rs, env, .sc x :: k, defs⟩ :: r) hs := by
  refine ok_move fun ν b a K _ ht => ?_
  obtain ⟨y, K', rfl, h1, h2⟩ := todoOk_cons ht
  cases y with
  | inScope id' => exact ⟨K', h2, fun cs w => step_lone_go (by simp [stepG, stepG.exec, Frame.atR])⟩
  | _ => exact h1.elim
theorem ok_lp {x : IC} : Ok C (⟨fn, ro, N, rs, env, .c x :: .lp x :: k, defs⟩ :: r) hs → Ok C (⟨fn, ro, N, rs, env, .lp x :: k, defs⟩ :: r) hs := by
  refine ok_move fun ν b a K _ ht => ?_
  obtain ⟨y, K', rfl, h1, h2⟩ := todoOk_cons ht
  cases y with
  | inLoop ca => exact ⟨.code ca :: .inLoop ca :: K', ⟨h1, h1, h2⟩, fun cs w => stepR_inLoop⟩
  | _ => exact h1.elim
theorem ok_ops_nil : Ok C (⟨fn, ro, N, rs, env, k, defs⟩ :: r) hs → Ok C (⟨fn, ro, N, rs, env, .ops [] :: k, defs⟩ :: r) hs := by
  refine ok_move fun ν b a K _ ht => ?_
  obtain ⟨y, K', rfl, h1, h2⟩ := todoOk_cons ht
  cases y with
  | inRegion ops l =>
    cases l with
    | nil => exact ⟨K', h2, fun cs w => stepR_region_end⟩
    | cons i l => exact h1.elim
  | _ => exact h1.elim
end
end Go.Pv
