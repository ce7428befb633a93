/- Regions that draw their order, by tags. -/
import Derived.Test.YtifoaokodgbhjaaGreatVq
namespace Go.Pv
open Go

/-- The cells of these tags stay (each with the operation that has read it). -/
def keepT (hs hs' : List SO) : List (Nat × Nat) → Prop
  | [] => True
  | (_, t) :: r => hs'[t]? = hs[t]? ∧ keepT hs hs' r

theorem keepT_mem {hs hs' : List SO} : ∀ {T : List (Nat × Nat)}, keepT hs hs' T → ∀ p ∈ T, hs'[p.2]? = hs[p.2]?
  | (_, _) :: _, ⟨h1, h2⟩, p, hm => by
    cases hm with
    | head => exact h1
    | tail _ hm => exact keepT_mem h2 p hm

/-- Those that are not surely done before. -/
def cutT (dr : List Nat) : List (Nat × Nat) → List (Nat × Nat)
  | [] => []
  | (i, t) :: r => if dr.contains i = true then cutT dr r else (i, t) :: cutT dr r
theorem cutT_mem {dr : List Nat} : ∀ {T : List (Nat × Nat)} {p : Nat × Nat}, p ∈ T → p.1 ∉ dr → p ∈ cutT dr T
  | (i, t) :: r, p, hm, hn => by
    simp only [cutT]
    cases hm with
    | head => rw [if_neg (by simpa using hn)]; exact List.mem_cons_self
    | tail _ hm =>
      split
      · exact cutT_mem hm hn
      · exact List.mem_cons_of_mem _ (cutT_mem hm hn)

abbrev Pend := List (Nat × (World → Prop))
/-- What was taken ahead, and what it hangs on: rows that some tag of `T` stands for. -/
def TD (ν : Nu) (hs : List SO) (w : World) (T : List (Nat × Nat)) (D : Pend) : Prop :=
  ∀ p ∈ D, ∃ t b O, (p.1, t) ∈ T ∧ ν[t]? = some b ∧ (∃ cs ty x y, hs[t]? = some (.cells cs ty x y)) ∧ w.heap[b]? = some O ∧ ∀ w' : World, w'.heap[b]? = some O → p.2 w'

theorem TD.now {ν : Nu} {hs : List SO} {w : World} {T : List (Nat × Nat)} {D : Pend} (h : TD ν hs w T D) : ∀ p ∈ D, p.2 w :=
  fun p hp => let ⟨_, _, _, _, _, _, h5, h6⟩ := h p hp; h6 w h5

def keepD (ops : Array Oper) (j : Nat) (D : Pend) : Pend := D.filter fun p => !(anc ops j).contains p.1
theorem keepD_sub {ops : Array Oper} {j : Nat} {D : Pend} {p : Nat × (World → Prop)} (h : p ∈ keepD ops j D) : p ∈ D := (List.mem_filter.1 h).1
theorem keepD_not {ops : Array Oper} {j : Nat} {D : Pend} {p : Nat × (World → Prop)} (h : p ∈ keepD ops j D) : p.1 ∉ anc ops j := by
  have := (List.mem_filter.1 h).2
  simpa using this

theorem TD.step {P : Program} {w0 w w' : World} {ν0 ν ν' : Nu} {hs hs' : List SO} {T : List (Nat × Nat)} {D : Pend} {ops : Array Oper} {j : Nat} {dr : List Nat} (h : TD ν hs w T D) (rel : Rel P w0 ν0 ν hs w) (rel' : Rel P w0 ν0 ν' hs' w') (hx : Ext ν ν')
    (hdr : dr = [] ∨ dr = anc ops j) (hk : keepT hs hs' (cutT dr T)) : TD ν' hs' w' (cutT dr T) (keepD ops j D) := by
  intro p hp
  obtain ⟨t, bl, O, ht, h1, ⟨cs, ty, x, y, h2⟩, h3, h5⟩ := h p (keepD_sub hp)
  have hn : p.1 ∉ dr := by
    rcases hdr with rfl | rfl
    · simp
    · exact keepD_not hp
  have hm := cutT_mem ht hn
  have h4 := keepT_mem hk _ hm
  simp only at h4
  rw [h2] at h4
  refine ⟨t, bl, O, hm, hx _ _ h1, ⟨cs, ty, x, y, h4⟩, ?_, h5⟩
  obtain ⟨O', ⟨C, d1, rfl⟩, d2⟩ := rel.objs _ _ _ h1 h2
  obtain ⟨O'', ⟨C', d1', rfl⟩, d2'⟩ := rel'.objs _ _ _ (hx _ _ h1) h4
  rw [dens_ext hx _ _ d1] at d1'
  cases d1'
  rw [d2']
  rw [d2] at h3
  exact h3

section
variable {P : Program} {ops : Array Oper} {Q : Exit → Act → World → Prop}

/-- Whatever comes next; what the ones taken ahead hang on holds behind each that may come before them. -/
def wpAnyD (P : Program) (ops : Array Oper) (Q : Exit → Act → World → Prop) : Nat → Array Bool → Pend → Act → World → Prop
  | 0, listed, _, a, w => Region.ready .any ops listed = [] ∧ Q .normal a w
  | fuel + 1, listed, D, a, w =>
    (Region.ready .any ops listed = [] → Q .normal a w) ∧
    ∀ j ∈ Region.ready .any ops listed, wpOp P ops Q j (fun a' w' => (∀ p ∈ keepD ops j D, p.2 w') ∧ wpAnyD P ops Q fuel (listed.setIfInBounds j true) (keepD ops j D) a' w') a w

theorem wpAnyD_anti : ∀ (fuel : Nat) (listed : Array Bool) (D D' : Pend) (a : Act) (w : World), (∀ p ∈ D', p ∈ D) → wpAnyD P ops Q fuel listed D a w → wpAnyD P ops Q fuel listed D' a w
  | 0, _, _, _, _, _, _, h => h
  | fuel + 1, _, D, D', _, _, hs, h => ⟨h.1, fun i hi => wpOp_mono (fun a' w' h' => by
      have hsub : ∀ p ∈ keepD ops i D', p ∈ keepD ops i D := fun p hp => List.mem_filter.2 ⟨hs p (keepD_sub hp), (List.mem_filter.1 hp).2⟩
      exact ⟨fun p hp => h'.1 p (hsub p hp), wpAnyD_anti fuel _ _ _ a' w' hsub h'.2⟩) (h.2 i hi)⟩

theorem wpAny_of_D : ∀ (fuel : Nat) (listed : Array Bool) (D : Pend) (a : Act) (w : World), wpAnyD P ops Q fuel listed D a w → wpAny P .any ops Q fuel listed a w
  | 0, _, _, _, _, h => h
  | fuel + 1, _, _, _, _, h => ⟨h.1, fun i hi => wpOp_mono (fun a' w' h' => wpAny_of_D fuel _ _ a' w' h'.2) (h.2 i hi)⟩

/-- Whatever is listed, what it waits for is. -/
def Closed (ops : Array Oper) (listed : Array Bool) : Prop :=
  ∀ (k : Nat) (o : Oper), ops[k]? = some o → listed.getD k false = true → ∀ e ∈ o.after, Region.binds .any e = true → listed.getD e.on false = true

theorem closed_set {listed : Array Bool} {j : Nat} (h : Closed ops listed) (hj : j ∈ Region.ready .any ops listed) : Closed ops (listed.setIfInBounds j true) := by
  intro k o ho hk e he hb
  obtain ⟨_, oj, hoj, hall⟩ := mem_ready.1 hj
  by_cases hkj : j = k
  · subst hkj
    rw [hoj] at ho; cases ho
    exact getD_set_true (hall e he hb)
  · rw [getD_set_ne false hkj] at hk
    exact getD_set_true (h k o ho hk e he hb)

theorem direct_listed {listed : Array Bool} (h : Closed ops listed) {k : Nat} (hk : listed.getD k false = true) : ∀ i ∈ direct ops k, listed.getD i false = true := by
  intro i hi
  unfold direct at hi
  split at hi
  · rename_i o ho
    simp only [List.mem_map, List.mem_filter, Array.mem_toList_iff] at hi
    obtain ⟨e, ⟨he, hb⟩, rfl⟩ := hi
    exact h k o ho hk e he hb
  · cases hi

theorem growA_listed {listed : Array Bool} (h : Closed ops listed) : ∀ (n : Nat) (s : List Nat), (∀ i ∈ s, listed.getD i false = true) → ∀ i ∈ growA ops n s, listed.getD i false = true
  | 0, s, hs, i, hi => hs i hi
  | n + 1, s, hs, i, hi => by
    have hs' : ∀ i ∈ (s ++ s.flatMap (direct ops)).eraseDups, listed.getD i false = true := by
      intro i hi
      rw [List.mem_eraseDups] at hi
      rcases List.mem_append.1 hi with hi | hi
      · exact hs i hi
      · obtain ⟨k, hk, hki⟩ := List.mem_flatMap.1 hi
        exact direct_listed h (hs k hk) i hki
    simp only [growA] at hi
    split at hi
    · exact hs' i hi
    · exact growA_listed h n _ hs' i hi

theorem anc_listed {listed : Array Bool} (h : Closed ops listed) {j : Nat} (hj : j ∈ Region.ready .any ops listed) : ∀ i ∈ anc ops j, listed.getD i false = true := by
  refine growA_listed h _ _ fun i hi => ?_
  rw [List.mem_eraseDups] at hi
  obtain ⟨_, oj, hoj, hall⟩ := mem_ready.1 hj
  unfold direct at hi
  rw [hoj] at hi
  simp only [List.mem_map, List.mem_filter, Array.mem_toList_iff] at hi
  obtain ⟨e, ⟨he, hb⟩, rfl⟩ := hi
  exact hall e he hb

theorem wpAnyD_first {S : World → Prop} {i : Nat} {oi : Oper} {v : Value} (hi : ops[i]? = some oi) (hsel : ∀ (j : Nat) (o : Oper) cs b, ops[j]? = some o → o.op ≠ .select cs b)
    (hQ : ∀ c a w, Q (.panic c) (a.put oi.dst v) w → Q (.panic c) a w) :
    ∀ (fuel : Nat) (listed : Array Bool) (D : Pend) (a : Act) (w : World),
      (∀ j oj, ops[j]? = some oj → j ≠ i → listed.getD j true = false → (∀ e ∈ oj.after, Region.binds .any e = true → e.on ≠ i) → oi.apart ops oj = true) →
      i ∈ Region.ready .any ops listed → Closed ops listed → YieldsIf P ops S oi v a → S w → (∀ p ∈ D, p.2 w) →
      wpAnyD P ops Q fuel (listed.setIfInBounds i true) ((i, S) :: D) (a.put oi.dst v) w → wpAnyD P ops Q (fuel + 1) listed D a w := by
  intro fuel
  induction fuel with
  | zero =>
    intro listed D a w _ hr hcl hy hS hD H
    refine ⟨fun h => (by rw [h] at hr; cases hr), fun j hj => ?_⟩
    by_cases hji : j = i
    · subst hji; exact hy.wpOp hi hS ⟨fun p hp => hD p (keepD_sub hp), H⟩
    · have := ready_mono hj hji
      rw [H.1] at this
      cases this
  | succ fuel ih =>
    intro listed D a w hfree hr hcl hy hS hD H
    refine ⟨fun h => (by rw [h] at hr; cases hr), fun j hj => ?_⟩
    by_cases hji : j = i
    · subst hji
      exact hy.wpOp hi hS ⟨fun p hp => hD p (keepD_sub hp), wpAnyD_anti _ _ _ _ _ _ (fun p hp => List.mem_cons_of_mem _ (keepD_sub hp)) H⟩
    · have h1 := H.2 j (ready_mono hj hji)
      obtain ⟨hjun, oj, hoj, hall⟩ := mem_ready.1 hj
      have hiun := (mem_ready.1 hr).1
      have hun : ¬ listed.getD i false = true := by
        intro heq
        rcases Nat.lt_or_ge i listed.size with h' | h'
        · simp [h'] at hiun heq; rw [hiun] at heq; cases heq
        · simp [Array.getElem?_eq_none h'] at heq
      have hnot : ∀ e ∈ oj.after, Region.binds .any e = true → e.on ≠ i := fun e he hb heq => hun (heq ▸ hall e he hb)
      have hni : i ∉ anc ops j := fun h => hun (anc_listed hcl hj i h)
      have h2 := wpOp_putIf hoj (hfree j oj hoj hji hjun hnot) (fun cs b => hsel i oi cs b hi) (fun cs b => hsel j oj cs b hoj) hQ hy h1
      have hfree' : ∀ k ok, ops[k]? = some ok → k ≠ i → (listed.setIfInBounds j true).getD k true = false →
          (∀ e ∈ ok.after, Region.binds .any e = true → e.on ≠ i) → oi.apart ops ok = true := fun k ok hk hki hun hno => by
        refine hfree k ok hk hki ?_ hno
        by_cases hjk : j = k
        · subst hjk; exact hjun
        · rw [getD_set_ne true hjk] at hun; exact hun
      have hin : (i, S) ∈ keepD ops j ((i, S) :: D) := List.mem_filter.2 ⟨List.mem_cons_self, by simpa using hni⟩
      have hsub : ∀ p ∈ keepD ops j D, p ∈ keepD ops j ((i, S) :: D) := fun p hp => List.mem_filter.2 ⟨List.mem_cons_of_mem _ (keepD_sub hp), (List.mem_filter.1 hp).2⟩
      refine wpOp_mono (fun a' w' h3 => ⟨fun p hp => h3.2.1 p (hsub p hp), ih (listed.setIfInBounds j true) (keepD ops j D) a' w' hfree' (ready_mono hr (Ne.symm hji)) (closed_set hcl hj) h3.1 (h3.2.1 _ hin) (fun p hp => h3.2.1 p (hsub p hp)) ?_⟩) h2
      rw [Array.setIfInBounds_comm _ _ hji]
      refine wpAnyD_anti _ _ _ _ _ _ (fun p hp => ?_) h3.2.2
      cases hp with
      | head => exact hin
      | tail _ hp => exact hsub p hp
end

theorem wpAnyD_triv {P : Program} {ops : Array Oper} {Q : Exit → Act → World → Prop} {i : Nat} {S : World → Prop} : ∀ (fuel : Nat) (listed : Array Bool) (D : Pend) (a : Act) (w : World), (∀ w, S w) → wpAnyD P ops Q fuel listed D a w → wpAnyD P ops Q fuel listed ((i, S) :: D) a w
  | 0, _, _, _, _, _, h => h
  | fuel + 1, _, D, _, _, hS, h => ⟨h.1, fun j hj => wpOp_mono (fun a' w' h' => by
      have hsub : ∀ p ∈ keepD ops j ((i, S) :: D), p = (i, S) ∨ p ∈ keepD ops j D := by
        intro p hp
        obtain ⟨h1, h2⟩ := List.mem_filter.1 hp
        cases h1 with
        | head => exact .inl rfl
        | tail _ h1 => exact .inr (List.mem_filter.2 ⟨h1, h2⟩)
      refine ⟨fun p hp => ?_, ?_⟩
      · rcases hsub p hp with rfl | hp
        · exact hS _
        · exact h'.1 p hp
      · refine wpAnyD_anti _ _ ((i, S) :: keepD ops j D) _ _ _ (fun p hp => ?_) (wpAnyD_triv fuel _ _ a' w' hS h'.2)
        rcases hsub p hp with rfl | hp
        · exact List.mem_cons_self
        · exact List.mem_cons_of_mem _ hp) (h.2 j hj)⟩

/-- Behind the region: the machine that has nothing of it left. -/
def QG (G : Machine → Prop) (b : Frame) (K : List Item) (cs : List Frame) : Exit → Act → World → Prop
  | .normal, a, w => G (lone (b.atR a K) cs w)
  | _, _, _ => False

theorem QG_out {G : Machine → Prop} {b : Frame} {K : List Item} {cs : List Frame} : ¬ LetsOut (QG G b K cs) := fun ⟨_, _, h⟩ => h

/-- The operations in the order that was drawn. -/
theorem run_ops (C : Ctx) {b : Frame} {K : List Item} {cs : List Frame} {ops : Array Oper} (hnd : noDefer ops = true) : ∀ (l : List Nat) (a : Act) (w : World), wpOps C.P ops (QG C.G b K cs) l a w → C.G (lone (b.atR a (.inRegion ops l :: K)) cs w)
  | [], a, w, h => C.back _ _ stepR_region_end h
  | i :: rest, a, w, h => by
    rw [wpOps_cons] at h
    unfold wpOp at h
    split at h
    · rename_i ho
      have hs := stepR_op_skip (P := C.P) (b := b) (a := a) (k := K) (cs := cs) (w := w) (ops := ops) (i := i) (rest := rest) (by simp [ho])
      simp only [ho, Option.bind_none, Act.put] at hs
      exact C.back _ _ hs (run_ops C hnd rest a w h)
    · rename_i o ho
      split at h
      · rename_i hw
        rcases h with h | ⟨_, hl⟩
        rotate_left
        · exact (QG_out hl).elim
        have hndo : ∀ c, o.op ≠ .defer c := by
          intro c e
          have := Array.all_eq_true_iff_forall_mem.1 hnd o (Array.mem_of_getElem? ho)
          simp [e] at this
        have hfin : ∀ v, (b.atR a (.inRegion ops (i :: rest) :: K)).finish v = b.atR (a.put o.dst v) (.inRegion ops rest :: K) := by
          intro v; rw [Frame.finish_atR, ho]; rfl
        simp only [Oper.wp, Oper.upon] at h
        split at h
        · rename_i v w' hr
          have hst := stepR_op (b := b) (K := K) (cs := cs) (rest := rest) ho hw hndo hr (.inl rfl)
          rw [hfin] at hst
          exact C.back _ _ hst (run_ops C hnd rest _ _ h)
        · rename_i w' hr
          have hst := stepR_op (V := undef) (b := b) (K := K) (cs := cs) (rest := rest) ho hw hndo hr (.inr ⟨rfl, rfl⟩)
          rw [hfin] at hst
          exact C.back _ _ hst (run_ops C hnd rest _ _ h)
        · rename_i d w' hr
          have hd : ({ b.atR a (.inRegion ops (i :: rest) :: K) with defers := d :: a.defers } : Frame).finish undef =
              b.atR ({ a with defers := d :: a.defers }.put o.dst undef) (.inRegion ops rest :: K) := by
            have := Frame.finish_atR b { a with defers := d :: a.defers } ops i rest K undef
            rw [ho] at this; exact this
          refine C.back _ _ (step_lone_go ?_) (run_ops C hnd rest _ _ h)
          rw [stepGR_op ho hw, Oper.semAt_eq _ _ _ hndo]
          simp only [stepG.apply, Sem.runT_eq, hr, GStep.bare_after]
          exact congrArg (fun fr => GStep.go { frame := fr, callers := cs, status := .running, dying := none } w') hd
        · rename_i f args w' hr
          obtain ⟨e, w'', fr, hR, hsteps, _, hleave⟩ := h (b.atR a (.inRegion ops (i :: rest) :: K) :: cs)
          have hst := stepR_callop (b := b) (K := K) (cs := cs) (rest := rest) ho hw hndo hr (.inl ⟨f, args, rfl, rfl⟩)
          cases e with
          | returned v =>
            refine C.back _ _ hst (back_steps C hsteps (C.back _ _ (step_leave_returned hleave) ?_))
            rw [hfin]
            exact run_ops C hnd rest _ _ hR
          | panicked chain => exact hR.elim
          | outgrown => exact (QG_out hR).elim
        · rename_i row args w' hr
          obtain ⟨v, w'', hR, hsteps⟩ := h (b.atR a (.inRegion ops (i :: rest) :: K)) cs
          have henter : step C.P (lone (b.atR a (.inRegion ops (i :: rest) :: K)) cs w) =
              .next (lone (Frame.ofRow C.P row args .normal) (b.atR a (.inRegion ops (i :: rest) :: K) :: cs) w') :=
            step_lone_go (by rw [stepGR_op ho hw, Oper.semAt_eq _ _ _ hndo]; simp [stepG.apply, hr, Frame.atR])
          refine C.back _ _ henter (back_steps C hsteps ?_)
          rw [hfin]
          exact run_ops C hnd rest _ _ hR
        · exact h.elim
        · exact h.elim
      · rename_i hw
        have hs := stepR_op_skip (P := C.P) (b := b) (a := a) (k := K) (cs := cs) (w := w) (ops := ops) (i := i) (rest := rest) (by simp [ho]; simpa using hw)
        rw [ho] at hs
        exact C.back _ _ hs (run_ops C hnd rest _ _ h)

theorem sched_inv {P : Program} {ops : Array Oper} {fuel : Nat} {listed : Array Bool} {d : DT} (h : sched P ops fuel listed = some d) : (match d with
    | .fin => Region.ready .any ops listed = []
    | .tk i o r => ∃ f op, fuel = f + 1 ∧ ops[i]? = some op ∧ compOper P ops op = some o ∧ i ∈ Region.ready .any ops listed ∧ Region.free .any ops listed i = true ∧ o.o.quiet = true ∧ sched P ops f (listed.setIfInBounds i true) = some r
    | .one i o dr r => ∃ f op, fuel = f + 1 ∧ ops[i]? = some op ∧ compOper P ops op = some o ∧ Region.ready .any ops listed = [i] ∧ (dr = [] ∨ dr = anc ops i) ∧ sched P ops f (listed.setIfInBounds i true) = some r
    | .two i o dr r j p dr' s => ∃ f op op', fuel = f + 1 ∧ ops[i]? = some op ∧ ops[j]? = some op' ∧ compOper P ops op = some o ∧ compOper P ops op' = some p ∧ Region.ready .any ops listed = [i, j] ∧ (dr = [] ∨ dr = anc ops i) ∧ (dr' = [] ∨ dr' = anc ops j) ∧
        sched P ops f (listed.setIfInBounds i true) = some r ∧ sched P ops f (listed.setIfInBounds j true) = some s) := by
  cases fuel with
  | zero =>
    simp only [sched] at h
    split at h
    · rename_i h0; cases h; exact h0
    · cases h
  | succ f =>
    simp only [sched] at h
    split at h
    · rename_i h0; cases h; exact h0
    · rename_i i h0
      simp only [Option.pure_def, Option.bind_eq_bind, Option.bind_eq_some_iff, Option.some.injEq] at h
      obtain ⟨op, h1, o, h2, r, h3, rfl⟩ := h
      exact ⟨f, op, rfl, h1, h2, h0, by split; exact .inl rfl; exact .inr rfl, h3⟩
    · rename_i rs hne1 hne2
      split at h
      · rename_i i hf
        simp only [Option.pure_def, Option.bind_eq_bind, Option.bind_eq_some_iff, Option.some.injEq] at h
        obtain ⟨op, h1, o, h2, r, h3, rfl⟩ := h
        have hm := List.mem_of_find?_eq_some hf
        have hp := List.find?_some hf
        simp only [h1, h2, Option.bind_some, Option.map_some, Option.getD_some, Bool.and_eq_true] at hp
        exact ⟨f, op, rfl, h1, h2, hm, hp.2, hp.1, h3⟩
      · split at h
        · rename_i i j h0
          simp only [Option.pure_def, Option.bind_eq_bind, Option.bind_eq_some_iff, Option.some.injEq] at h
          obtain ⟨op, h1, op', h2, o, h3, p, h4, r, h5, s, h6, rfl⟩ := h
          exact ⟨f, op, op', rfl, h1, h2, h3, h4, h0, by split; exact .inl rfl; exact .inr rfl, by split; exact .inl rfl; exact .inr rfl, h5, h6⟩
        · cases h

/-- The region from here on. -/
def DOk (C : Ctx) (fn : Nat) (ro : Option Nat) (N : Nat) (rs : List RP) (env : Env) (d : DT) (k : List It) (defs : List Nat) (r : List FS) (hs : List SO) (T : List (Nat × Nat)) : Prop :=
  ∀ (ops : Array Oper) (fuel : Nat) (listed : Array Bool), sched C.P ops fuel listed = some d → Region.noSelect ops = true → Closed ops listed →
  ∀ (ν : Nu) (w : World) (b : Frame) (a : Act) (K : List Item) (frs : List Frame) (D : Pend), Ext C.ν0 ν → Rel C.P C.w0 C.ν0 ν hs w → FS.Ok C.P ν ⟨fn, ro, N, rs, env, k, defs⟩ (b.atR a K) → fsOk C.P ν r frs → TD ν hs w T D →
  wpAnyD C.P ops (QG C.G b K (frs ++ C.cs)) fuel listed D a w

/-- One operation of the region, then the rest. -/
def StepD (C : Ctx) (fn : Nat) (ro : Option Nat) (N : Nat) (rs : List RP) (env : Env) (o : IOp) (dr : List Nat) (d : DT) (k : List It) (defs : List Nat) (r : List FS) (hs : List SO) (T : List (Nat × Nat)) : Prop :=
  ∀ (ops : Array Oper) (fuel : Nat) (listed : Array Bool) (i : Nat) (op : Oper), ops[i]? = some op → compOper C.P ops op = some o → sched C.P ops fuel (listed.setIfInBounds i true) = some d → Region.noSelect ops = true → Closed ops (listed.setIfInBounds i true) → (dr = [] ∨ dr = anc ops i) →
  ∀ (ν : Nu) (w : World) (b : Frame) (a : Act) (K : List Item) (frs : List Frame) (D : Pend), Ext C.ν0 ν → Rel C.P C.w0 C.ν0 ν hs w → FS.Ok C.P ν ⟨fn, ro, N, rs, env, k, defs⟩ (b.atR a K) → fsOk C.P ν r frs → TD ν hs w T D →
  wpOp C.P ops (QG C.G b K (frs ++ C.cs)) i (fun a' w' => (∀ p ∈ keepD ops i D, p.2 w') ∧ wpAnyD C.P ops (QG C.G b K (frs ++ C.cs)) fuel (listed.setIfInBounds i true) (keepD ops i D) a' w') a w

section
variable {C : Ctx} {fn N : Nat} {ro : Option Nat} {rs : List RP} {env : Env} {k : List It} {defs : List Nat} {r : List FS} {hs : List SO} {T : List (Nat × Nat)}

theorem dok_fin (h : Ok C (⟨fn, ro, N, rs, env, k, defs⟩ :: r) hs) : DOk C fn ro N rs env .fin k defs r hs T := by
  intro ops fuel listed hsc hns hcl ν w b a K frs D hx hr hf hfs htl
  have hr0 := sched_inv hsc
  have hq := h ν w _ frs hx hr ⟨hf, hfs⟩
  cases fuel with
  | zero => exact ⟨hr0, hq⟩
  | succ f => exact ⟨fun _ => hq, by simp only at hr0; rw [hr0]; simp⟩

theorem dok_one {i : Nat} {o : IOp} {dr : List Nat} {d : DT} (h : StepD C fn ro N rs env o dr d k defs r hs T) : DOk C fn ro N rs env (.one i o dr d) k defs r hs T := by
  intro ops fuel listed hsc hns hcl ν w b a K frs D hx hr hf hfs htl
  obtain ⟨f, op, rfl, h1, h2, h3, h5, h4⟩ := sched_inv hsc
  refine ⟨fun h0 => (by rw [h3] at h0; cases h0), fun j hj => ?_⟩
  have hj' := hj
  rw [h3] at hj
  simp only [List.mem_singleton] at hj
  subst hj
  exact h ops f listed _ op h1 h2 h4 hns (closed_set hcl hj') h5 ν w b a K frs D hx hr hf hfs htl

theorem dok_two {i j : Nat} {o p : IOp} {dr dr' : List Nat} {d e : DT} (h : StepD C fn ro N rs env o dr d k defs r hs T) (h' : StepD C fn ro N rs env p dr' e k defs r hs T) : DOk C fn ro N rs env (.two i o dr d j p dr' e) k defs r hs T := by
  intro ops fuel listed hsc hns hcl ν w b a K frs D hx hr hf hfs htl
  obtain ⟨f, op, op', rfl, h1, h1', h2, h2', h3, h5, h5', h4, h4'⟩ := sched_inv hsc
  refine ⟨fun h0 => (by rw [h3] at h0; cases h0), fun l hl => ?_⟩
  have hl' := hl
  rw [h3] at hl
  simp only [List.mem_cons, List.not_mem_nil, or_false] at hl
  rcases hl with rfl | rfl
  · exact h ops f listed _ op h1 h2 h4 hns (closed_set hcl hl') h5 ν w b a K frs D hx hr hf hfs htl
  · exact h' ops f listed _ op' h1' h2' h4' hns (closed_set hcl hl') h5' ν w b a K frs D hx hr hf hfs htl

theorem closed_none (ops : Array Oper) (n : Nat) : Closed ops (Array.replicate n false) := by
  intro k o _ hk
  exfalso
  simp only [Array.getD_eq_getD_getElem?, Array.getElem?_replicate] at hk
  split at hk <;> simp at hk

theorem ok_dreg {d : DT} (h : DOk C fn ro N rs env d k defs r hs []) : Ok C (⟨fn, ro, N, rs, env, .c (.dreg d) :: k, defs⟩ :: r) hs := by
  intro ν w fr frs hx hr hf
  obtain ⟨h1, h2⟩ := hf
  obtain ⟨co, K', hK, hcc, hk⟩ := todo_code h1.todo
  have hi := comp_inv hcc
  cases co <;> simp only at hi
  rename_i id ops dr
  obtain ⟨rfl, i1, i2, i3, i4⟩ := hi
  have hat := h1.atR
  rw [hK] at hat
  have hst := stepR_region_draw (P := C.P) (b := fr) (a := ⟨fr.tmps, fr.defers⟩) (k := K') (cs := frs ++ C.cs) (w := w) (ops := ops) (id := id)
  rw [← hat] at hst
  refine C.back _ _ hst ?_
  have hw := h ops ops.size (Array.replicate ops.size false) i4 i2 (closed_none _ _) ν { w with drawn := w.drawn + 1 } fr ⟨fr.tmps, fr.defers⟩ K' frs [] hx (hr.drawn _) (h1.put (Ext.refl _) h1.env hk h1.defs) h2 (fun p hp => by cases hp)
  have hany := wpAny_of_D _ _ _ _ _ hw
  refine run_ops C i3 _ _ _ ?_
  rw [show Region.schedule (C.P.follows .mixedOrders) ops (w.tape w.drawn (.order fr.fn id)) = Region.linearise .any ops (w.tape w.drawn (.order fr.fn id)) by simp [Region.schedule, i1]]
  exact wpAny_sound _ _ _ _ _ hany

/-- `d` gets `x`; on with the rest of the region. -/
def nextD (C : Ctx) (fn : Nat) (ro : Option Nat) (N : Nat) (rs : List RP) (env : Env) (d : DT) (k : List It) (defs : List Nat) (r : List FS) (T : List (Nat × Nat)) (x : SV) (hs : List SO) (dst : Option Nat) : Prop :=
  match putE N dst x env with
  | some env' => DOk C fn ro N rs env' d k defs r hs T
  | none => False

/-- `T` is what is left behind this operation. -/
def resD (C : Ctx) (fn : Nat) (ro : Option Nat) (N : Nat) (rs : List RP) (env : Env) (d : DT) (k : List It) (defs : List Nat) (r : List FS) (hs : List SO) (T : List (Nat × Nat)) (dst : Option Nat) : Res → Prop
  | .v p x => p ∧ nextD C fn ro N rs env d k defs r T x hs dst
  | .n p x hs' => p ∧ keepT hs hs' T ∧ nextD C fn ro N rs env d k defs r T x hs' dst
  | .u p hs' => p ∧ keepT hs hs' T ∧ nextD C fn ro N rs env d k defs r T (.tup []) hs' dst
  | .ap p need cap x hs' f => p ∧ (need ≤ cap → keepT hs hs' T ∧ nextD C fn ro N rs env d k defs r T x hs' dst) ∧ (cap < need → ∀ c, need ≤ c → keepT hs (f c).2 T ∧ nextD C fn ro N rs env d k defs r T (f c).1 (f c).2 dst)
  | .call _ _ => False
  | .no => False

theorem keepT_refl (hs : List SO) : ∀ T, keepT hs hs T
  | [] => trivial
  | (_, _) :: r => ⟨rfl, keepT_refl hs r⟩

/-- The step's end: a value, a world. -/
theorem next_d {ν ν' : Nu} {w' : World} {hs' : List SO} {o : IOp} {d : DT} {ops : Array Oper} {fuel : Nat} {listed : Array Bool} {op : Oper} {b : Frame} {a : Act} {K : List Item} {frs : List Frame} {D' : Pend} {T' : List (Nat × Nat)} {x : SV} {V : Value}
    (hd : o.d = op.dst) (h : nextD C fn ro N rs env d k defs r T' x hs' o.d) (hsc : sched C.P ops fuel listed = some d) (hns : Region.noSelect ops = true) (hcl : Closed ops listed) (hx : Ext C.ν0 ν) (hf : FS.Ok C.P ν ⟨fn, ro, N, rs, env, k, defs⟩ (b.atR a K))
    (hfs : fsOk C.P ν r frs) (hx' : Ext ν ν') (hr' : Rel C.P C.w0 C.ν0 ν' hs' w') (htd : TD ν' hs' w' T' D') (hV : x.den ν' = some V) :
    wpAnyD C.P ops (QG C.G b K (frs ++ C.cs)) fuel listed D' (a.put op.dst V) w' := by
  unfold nextD at h
  split at h
  · rename_i env' hp
    refine h ops fuel listed hsc hns hcl ν' w' b (a.put op.dst V) K frs D' (hx.trans hx') hr' ?_ (fsOk_ext hx' hfs) htd
    have hf' := hf.ext hx'
    rw [hd] at hp
    exact ⟨hf.fn, putE_ok hf'.env hp hV, hf'.todo, by rw [show (b.atR (a.put op.dst V) K).defers = (a.put op.dst V).defers from rfl, put_defers]; exact hf'.defs, rfl, hf.kind, hf'.ro, hf.rs⟩
  · exact h.elim

theorem stepD_skip {o : IOp} {dr : List Nat} {d : DT} (hg : wantG o.g env = some false) (h : nextD C fn ro N rs env d k defs r (cutT dr T) (.tup []) hs o.d) : StepD C fn ro N rs env o dr d k defs r hs T := by
  intro ops fuel listed i op ho hc hsc hns hcl hdr ν w b a K frs D hx hr hf hfs htl
  have hw := wantG_ok (a := a) hf.env hc hg
  unfold wpOp
  simp only [ho]
  rw [if_neg (by rw [hw]; simp)]
  have htl' := htl.step hr hr (Ext.refl _) hdr (keepT_refl _ _)
  exact ⟨htl'.now, next_d (compOper_inv hc).1 h hsc hns hcl hx hf hfs (Ext.refl _) hr htl' rfl⟩

theorem stepD_res {o : IOp} {dr : List Nat} {d : DT} (hg : wantG o.g env = some true) (h : resD C fn ro N rs env d k defs r hs (cutT dr T) o.d (evR o.o env hs)) : StepD C fn ro N rs env o dr d k defs r hs T := by
  intro ops fuel listed i op ho hc hsc hns hcl hdr ν w b a K frs D hx hr hf hfs htl
  have hw := wantG_ok (a := a) hf.env hc hg
  obtain ⟨hd, hcb⟩ := compOper_inv hc
  rcases hcb with hcc | hbad
  rotate_left
  · rw [hbad, evR_bad] at h; exact h.elim
  have hdo := op_ok (a := a) hr hf.env hcc
  unfold wpOp
  simp only [ho]
  rw [if_pos hw]
  left
  have fin : ∀ x hs', keepT hs hs' (cutT dr T) → nextD C fn ro N rs env d k defs r (cutT dr T) x hs' o.d → DoesN C.P C.w0 C.ν0 ν x hs' ((execOp a.eval op).run C.P w) →
      op.wp C.P a w (fun a' w' => (∀ p ∈ keepD ops i D, p.2 w') ∧ wpAnyD C.P ops (QG C.G b K (frs ++ C.cs)) fuel (listed.setIfInBounds i true) (keepD ops i D) a' w') (QG C.G b K (frs ++ C.cs)) := by
    intro x hs' hk hn ⟨V, w', ν', e1, e2, e3, e4⟩
    unfold Oper.wp
    rw [e4]
    have htl' := htl.step hr e2 e1 hdr hk
    exact ⟨htl'.now, next_d hd hn hsc hns hcl hx hf hfs e1 e2 htl' e3⟩
  have finU : ∀ hs', keepT hs hs' (cutT dr T) → nextD C fn ro N rs env d k defs r (cutT dr T) (.tup []) hs' o.d → DoesU C.P C.w0 C.ν0 ν hs' ((execOp a.eval op).run C.P w) →
      op.wp C.P a w (fun a' w' => (∀ p ∈ keepD ops i D, p.2 w') ∧ wpAnyD C.P ops (QG C.G b K (frs ++ C.cs)) fuel (listed.setIfInBounds i true) (keepD ops i D) a' w') (QG C.G b K (frs ++ C.cs)) := by
    intro hs' hk hn ⟨w', e2, e4⟩
    unfold Oper.wp
    rw [e4]
    have htl' := htl.step hr e2 (Ext.refl _) hdr hk
    exact ⟨htl'.now, next_d (V := undef) hd hn hsc hns hcl hx hf hfs (Ext.refl _) e2 htl' rfl⟩
  cases hv : evR o.o env hs with
  | v p x => rw [hv] at h hdo; exact fin x hs (keepT_refl _ _) h.2 (hdo h.1)
  | n p x hs' => rw [hv] at h hdo; exact fin x hs' h.2.1 h.2.2 (hdo h.1)
  | u p hs' => rw [hv] at h hdo; exact finU hs' h.2.1 h.2.2 (hdo h.1)
  | ap p need cap x hs' f =>
    rw [hv] at h hdo
    obtain ⟨hp, ha, hb⟩ := h
    rcases hdo hp with ⟨hle, h⟩ | ⟨hlt, c, hc', h⟩
    · exact fin x hs' (ha hle).1 (ha hle).2 h
    · exact fin _ _ (hb hlt c hc').1 (hb hlt c hc').2 h
  | call f as => rw [hv] at h; exact h.elim
  | no => rw [hv] at h; exact h.elim

theorem stepD_spec {o : IOp} {dr : List Nat} {d : DT} (hg : wantG o.g env = some true) {f : Nat} {caps as : List SV} (hev : evR o.o env hs = .call (.fn f caps) as) {c : FnC} (hF : FnOk C.P f c) (σ : List Nat) {asF : List SV} {hsF : List SO} {Q : SV → List SO → Prop}
    (hS : Spec C.P f asF hsF Q) (has : rens σ asF = as ++ caps) (hab : bnds hsF.length asF = true) (h : hsLe σ hs σ hsF) (hb : hsF.all (SO.bnd hsF.length) = true) (hnd : σ.Nodup)
    (Kn : ∀ x hs', Q x hs' → keepT hs (updO (extS σ hs.length hs'.length) σ hs' hs) (cutT dr T) ∧ nextD C fn ro N rs env d k defs r (cutT dr T) (x.ren (extS σ hs.length hs'.length)) (updO (extS σ hs.length hs'.length) σ hs' hs) o.d) :
    StepD C fn ro N rs env o dr d k defs r hs T := by
  intro ops fuel listed i op ho hc hsc hns hcl hdr ν w b a K frs D hx hr hf hfs htl
  have hw := wantG_ok (a := a) hf.env hc hg
  unfold wpOp
  simp only [ho]
  rw [if_pos hw]
  left
  obtain ⟨hnd', hall, X, As, e1, e2, hrun⟩ := call_setup (a := a) hf.env hc hev w
  simp only [SV.den, Option.map_eq_some_iff] at e1
  obtain ⟨Cs, e3, rfl⟩ := e1
  have hrun2 : (execOp a.eval op).run C.P w = .ok (.enter f (As ++ Cs.toArray)) w := by
    rw [hrun]
    simp only [Deferred.ofValue, pure_bind, invoke, Array.empty_append]
    exact run_callFunc hF _ w
  unfold Oper.wp
  rw [hrun2]
  have hback : ∀ i, i < hsF.length → (pickN ν σ)[i]? = ν[σ.getD i 0]? := fun i hi => (pickN_at hr h i hi).1
  have hd : dens (pickN ν σ) asF = some (As.toList ++ Cs) := by
    rw [← dens_back hback asF hab, has]
    exact dens_append _ _ _ _ e2 e3
  have hcall := hS.ok (pickN ν σ) w _ (rel_self (rel_pick hr h hb hnd)) hd
  have e5 : (As.toList ++ Cs).toArray = As ++ Cs.toArray := by rw [← Array.toList_inj]; simp
  rw [e5] at hcall
  refine Calls.mono hcall fun e w' he => ?_
  obtain ⟨v, rfl, ν', x, hs', p1, p2, p3, p4⟩ := he
  obtain ⟨ν'', m1, m2, m3⟩ := rel_call hr h hnd p1 p2
  obtain ⟨k1, k2⟩ := Kn x hs' p4
  have htl' := htl.step hr m3 m1 hdr k1
  exact ⟨htl'.now, next_d (compOper_inv hc).1 k2 hsc hns hcl hx hf hfs m1 m3 htl' (den_ren m2 _ _ p3)⟩

def addT (hs : List SO) (T : List (Nat × Nat)) (i : Nat) : Option Nat → Option (List (Nat × Nat))
  | none => some T
  | some t => match hs[t]? with
    | some (.cells ..) => some ((i, t) :: T)
    | _ => none

theorem dok_tk_aux {i : Nat} {op : Oper} {S : World → Prop} {v : Value} {ops : Array Oper} {f : Nat} {listed : Array Bool} {b : Frame} {a : Act} {K : List Item} {cs : List Frame} {D : Pend} {w : World} (h1 : ops[i]? = some op) (hns : Region.noSelect ops = true) (h3 : i ∈ Region.ready .any ops listed) (h4 : Region.free .any ops listed i = true)
    (hcl : Closed ops listed) (hy : YieldsIf C.P ops S op v a) (hS : S w) (hD : ∀ p ∈ D, p.2 w) (H : wpAnyD C.P ops (QG C.G b K cs) f (listed.setIfInBounds i true) ((i, S) :: D) (a.put op.dst v) w) :
    wpAnyD C.P ops (QG C.G b K cs) (f + 1) listed D a w :=
  wpAnyD_first h1 (Region.noSelect_spec hns) (fun _ _ _ h => h.elim) f listed D a w (Region.free_spec h1 h4) h3 hcl hy hS hD H

theorem dok_tk_skip {i : Nat} {o : IOp} {d : DT} (hg : wantG o.g env = some false) (h : nextD C fn ro N rs env d k defs r T (.tup []) hs o.d) : DOk C fn ro N rs env (.tk i o d) k defs r hs T := by
  intro ops fuel listed hsc hns hcl ν w b a K frs D hx hr hf hfs htl
  obtain ⟨f, op, rfl, h1, h2, h3, h4, h5, h6⟩ := sched_inv hsc
  have hw := wantG_ok (a := a) hf.env h2 hg
  have hy : YieldsIf C.P ops (fun _ => True) op undef a := .inr ⟨hw, rfl⟩
  refine dok_tk_aux h1 hns h3 h4 hcl hy trivial htl.now ?_
  -- a thing that hangs on nothing
  refine wpAnyD_triv _ _ _ _ _ (fun _ => trivial) ?_
  exact next_d (compOper_inv h2).1 h h6 hns (closed_set hcl h3) hx hf hfs (Ext.refl _) hr htl (V := undef) rfl

theorem dok_tk {i : Nat} {o : IOp} {d : DT} (hg : wantG o.g env = some true) {p : Prop} {x : SV} (hv : evR o.o env hs = .v p x) (hp : p) {T' : List (Nat × Nat)} (hT : addT hs T i (tagQ o.o env) = some T')
    (h : nextD C fn ro N rs env d k defs r T' x hs o.d) : DOk C fn ro N rs env (.tk i o d) k defs r hs T := by
  intro ops fuel listed hsc hns hcl ν w b a K frs D hx hr hf hfs htl
  obtain ⟨f, op, rfl, h1, h2, h3, h4, h5, h6⟩ := sched_inv hsc
  have hw := wantG_ok (a := a) hf.env h2 hg
  obtain ⟨hd, hcb⟩ := compOper_inv h2
  rcases hcb with hcc | hbad
  rotate_left
  · rw [hbad, evR_bad] at hv; cases hv
  have hvq : evQ o.o env hs = .v p x := by
    unfold evR at hv
    rw [h5] at hv
    simp only at hv
    split at hv
    · rename_i p' x' hq
      cases hv
      exact hq
    · cases hv
  have key : ∀ (S : World → Prop), S w → (∀ w', S w' → Look C.P ν hs (fun t => tagQ o.o env = some t) w') → ∃ V, x.den ν = some V ∧ YieldsIf C.P ops S op V a := by
    intro S hS hlook
    obtain ⟨V, v1, v2⟩ := quiet_ok (a := a) hf.env hcc (hlook w hS) (fun t ht => ht) hvq hp
    refine ⟨V, v1, .inl ⟨hw, fun w' hw' => ?_⟩⟩
    obtain ⟨V', v1', v2'⟩ := quiet_ok (a := a) hf.env hcc (hlook w' hw') (fun t ht => ht) hvq hp
    rw [v1] at v1'; cases v1'
    exact v2'
  cases ht : tagQ o.o env with
  | none =>
    rw [ht] at hT
    cases hT
    obtain ⟨V, v1, hy⟩ := key (fun _ => True) trivial (fun w' _ => ⟨fun t _ h => by rw [ht] at h; cases h⟩)
    exact dok_tk_aux h1 hns h3 h4 hcl hy trivial htl.now (wpAnyD_triv _ _ _ _ _ (fun _ => trivial) (next_d hd h h6 hns (closed_set hcl h3) hx hf hfs (Ext.refl _) hr htl v1))
  | some t =>
    rw [ht] at hT
    simp only [addT] at hT
    split at hT
    · rename_i cs ty fa fb hh
      cases hT
      obtain ⟨bl, O, q1, q2, q3⟩ := hr.at_ hh
      obtain ⟨V, v1, hy⟩ := key (fun w' => w'.heap[bl]? = some O) q3 (fun w' hw' => ⟨fun t' o' ht' ho' => by
        rw [ht] at ht'; cases ht'
        rw [hh] at ho'; cases ho'
        exact ⟨bl, O, q1, q2, hw'⟩⟩)
      refine dok_tk_aux h1 hns h3 h4 hcl hy q3 htl.now (next_d hd h h6 hns (closed_set hcl h3) hx hf hfs (Ext.refl _) hr ?_ v1)
      intro p hp
      cases hp with
      | head => exact ⟨t, bl, O, List.mem_cons_self, q1, ⟨cs, ty, fa, fb, hh⟩, q3, fun _ h => h⟩
      | tail _ hp =>
        obtain ⟨t', b', O', m1, m2⟩ := htl p hp
        exact ⟨t', b', O', List.mem_cons_of_mem _ m1, m2⟩
    · cases hT
end

/-! ### As a proposition that comes out by unfolding -/
def dnx (D : Env → List SO → List (Nat × Nat) → Prop) (N : Nat) (env : Env) (hs : List SO) (T : List (Nat × Nat)) (x : SV) : Option Nat → Prop
  | none => D env hs T
  | some d => d < N ∧ D ((d, x) :: env) hs T
def dtk2 (D : Env → List SO → List (Nat × Nat) → Prop) (stop : Prop) (N : Nat) (env : Env) (hs : List SO) (dst : Option Nat) (p : Prop) (x : SV) : Option (List (Nat × Nat)) → Prop
  | some T => p ∧ dnx D N env hs T x dst
  | none => stop
def dtk1 (D : Env → List SO → List (Nat × Nat) → Prop) (stop : Prop) (N : Nat) (env : Env) (hs : List SO) (dst : Option Nat) (T : Option (List (Nat × Nat))) : Res → Prop
  | .v p x => dtk2 D stop N env hs dst p x T
  | .n _ _ _ => stop
  | .u _ _ => stop
  | .ap _ _ _ _ _ _ => stop
  | .call _ _ => stop
  | .no => stop
def dtkG (D : Env → List SO → List (Nat × Nat) → Prop) (stop : Prop) (N : Nat) (env : Env) (hs : List SO) (T : List (Nat × Nat)) (i : Nat) (o : IOp) : Option Bool → Prop
  | some true => dtk1 D stop N env hs o.d (addT hs T i (tagQ o.o env)) (evR o.o env hs)
  | some false => dnx D N env hs T (.tup []) o.d
  | none => stop
def don1 (D : Env → List SO → List (Nat × Nat) → Prop) (stop : Prop) (N : Nat) (env : Env) (hs : List SO) (T : List (Nat × Nat)) (dst : Option Nat) : Res → Prop
  | .v p x => p ∧ dnx D N env hs T x dst
  | .n p x hs' => p ∧ keepT hs hs' T ∧ dnx D N env hs' T x dst
  | .u p hs' => p ∧ keepT hs hs' T ∧ dnx D N env hs' T (.tup []) dst
  | .ap p need cap x hs' f => p ∧ (if need ≤ cap then keepT hs hs' T ∧ dnx D N env hs' T x dst else ∀ c, need ≤ c → keepT hs (f c).2 T ∧ dnx D N env (f c).2 T (f c).1 dst)
  | .call _ _ => stop
  | .no => stop
def donG (D : Env → List SO → List (Nat × Nat) → Prop) (stop : Prop) (N : Nat) (env : Env) (hs : List SO) (T : List (Nat × Nat)) (o : IOp) : Option Bool → Prop
  | some true => don1 D stop N env hs T o.d (evR o.o env hs)
  | some false => dnx D N env hs T (.tup []) o.d
  | none => stop

def dvc (K : List FS → List SO → Prop) (C : Ctx) (fn : Nat) (ro : Option Nat) (N : Nat) (rs : List RP) (k : List It) (defs : List Nat) (r : List FS) : DT → Env → List SO → List (Nat × Nat) → Prop
  | .fin, env, hs, _ => K (⟨fn, ro, N, rs, env, k, defs⟩ :: r) hs
  | .tk i o d, env, hs, T => dtkG (dvc K C fn ro N rs k defs r d) (DOk C fn ro N rs env (.tk i o d) k defs r hs T) N env hs T i o (wantG o.g env)
  | .one i o dr d, env, hs, T => donG (dvc K C fn ro N rs k defs r d) (DOk C fn ro N rs env (.one i o dr d) k defs r hs T) N env hs (cutT dr T) o (wantG o.g env)
  | .two i o dr d j p dr' e, env, hs, T => donG (dvc K C fn ro N rs k defs r d) (StepD C fn ro N rs env o dr d k defs r hs T) N env hs (cutT dr T) o (wantG o.g env) ∧
      donG (dvc K C fn ro N rs k defs r e) (StepD C fn ro N rs env p dr' e k defs r hs T) N env hs (cutT dr' T) p (wantG p.g env)

section
variable {C : Ctx} {fn N : Nat} {ro : Option Nat} {rs : List RP} {env : Env} {k : List It} {defs : List Nat} {r : List FS} {hs : List SO} {T : List (Nat × Nat)}

theorem dnx_ok {d : DT} {D : Env → List SO → List (Nat × Nat) → Prop} (hD : ∀ env hs T, D env hs T → DOk C fn ro N rs env d k defs r hs T) {x : SV} {dst : Option Nat} (h : dnx D N env hs T x dst) : nextD C fn ro N rs env d k defs r T x hs dst := by
  unfold nextD putE
  cases dst with
  | none => exact hD _ _ _ h
  | some n =>
    simp only [dnx] at h
    simp only [h.1, if_true]
    exact hD _ _ _ h.2

theorem donG_ok {o : IOp} {dr : List Nat} {d : DT} {D : Env → List SO → List (Nat × Nat) → Prop} (hD : ∀ env hs T, D env hs T → DOk C fn ro N rs env d k defs r hs T) {stop : Prop} (h : donG D stop N env hs (cutT dr T) o (wantG o.g env)) : stop ∨ StepD C fn ro N rs env o dr d k defs r hs T := by
  cases hg : wantG o.g env with
  | none => rw [hg] at h; exact .inl h
  | some b =>
    rw [hg] at h
    cases b with
    | false => exact .inr (stepD_skip hg (dnx_ok hD h))
    | true =>
      simp only [donG] at h
      cases hv : evR o.o env hs with
      | v p x => rw [hv] at h; exact .inr (stepD_res hg (by rw [hv]; exact ⟨h.1, dnx_ok hD h.2⟩))
      | n p x hs' => rw [hv] at h; exact .inr (stepD_res hg (by rw [hv]; exact ⟨h.1, h.2.1, dnx_ok hD h.2.2⟩))
      | u p hs' => rw [hv] at h; exact .inr (stepD_res hg (by rw [hv]; exact ⟨h.1, h.2.1, dnx_ok hD h.2.2⟩))
      | ap p need cap x hs' f =>
        rw [hv] at h
        refine .inr (stepD_res hg (by
          rw [hv]
          refine ⟨h.1, fun hle => ?_, fun hlt c hc => ?_⟩
          · have := h.2; rw [if_pos hle] at this; exact ⟨this.1, dnx_ok hD this.2⟩
          · have := h.2; rw [if_neg (by omega)] at this; exact ⟨(this c hc).1, dnx_ok hD (this c hc).2⟩))
      | call f as => rw [hv] at h; exact .inl h
      | no => rw [hv] at h; exact .inl h

theorem dvc_ok {K : List FS → List SO → Prop} (hK : ∀ f h, K f h → Ok C f h) : ∀ (d : DT) (env : Env) (hs : List SO) (T : List (Nat × Nat)), dvc K C fn ro N rs k defs r d env hs T → DOk C fn ro N rs env d k defs r hs T
  | .fin, env, hs, T, h => dok_fin (hK _ _ h)
  | .tk i o d, env, hs, T, h => by
    have ih := dvc_ok hK d
    simp only [dvc] at h
    cases hg : wantG o.g env with
    | none => rw [hg] at h; exact h
    | some b =>
      rw [hg] at h
      cases b with
      | false => exact dok_tk_skip hg (dnx_ok ih h)
      | true =>
        simp only [dtkG] at h
        cases hv : evR o.o env hs with
        | v p x =>
          rw [hv] at h
          simp only [dtk1] at h
          cases hT : addT hs T i (tagQ o.o env) with
          | none => rw [hT] at h; exact h
          | some T' => rw [hT] at h; exact dok_tk hg hv h.1 hT (dnx_ok ih h.2)
        | _ => rw [hv] at h; exact h
  | .one i o dr d, env, hs, T, h => by
    rcases donG_ok (dvc_ok hK d) h with h | h
    · exact h
    · exact dok_one h
  | .two i o dr d j p dr' e, env, hs, T, h => by
    obtain ⟨h1, h2⟩ := h
    refine dok_two ?_ ?_
    · rcases donG_ok (dvc_ok hK d) h1 with h | h <;> exact h
    · rcases donG_ok (dvc_ok hK e) h2 with h | h <;> exact h
end
end Go.Pv
