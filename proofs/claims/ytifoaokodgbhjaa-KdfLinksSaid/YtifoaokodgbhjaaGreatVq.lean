/- Contracts by tags: what a function does with the memory it is handed. -/
import Derived.Test.YtifoaokodgbhjaaGreatVp
namespace Go.Pv
open Go

/-- What comes out of a call that began at `w` with `ν` as the tags: by tags, `Q`. -/
def Post (P : Program) (w : World) (ν : Nu) (Q : SV → List SO → Prop) (e : Ending) (w' : World) : Prop :=
  ∃ v, e = .returned v ∧ ∃ ν' x hs', Ext ν ν' ∧ Rel P w ν ν' hs' w' ∧ x.den ν' = some v ∧ Q x hs'

structure Spec (P : Program) (f : Nat) (as : List SV) (hs : List SO) (Q : SV → List SO → Prop) : Prop where
  one : as.all SV.one = true
  ok : ∀ (ν : Nu) (w : World) (As : List Value), Rel P w ν ν hs w → dens ν as = some As → Calls P f As.toArray w (Post P w ν Q)

theorem Spec.mono {P : Program} {f : Nat} {as : List SV} {hs : List SO} {Q Q' : SV → List SO → Prop} (h : Spec P f as hs Q) (hq : ∀ x hs', Q x hs' → Q' x hs') : Spec P f as hs Q' :=
  ⟨h.one, fun ν w As hr hd => Calls.mono (h.ok ν w As hr hd) fun _ _ ⟨v, h1, ν', x, hs', h2, h3, h4, h5⟩ => ⟨v, h1, ν', x, hs', h2, h3, h4, hq _ _ h5⟩⟩

/-- A contract from the walk. -/
theorem spec_of_ok {P : Program} {f : Nat} {c : FnC} (hF : FnOk P f c) {as : List SV} {hs : List SO} {Q : SV → List SO → Prop} (h1 : as.all SV.one = true) (hn : as.length ≤ c.N)
    (h : ∀ C : Ctx, C.P = P → C.f = f → C.Q = Q → C.ν0.length = hs.length → Ok C [FS.start f c as] hs) : Spec P f as hs Q := by
  refine ⟨h1, fun ν w As hr hd cs => ?_⟩
  let C : Ctx := {
    P := P, w0 := w, ν0 := ν, cs := cs, f := f, Q := Q
    G := fun m => ∃ v w' fr, (∃ (ν' : Nu) (x : SV) (hs' : List SO), Ext ν ν' ∧ Rel P w ν ν' hs' w' ∧ x.den ν' = some v ∧ Q x hs') ∧ Steps P m (lone fr cs w') ∧ fr.fn = f ∧ fr.leaving P w' (.returned v)
    back := fun m m' hs ⟨v, w', fr, a1, a2, a3, a4⟩ => ⟨v, w', fr, a1, .head hs a2, a3, a4⟩
    fin := fun fr w' v ν' x hs' a1 a2 a3 a4 a5 a6 => ⟨v, w', fr, ⟨ν', x, hs', a3, a4, a5, a6⟩, .refl _ _, a1, a2⟩ }
  obtain ⟨v, w', fr, a1, a2, a3, a4⟩ := h C rfl rfl rfl hr.len ν w (Frame.enter P f As.toArray .normal) [] (Ext.refl _) hr ⟨start_ok hF h1 hd hn, trivial⟩
  obtain ⟨ν', x, hs', b1, b2, b3, b4⟩ := a1
  exact ⟨.returned v, w', fr, ⟨v, rfl, ν', x, hs', b1, b2, b3, b4⟩, a2, a3, a4⟩

/-- The tags of the callee in the caller: the handed ones, then new ones. -/
def extS (σ : List Nat) (m n : Nat) : List Nat := σ ++ List.range' m (n - σ.length)

/-- The caller's memory behind the call. -/
def updO (σ' : List Nat) : List Nat → List SO → List SO → List SO
  | s :: σ, o :: hs', H => updO σ' σ hs' (H.set s (o.ren σ'))
  | [], hs', H => H ++ hs'.map (SO.ren σ')
  | _ :: _, [], H => H

theorem updO_at (σ' : List Nat) : ∀ (σ : List Nat) (hs' H : List SO), σ.length ≤ hs'.length → σ.Nodup → (∀ s ∈ σ, s < H.length) →
    (∀ (i s : Nat), σ[i]? = some s → (updO σ' σ hs' H)[s]? = (hs'[i]?).map (SO.ren σ')) ∧ (∀ t, t < H.length → t ∉ σ → (updO σ' σ hs' H)[t]? = H[t]?) ∧
    (∀ j, (updO σ' σ hs' H)[H.length + j]? = (hs'[σ.length + j]?).map (SO.ren σ')) ∧ (updO σ' σ hs' H).length = H.length + (hs'.length - σ.length)
  | [], hs', H, _, _, _ => by
    refine ⟨fun i s h => by simp at h, fun t ht _ => ?_, fun j => ?_, by simp [updO]⟩
    · simp only [updO]; rw [List.getElem?_append_left ht]
    · simp only [updO]; rw [List.getElem?_append_right (by omega)]; simp
  | s :: σ, [], H, h, _, _ => by simp at h
  | s :: σ, o :: hs', H, hl, hnd, hlt => by
    obtain ⟨n1, n2⟩ := List.nodup_cons.1 hnd
    obtain ⟨a1, a2, a3, a4⟩ := updO_at σ' σ hs' (H.set s (o.ren σ')) (by simpa using hl) n2 (fun t ht => by simpa using hlt t (List.mem_cons_of_mem _ ht))
    have hs0 := hlt s List.mem_cons_self
    refine ⟨fun i t ht => ?_, fun t ht hni => ?_, fun j => ?_, ?_⟩
    · cases i with
      | zero =>
        simp at ht; subst ht
        simp only [updO]
        rw [a2 s (by simpa using hs0) n1, List.getElem?_set_self hs0]
        rfl
      | succ i => simp only [updO]; exact a1 i t (by simpa using ht)
    · simp only [updO]
      rw [a2 t (by simpa using ht) (fun h => hni (List.mem_cons_of_mem _ h)), List.getElem?_set_ne (fun e : s = t => hni (by rw [e]; exact List.mem_cons_self))]
    · simp only [updO]
      have := a3 j
      simp only [List.length_set] at this
      rw [this, List.length_cons, show σ.length + 1 + j = σ.length + j + 1 by omega]
      rfl
    · simp only [updO]; rw [a4]; simp

theorem hsLe_get {σ : List Nat} {hs : List SO} : ∀ (τ : List Nat) (hs' : List SO), hsLe σ hs τ hs' → ∀ s ∈ τ, s < hs.length
  | [], [], _, s, h => by cases h
  | [], _ :: _, e, _, _ => e.elim
  | _ :: _, [], e, _, _ => e.elim
  | t :: r, o' :: hs', ⟨h1, h⟩, s, hm => by
    cases hm with
    | head => exact (List.getElem?_eq_some_iff.1 h1).1
    | tail _ hm => exact hsLe_get r hs' h s hm

/-- The caller's memory behind a call that kept its contract. -/
theorem rel_call {P : Program} {w0 w w' : World} {ν0 ν ν' : Nu} {hs hsF hs' : List SO} {σ : List Nat} (rel : Rel P w0 ν0 ν hs w) (h : hsLe σ hs σ hsF) (hnd : σ.Nodup)
    (hx : Ext (pickN ν σ) ν') (rel' : Rel P w (pickN ν σ) ν' hs' w') :
    ∃ ν'', Ext ν ν'' ∧ Maps (extS σ hs.length hs'.length) ν' ν'' ∧ Rel P w0 ν0 ν'' (updO (extS σ hs.length hs'.length) σ hs' hs) w' := by
  have hlen := hsLe_len σ hsF h
  have hpl : (pickN ν σ).length = σ.length := by simp [pickN]
  have hσlt := hsLe_get σ hsF h
  -- the handed blocks
  have hpick : ∀ (i s : Nat), σ[i]? = some s → ∃ b, ν[s]? = some b ∧ (pickN ν σ)[i]? = some b ∧ ν'[i]? = some b := by
    intro i s hi
    have hi' : i < hsF.length := by rw [← hlen]; exact (List.getElem?_eq_some_iff.1 hi).1
    obtain ⟨_, s', b, q1, q2, q3⟩ := pickN_at rel h i hi'
    rw [hi] at q1; cases q1
    exact ⟨b, q2, q3, hx _ _ q3⟩
  have hmem : ∀ b, b ∈ pickN ν σ → ∃ (i s : Nat), σ[i]? = some s ∧ ν[s]? = some b ∧ ν'[i]? = some b := by
    intro b hb
    obtain ⟨i, hi, e⟩ := List.getElem_of_mem hb
    have hi' : i < σ.length := by rw [← hpl]; exact hi
    obtain ⟨b', q1, q2, q3⟩ := hpick i σ[i] (List.getElem?_eq_getElem hi')
    rw [List.getElem?_eq_getElem hi, e] at q2
    cases q2
    exact ⟨i, _, List.getElem?_eq_getElem hi', q1, q3⟩
  have hl' : σ.length ≤ hs'.length := by
    rw [← rel'.len]
    rcases Nat.lt_or_ge ν'.length σ.length with hc | hc
    · exfalso
      have hi : ν'.length < σ.length := hc
      obtain ⟨b, _, _, q3⟩ := hpick ν'.length σ[ν'.length] (List.getElem?_eq_getElem hi)
      simp at q3
    · exact hc
  obtain ⟨u1, u2, u3, u4⟩ := updO_at (extS σ hs.length hs'.length) σ hs' hs hl' hnd hσlt
  let ν'' : Nu := ν ++ ν'.drop σ.length
  have hxx : Ext ν ν'' := Ext.app _ _
  have hnew : ∀ j, ν''[hs.length + j]? = ν'[σ.length + j]? := by
    intro j
    show (ν ++ ν'.drop σ.length)[hs.length + j]? = _
    rw [List.getElem?_append_right (by rw [rel.len]; omega), rel.len, List.getElem?_drop]
    congr 1; omega
  have hsplit : ∀ t b, ν''[t]? = some b → (t < hs.length ∧ ν[t]? = some b) ∨ ∃ j, t = hs.length + j ∧ ν'[σ.length + j]? = some b := by
    intro t b ht
    rcases Nat.lt_or_ge t hs.length with hc | hc
    · left
      refine ⟨hc, ?_⟩
      have : (ν ++ ν'.drop σ.length)[t]? = some b := ht
      rwa [List.getElem?_append_left (by rw [rel.len]; exact hc)] at this
    · right
      refine ⟨t - hs.length, by omega, ?_⟩
      rw [← hnew, show hs.length + (t - hs.length) = t by omega]
      exact ht
  -- a new block is above
  have habove : ∀ j b, ν'[σ.length + j]? = some b → w.heap.size ≤ b := by
    intro j b hb
    rcases rel'.new _ _ hb with hm | hm
    · obtain ⟨i, s, q1, q2, q3⟩ := hmem b hm
      have := rel'.nodup _ _ _ hb q3
      have := (List.getElem?_eq_some_iff.1 q1).1
      omega
    · exact hm
  have hmaps : Maps (extS σ hs.length hs'.length) ν' ν'' := by
    intro t b ht
    rcases Nat.lt_or_ge t σ.length with hc | hc
    · obtain ⟨b', q1, q2, q3⟩ := hpick t σ[t] (List.getElem?_eq_getElem hc)
      rw [ht] at q3; cases q3
      have : (extS σ hs.length hs'.length).getD t 0 = σ[t] := by
        simp only [extS, List.getD]
        rw [List.getElem?_append_left hc]
        simp [hc]
      rw [this]
      exact hxx _ _ q1
    · have htl : t < hs'.length := by rw [← rel'.len]; exact (List.getElem?_eq_some_iff.1 ht).1
      have : (extS σ hs.length hs'.length).getD t 0 = hs.length + (t - σ.length) := by
        simp only [extS, List.getD]
        rw [List.getElem?_append_right hc, List.getElem?_range' (by omega)]
        simp
      rw [this, hnew, show σ.length + (t - σ.length) = t by omega]
      exact ht
  refine ⟨ν'', hxx, hmaps, rel'.os.trans rel.os, rel'.tape.trans rel.tape, rel'.output.trans rel.output, Nat.le_trans rel.size rel'.size, ?_, ?_, ?_, ?_, ?_⟩
  · intro b hb hnb
    rw [rel'.frame b (by have := rel.size; omega) ?_]
    · exact rel.frame b hb hnb
    · intro hm
      obtain ⟨i, s, q1, q2, q3⟩ := hmem b hm
      rcases rel.new s b q2 with h1 | h1
      · exact hnb h1
      · omega
  · intro i j b hi hj
    rcases hsplit i b hi with ⟨_, h1⟩ | ⟨i', rfl, h1⟩ <;> rcases hsplit j b hj with ⟨_, h2⟩ | ⟨j', rfl, h2⟩
    · exact rel.nodup _ _ _ h1 h2
    · have := rel.lt h1; have := habove _ _ h2; omega
    · have := rel.lt h2; have := habove _ _ h1; omega
    · have := rel'.nodup _ _ _ h1 h2; omega
  · intro t b ht
    rcases hsplit t b ht with ⟨_, h1⟩ | ⟨j, rfl, h1⟩
    · exact rel.new _ _ h1
    · right; have := habove _ _ h1; have := rel.size; omega
  · show (ν ++ ν'.drop σ.length).length = _
    rw [u4, List.length_append, List.length_drop, rel.len, rel'.len]
  · intro t b o ht ho
    rcases hsplit t b ht with ⟨hlt, h1⟩ | ⟨j, rfl, h1⟩
    · by_cases hm : t ∈ σ
      · obtain ⟨i, hi, e⟩ := List.getElem_of_mem hm
        have hi' : σ[i]? = some t := by rw [List.getElem?_eq_getElem hi, e]
        obtain ⟨b', q1, q2, q3⟩ := hpick i t hi'
        rw [h1] at q1; cases q1
        rw [u1 i t hi'] at ho
        simp only [Option.map_eq_some_iff] at ho
        obtain ⟨o', ho', rfl⟩ := ho
        obtain ⟨O, d1, d2⟩ := rel'.objs _ _ _ q3 ho'
        exact ⟨O, soDen_ren hmaps d1, d2⟩
      · rw [u2 t hlt hm] at ho
        obtain ⟨O, d1, d2⟩ := rel.objs _ _ _ h1 ho
        refine ⟨O, d1.ext hxx, ?_⟩
        rw [rel'.frame b (rel.lt h1) ?_]
        · exact d2
        · intro hmb
          obtain ⟨i, s, q1, q2, q3⟩ := hmem b hmb
          have := rel.nodup _ _ _ h1 q2
          subst this
          exact hm (List.mem_of_getElem? q1)
    · rw [u3 j] at ho
      simp only [Option.map_eq_some_iff] at ho
      obtain ⟨o', ho', rfl⟩ := ho
      obtain ⟨O, d1, d2⟩ := rel'.objs _ _ _ h1 ho'
      exact ⟨O, soDen_ren hmaps d1, d2⟩

theorem rel_self {P : Program} {w0 w : World} {ν0 ν : Nu} {hs : List SO} (rel : Rel P w0 ν0 ν hs w) : Rel P w ν ν hs w :=
  ⟨rfl, rfl, rfl, Nat.le_refl _, fun _ _ _ => rfl, rel.nodup, fun _ _ h => .inl (List.mem_of_getElem? h), rel.len, rel.objs⟩

section
variable {C : Ctx} {fn N : Nat} {ro : Option Nat} {rs : List RP} {env : Env} {k : List It} {defs : List Nat} {r : List FS} {hs : List SO} {op : IOp} {l : List IOp}

/-- **A call by its contract.** -/
theorem ok_spec (hg : wantG op.g env = some true) {f : Nat} {caps as : List SV} (hev : evR op.o env hs = .call (.fn f caps) as) {c : FnC} (hF : FnOk C.P f c) (σ : List Nat) {asF : List SV} {hsF : List SO} {Q : SV → List SO → Prop}
    (hS : Spec C.P f asF hsF Q) (has : rens σ asF = as ++ caps) (hab : bnds hsF.length asF = true) (h : hsLe σ hs σ hsF) (hb : hsF.all (SO.bnd hsF.length) = true) (hnd : σ.Nodup)
    (K : ∀ x hs', Q x hs' → NextOk C fn ro N rs env l k defs r op.d (x.ren (extS σ hs.length hs'.length)) (updO (extS σ hs.length hs'.length) σ hs' hs)) :
    Ok C (⟨fn, ro, N, rs, env, .ops (op :: l) :: k, defs⟩ :: r) hs := by
  intro ν w fr frs hx hr hf
  obtain ⟨h1, h2⟩ := hf
  obtain ⟨ops, i, rest, K', o, hK, g1, g2, g3, g4⟩ := todo_ops h1.todo
  have hat := h1.atR
  rw [hK] at hat
  have hw := wantG_ok (a := ⟨fr.tmps, fr.defers⟩) h1.env g2 hg
  obtain ⟨hnd', hall, X, As, e1, e2, hrun⟩ := call_setup (a := ⟨fr.tmps, fr.defers⟩) h1.env g2 hev w
  simp only [SV.den, Option.map_eq_some_iff] at e1
  obtain ⟨Cs, e3, rfl⟩ := e1
  have hrun2 : (execOp (Act.eval ⟨fr.tmps, fr.defers⟩) o).run C.P w = .ok (.enter f (As ++ Cs.toArray)) w := by
    rw [hrun]
    simp only [Deferred.ofValue, pure_bind, invoke, Array.empty_append]
    exact run_callFunc hF _ w
  have hst := stepR_callop (b := fr) (K := K') (cs := frs ++ C.cs) (rest := rest) g1 hw hnd' hrun2 (.inl ⟨f, _, rfl, rfl⟩)
  rw [← hat] at hst
  refine C.back _ _ hst ?_
  have hback : ∀ i, i < hsF.length → (pickN ν σ)[i]? = ν[σ.getD i 0]? := fun i hi => (pickN_at hr h i hi).1
  have hd : dens (pickN ν σ) asF = some (As.toList ++ Cs) := by
    rw [← dens_back hback asF hab, has]
    exact dens_append _ _ _ _ e2 e3
  obtain ⟨e, w', fr', ⟨v, rfl, ν', x, hs', p1, p2, p3, p4⟩, q1, q2, q3⟩ := hS.ok (pickN ν σ) w _ (rel_self (rel_pick hr h hb hnd)) hd (fr :: (frs ++ C.cs))
  have e5 : (As.toList ++ Cs).toArray = As ++ Cs.toArray := by rw [← Array.toList_inj]; simp
  rw [e5] at q1
  refine back_steps C q1 (C.back _ _ (step_leave_returned q3) ?_)
  obtain ⟨ν'', m1, m2, m3⟩ := rel_call hr h hnd p1 p2
  have hn := K x hs' p4
  unfold NextOk at hn
  split at hn
  · rename_i env' hp
    exact hn ν'' w' _ frs (hx.trans m1) m3 ⟨finish_ops m1 h1 hp (den_ren m2 _ _ p3), fsOk_ext m1 h2⟩
  · exact hn.elim
end
end Go.Pv
