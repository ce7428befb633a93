/- Contracts over any memory: calls, returns, bytes that lie somewhere; the walk's simp set. -/
import Derived.Test.YtifoaokodgbhjaaGreatVx
namespace Go.Pv
open Go

/-! ### Which tags occur -/
mutual
theorem den_bnd {ν : Nu} : ∀ (v : SV) (V : Value), v.den ν = some V → v.bnd ν.length = true
  | .int _ _, _, _ => rfl
  | .bool _, _, _ => rfl
  | .str _, _, _ => rfl
  | .ptr t off, V, e => by
    simp only [SV.den, Option.map_eq_some_iff] at e
    obtain ⟨b, hb, _⟩ := e
    simpa [SV.bnd] using (List.getElem?_eq_some_iff.1 hb).1
  | .nilp, _, _ => rfl
  | .sl t off len cap, V, e => by
    simp only [SV.den, Option.map_eq_some_iff] at e
    obtain ⟨b, hb, _⟩ := e
    simpa [SV.bnd] using (List.getElem?_eq_some_iff.1 hb).1
  | .nils, _, _ => rfl
  | .fn f caps, V, e => by
    simp only [SV.den, Option.map_eq_some_iff] at e
    obtain ⟨cs, hb, _⟩ := e
    simp only [SV.bnd]; exact dens_bnd caps cs hb
  | .yld t, V, e => by
    simp only [SV.den, Option.map_eq_some_iff] at e
    obtain ⟨b, hb, _⟩ := e
    simpa [SV.bnd] using (List.getElem?_eq_some_iff.1 hb).1
  | .nilf, _, _ => rfl
  | .mp t, V, e => by
    simp only [SV.den, Option.map_eq_some_iff] at e
    obtain ⟨b, hb, _⟩ := e
    simpa [SV.bnd] using (List.getElem?_eq_some_iff.1 hb).1
  | .nilm, _, _ => rfl
  | .agg cs, V, e => by
    simp only [SV.den, Option.map_eq_some_iff] at e
    obtain ⟨cs', hb, _⟩ := e
    simp only [SV.bnd]; exact dens_bnd cs cs' hb
  | .tup cs, V, e => by
    simp only [SV.den, Option.map_eq_some_iff] at e
    obtain ⟨cs', hb, _⟩ := e
    simp only [SV.bnd]; exact dens_bnd cs cs' hb
  | .run _ _ _, _, _ => rfl
  | .raw _, _, _ => rfl
theorem dens_bnd {ν : Nu} : ∀ (l : List SV) (L : List Value), dens ν l = some L → bnds ν.length l = true
  | [], _, _ => rfl
  | v :: r, L, e => by
    simp only [bnds, Bool.and_eq_true]
    cases hv : v.one with
    | false =>
      cases v with
      | run k n l =>
        obtain ⟨_, R, hR, _⟩ := dens_cons_run e
        exact ⟨rfl, dens_bnd r R hR⟩
      | _ => simp [SV.one] at hv
    | true =>
      obtain ⟨V, R, hV, hR, _⟩ := dens_cons_one hv e
      exact ⟨den_bnd v V hV, dens_bnd r R hR⟩
end

/-- The tags that may be seen in an object are below `n`. -/
def SO.Bnd (n : Nat) : SO → Prop
  | .cells cs _ _ _ => bnds n cs = true
  | .loop _ _ _ env _ _ _ _ D => (∀ s v, lk env s = some v → v.bnd n = true) ∧ D < n
  | .defd _ => True
  | .map es _ => bndM n es = true

theorem entOk_bnd {ν : Nu} : ∀ (l : List (IntKind × Int × SV × Nat)) (E : List MapEntry), entOk ν l E → bndM ν.length l = true
  | [], _, _ => rfl
  | (_, _, _, _) :: _, [], e => e.elim
  | (_, _, v, _) :: r, _ :: es, ⟨_, _, _, h4, h5⟩ => by
    simp only [bndM, Bool.and_eq_true]
    exact ⟨den_bnd _ _ h4, entOk_bnd r es h5⟩

theorem soDen_bnd {P : Program} {ν : Nu} {o : SO} {O : Obj} (e : o.Den P ν O) : o.Bnd ν.length := by
  cases o with
  | cells cs ty a b => obtain ⟨C, h1, h2⟩ := e; exact dens_bnd _ _ h1
  | loop st pend fn env N ps x y D =>
    obtain ⟨tmps, asC, bdC, Db, h1, h2, h3⟩ := e
    exact ⟨fun s v hs => let ⟨V, a, _⟩ := h2.at_ s v hs; den_bnd _ _ a, (List.getElem?_eq_some_iff.1 h1).1⟩
  | defd on => trivial
  | map es c => obtain ⟨E, h1, h2⟩ := e; exact entOk_bnd _ _ h1

/-- All tags that may be seen in the memory are tags of it. -/
def Wf (hs : List SO) : Prop := ∀ (t : Nat) (o : SO), hs[t]? = some o → o.Bnd hs.length

theorem Rel.wf {P : Program} {w0 w : World} {ν0 ν : Nu} {hs : List SO} (h : Rel P w0 ν0 ν hs w) : Wf hs := by
  intro t o ho
  obtain ⟨b, O, _, h2, _⟩ := h.at_ ho
  rw [← h.len]
  exact soDen_bnd h2

theorem den_pre {ν ν' : Nu} {n : Nat} (h : ∀ i, i < n → ν'[i]? = ν[i]?) (v : SV) (hb : v.bnd n = true) : v.den ν = v.den ν' := by
  have := den_back (σ := List.range n) (ν := ν) (ν' := ν') (n := n) (fun i hi => by rw [h i hi]; simp [hi]) v hb
  rwa [ren_id v hb] at this
theorem dens_pre {ν ν' : Nu} {n : Nat} (h : ∀ i, i < n → ν'[i]? = ν[i]?) (v : List SV) (hb : bnds n v = true) : dens ν v = dens ν' v := by
  have := dens_back (σ := List.range n) (ν := ν) (ν' := ν') (n := n) (fun i hi => by rw [h i hi]; simp [hi]) v hb
  rwa [rens_id v hb] at this
theorem entOk_pre {ν ν' : Nu} {n : Nat} (h : ∀ i, i < n → ν'[i]? = ν[i]?) : ∀ (l : List (IntKind × Int × SV × Nat)) (E : List MapEntry), bndM n l = true → entOk ν l E → entOk ν' l E
  | [], [], _, _ => trivial
  | [], _ :: _, _, e => e.elim
  | (_, _, _, _) :: _, [], _, e => e.elim
  | (_, _, v, _) :: r, _ :: es, hb, ⟨h1, h2, h3, h4, h5⟩ => by
    simp only [bndM, Bool.and_eq_true] at hb
    exact ⟨h1, h2, h3, by rw [← den_pre h v hb.1]; exact h4, entOk_pre h r es hb.2 h5⟩
theorem soDen_pre {P : Program} {ν ν' : Nu} {n : Nat} (h : ∀ i, i < n → ν'[i]? = ν[i]?) {o : SO} {O : Obj} (hb : o.Bnd n) (e : o.Den P ν O) : o.Den P ν' O := by
  cases o with
  | cells cs ty a b => obtain ⟨C, h1, h2⟩ := e; exact ⟨C, by rw [← dens_pre h cs hb]; exact h1, h2⟩
  | loop st pend fn env N ps x y D =>
    obtain ⟨tmps, asC, bdC, Db, h1, h2, h3⟩ := e
    refine ⟨tmps, asC, bdC, Db, by rw [h D hb.2]; exact h1, ⟨h2.size, fun s v hs => ?_⟩, h3⟩
    obtain ⟨V, a1, a2⟩ := h2.at_ s v hs
    exact ⟨V, by rw [← den_pre h v (hb.1 s v hs)]; exact a1, a2⟩
  | defd on => exact e
  | map es c => obtain ⟨E, h1, h2⟩ := e; exact ⟨E, entOk_pre h _ _ hb h1, h2⟩

/-! ### What nothing points to is forgotten -/

/-- What comes out but for garbage: the first `n` tags stay, then those of `σ`. -/
def GQ (n : Nat) (Q : SV → List SO → Prop) (x : SV) (hs : List SO) : Prop :=
  ∃ (σ : List Nat) (x' : SV) (hs' : List SO), σ.length = hs'.length ∧ σ.Nodup ∧ (∀ i, i < n → σ[i]? = some i) ∧
    (∀ (i : Nat) (o : SO), hs'[i]? = some o → ∃ s, σ[i]? = some s ∧ ((hs[s]? = some (o.ren σ) ∧ o.bnd hs'.length = true) ∨ (hs[s]? = some o ∧ o.Bnd n))) ∧
    x = x'.ren σ ∧ x'.bnd hs'.length = true ∧ Q x' hs'

theorem post_gq {P : Program} {w : World} {ν : Nu} {Q : SV → List SO → Prop} {e : Ending} {w' : World} (h : Post P w ν (GQ ν.length Q) e w') : Post P w ν Q e w' := by
  obtain ⟨v, rfl, ν', x, hs, h2, rel, h4, σ, x', hs', g1, g2, g3, g4, rfl, g6, g7⟩ := h
  have hpl : (pickN ν' σ).length = hs'.length := by simp [pickN, g1]
  have at_ : ∀ i, i < hs'.length → (pickN ν' σ)[i]? = ν'[σ.getD i 0]? ∧ ∃ s b, σ[i]? = some s ∧ ν'[s]? = some b ∧ (pickN ν' σ)[i]? = some b := by
    intro i hi
    obtain ⟨s, h1, h3⟩ := g4 i hs'[i] (List.getElem?_eq_getElem hi)
    have : ∃ o', hs[s]? = some o' := by rcases h3 with ⟨a, _⟩ | ⟨a, _⟩ <;> exact ⟨_, a⟩
    obtain ⟨o', ho'⟩ := this
    obtain ⟨b, O, hb, _, _⟩ := rel.at_ ho'
    have h5 : (pickN ν' σ)[i]? = some b := by simp [pickN, h1, List.getD, hb]
    refine ⟨?_, s, b, h1, hb, h5⟩
    rw [h5]
    simp [List.getD, h1, hb]
  have hlt : ∀ i b, (pickN ν' σ)[i]? = some b → i < hs'.length := by
    intro i b hib
    have := (List.getElem?_eq_some_iff.1 hib).1
    omega
  have pre : ∀ i, i < ν.length → (pickN ν' σ)[i]? = ν[i]? := by
    intro i hi
    have h1 := h2 i ν[i] (List.getElem?_eq_getElem hi)
    have h5 := g3 i hi
    rw [List.getElem?_eq_getElem hi]
    simp [pickN, h5, List.getD, h1]
  have pre' : ∀ i, i < ν.length → (pickN ν' σ)[i]? = ν'[i]? := by
    intro i hi
    rw [pre i hi, List.getElem?_eq_getElem hi]
    exact (h2 i ν[i] (List.getElem?_eq_getElem hi)).symm
  refine ⟨v, rfl, pickN ν' σ, x', hs', ?_, ⟨rel.os, rel.tape, rel.output, rel.size, rel.frame, ?_, ?_, hpl, ?_⟩, ?_, g7⟩
  · intro t b ht
    rw [pre t (List.getElem?_eq_some_iff.1 ht).1]
    exact ht
  · intro i j b hi hj
    obtain ⟨_, s, b1, q1, q2, q3⟩ := at_ i (hlt i b hi)
    obtain ⟨_, s', b1', q1', q2', q3'⟩ := at_ j (hlt j b hj)
    rw [hi] at q3; cases q3
    rw [hj] at q3'; cases q3'
    have := rel.nodup s s' b q2 q2'
    subst this
    obtain ⟨a1, a2⟩ := List.getElem?_eq_some_iff.1 q1
    obtain ⟨a1', a2'⟩ := List.getElem?_eq_some_iff.1 q1'
    exact nodup_inj g2 a1 a1' (a2.trans a2'.symm)
  · intro t b ht
    obtain ⟨_, s, b1, q1, q2, q3⟩ := at_ t (hlt t b ht)
    rw [ht] at q3; cases q3
    exact rel.new s b q2
  · intro t b o ht ho
    obtain ⟨_, s, b1, q1, q2, q3⟩ := at_ t (hlt t b ht)
    rw [ht] at q3; cases q3
    obtain ⟨s', h1, h3⟩ := g4 t o ho
    rw [q1] at h1; cases h1
    rcases h3 with ⟨a, hb⟩ | ⟨a, hb⟩
    · obtain ⟨O, d1, d2⟩ := rel.objs s b _ q2 a
      exact ⟨O, soDen_back (fun i hi => (at_ i hi).1) hb d1, d2⟩
    · obtain ⟨O, d1, d2⟩ := rel.objs s b _ q2 a
      exact ⟨O, soDen_pre pre' hb d1, d2⟩
  · rw [← den_back (fun i hi => (at_ i hi).1) x' g6]
    exact h4

/-- **A contract from the walk**, over any memory; what nothing points to is forgotten. -/
theorem spec_h {P : Program} {f : Nat} {c : FnC} (hF : FnOk P f c) {as : List SV} {hs : List SO} {Q : SV → List SO → Prop} (h1 : as.all SV.one = true) (hn : as.length ≤ c.N)
    (h : ∀ C : Ctx, C.P = P → C.f = f → C.Q = GQ hs.length Q → C.ν0.length = hs.length → Wf hs → bnds hs.length as = true → Ok C [FS.start f c as] hs) : Spec P f as hs Q :=
  ⟨h1, fun ν w As hr hd => Calls.mono ((spec_of_ok (Q := GQ hs.length Q) hF h1 hn fun C a b c d => h C a b c d hr.wf (by rw [← hr.len]; exact dens_bnd _ _ hd)).ok ν w As hr hd)
    fun _ _ h' => post_gq (by rw [hr.len]; exact h')⟩

/-- Nothing new stays. -/
theorem gq0 {H G : List SO} {Q : SV → List SO → Prop} {x : SV} (hw : Wf H) (hx : x.bnd H.length = true) (hQ : Q x H) : GQ H.length Q x (H ++ G) := by
  refine ⟨List.range H.length, x, H, by simp, List.nodup_range, fun i hi => List.getElem?_range hi, ?_, (ren_id x hx).symm, hx, hQ⟩
  intro i o ho
  have hi := (List.getElem?_eq_some_iff.1 ho).1
  exact ⟨i, List.getElem?_range hi, .inr ⟨by rw [List.getElem?_append_left hi]; exact ho, hw i o ho⟩⟩
theorem gq00 {H : List SO} {Q : SV → List SO → Prop} {x : SV} (hw : Wf H) (hx : x.bnd H.length = true) (hQ : Q x H) : GQ H.length Q x H := by
  have := gq0 (G := []) hw hx hQ
  simpa using this

/-- One row of one's own stays. -/
theorem gq1 {H G : List SO} {Q : SV → List SO → Prop} {off len cap j : Nat} {o : SO} (hw : Wf H) (hj : G[j]? = some o) (ho : o.bnd 0 = true) (hr : ∀ σ, o.ren σ = o) (hb : o.bnd (H.length + 1) = true)
    (hQ : Q (.sl H.length off len cap) (H ++ [o])) : GQ H.length Q (.sl (H.length + j) off len cap) (H ++ G) := by
  have hn : (List.range H.length ++ [H.length + j]).Nodup := by
    rw [List.nodup_append]
    refine ⟨List.nodup_range, by simp, ?_⟩
    intro a ha b hb
    simp at ha hb
    omega
  have hg : ∀ i, i < H.length → (List.range H.length ++ [H.length + j])[i]? = some i := by
    intro i hi
    rw [List.getElem?_append_left (by simpa using hi)]
    exact List.getElem?_range hi
  have hl : (List.range H.length ++ [H.length + j])[H.length]? = some (H.length + j) := by
    rw [List.getElem?_append_right (by simp)]; simp
  refine ⟨List.range H.length ++ [H.length + j], .sl H.length off len cap, H ++ [o], by simp, hn, hg, ?_, ?_, by simp [SV.bnd], hQ⟩
  · intro i o' ho'
    by_cases hi : i < H.length
    · rw [List.getElem?_append_left hi] at ho'
      exact ⟨i, hg i hi, .inr ⟨by rw [List.getElem?_append_left hi]; exact ho', hw i o' ho'⟩⟩
    · have hi2 : i = H.length := by
        have := (List.getElem?_eq_some_iff.1 ho').1
        simp at this; omega
      subst hi2
      simp at ho'
      subst ho'
      refine ⟨_, hl, .inl ⟨?_, by simpa using hb⟩⟩
      rw [hr, List.getElem?_append_right (by omega)]
      simpa using hj
  · simp only [SV.ren, List.getD, hl]
    rfl

/-! ### A call by its contract, over the memory as it is -/

theorem rel_trans {P : Program} {w0 w w' : World} {ν0 ν ν' : Nu} {hs hs' : List SO} (rel : Rel P w0 ν0 ν hs w) (rel' : Rel P w ν ν' hs' w') : Rel P w0 ν0 ν' hs' w' := by
  refine ⟨rel'.os.trans rel.os, rel'.tape.trans rel.tape, rel'.output.trans rel.output, Nat.le_trans rel.size rel'.size, ?_, rel'.nodup, ?_, rel'.len, rel'.objs⟩
  · intro b hb hnb
    rw [rel'.frame b (Nat.lt_of_lt_of_le hb rel.size) ?_]
    · exact rel.frame b hb hnb
    · intro hm
      obtain ⟨i, hi⟩ := List.mem_iff_getElem?.1 hm
      rcases rel.new i b hi with h | h
      · exact hnb h
      · omega
  · intro t b h
    rcases rel'.new t b h with hm | hm
    · obtain ⟨i, hi⟩ := List.mem_iff_getElem?.1 hm
      exact rel.new i b hi
    · right; have := rel.size; omega

section
variable {C : Ctx} {fn N : Nat} {ro : Option Nat} {rs : List RP} {env : Env} {k : List It} {defs : List Nat} {r : List FS} {hs : List SO} {op : IOp} {l : List IOp}

theorem ok_spech (hg : wantG op.g env = some true) {f : Nat} {caps as : List SV} (hev : evR op.o env hs = .call (.fn f caps) as) {c : FnC} (hF : FnOk C.P f c) {Q : SV → List SO → Prop}
    (hS : Spec C.P f (as ++ caps) hs Q) (K : ∀ x hs', Q x hs' → NextOk C fn ro N rs env l k defs r op.d x hs') :
    Ok C (⟨fn, ro, N, rs, env, .ops (op :: l) :: k, defs⟩ :: r) hs := by
  intro ν w fr frs hx hr hf
  obtain ⟨h1, h2⟩ := hf
  obtain ⟨ops, i, rest, K', o, hK, g1, g2, g3, g4⟩ := todo_ops h1.todo
  have hat := h1.atR
  rw [hK] at hat
  have hw := wantG_ok (a := ⟨fr.tmps, fr.defers⟩) h1.env g2 hg
  obtain ⟨hnd', hall, X, As, e1, e2, hrun⟩ := call_setup (a := ⟨fr.tmps, fr.defers⟩) h1.env g2 hev w
  simp only [SV.den, Option.map_eq_some_iff] at e1
  obtain ⟨Cs, e3, rfl⟩ := e1
  have hrun2 : (execOp (Act.eval ⟨fr.tmps, fr.defers⟩) o).run C.P w = .ok (.enter f (As ++ Cs.toArray)) w := by
    rw [hrun]
    simp only [Deferred.ofValue, pure_bind, invoke, Array.empty_append]
    exact run_callFunc hF _ w
  have hst := stepR_callop (b := fr) (K := K') (cs := frs ++ C.cs) (rest := rest) g1 hw hnd' hrun2 (.inl ⟨f, _, rfl, rfl⟩)
  rw [← hat] at hst
  refine C.back _ _ hst ?_
  obtain ⟨e, w', fr', ⟨v, rfl, ν', x, hs', p1, p2, p3, p4⟩, q1, q2, q3⟩ := hS.ok ν w _ (rel_self hr) (dens_append _ _ _ _ e2 e3) (fr :: (frs ++ C.cs))
  have e5 : (As.toList ++ Cs).toArray = As ++ Cs.toArray := by rw [← Array.toList_inj]; simp
  rw [e5] at q1
  refine back_steps C q1 (C.back _ _ (step_leave_returned q3) ?_)
  have hn := K x hs' p4
  unfold NextOk at hn
  split at hn
  · rename_i env' hp
    exact hn ν' w' _ frs (hx.trans p1) (rel_trans hr p2) ⟨finish_ops p1 h1 hp p3, fsOk_ext p1 h2⟩
  · exact hn.elim

/-- **A call by its contract, over the memory as it is; on by unfolding.** -/
theorem ok_ch {P : Program} (hP : C.P = P) (n : Nat) {f : Nat} {caps as : List SV} {Q : SV → List SO → Prop} (hS : Spec P f (as ++ caps) hs Q) {c : FnC} (hF : FnOk P f c) (hg : wantG op.g env = some true)
    (hev : evR op.o env hs = .call (.fn f caps) as)
    (K : ∀ x hs', Q x hs' → nextK (vc n C) fn ro N rs env l k defs r x hs' op.d) :
    Ok C (⟨fn, ro, N, rs, env, .ops (op :: l) :: k, defs⟩ :: r) hs := by
  subst hP
  exact ok_spech hg hev hF hS fun x hs' hq => nextK_ok (fun f h => vc_ok n f h) (K x hs' hq)

variable {T : List (Nat × Nat)}
theorem stepD_spech {o : IOp} {dr : List Nat} {d : DT} (hg : wantG o.g env = some true) {f : Nat} {caps as : List SV} (hev : evR o.o env hs = .call (.fn f caps) as) {c : FnC} (hF : FnOk C.P f c) {Q : SV → List SO → Prop}
    (hS : Spec C.P f (as ++ caps) hs Q) (Kn : ∀ x hs', Q x hs' → keepT hs hs' (cutT dr T) ∧ nextD C fn ro N rs env d k defs r (cutT dr T) x hs' o.d) :
    StepD C fn ro N rs env o dr d k defs r hs T := by
  intro ops fuel listed i op ho hc hsc hns hcl hdr ν w b a K frs D hx hr hf hfs htl
  have hw := wantG_ok (a := a) hf.env hc hg
  unfold wpOp
  simp only [ho]
  rw [if_pos hw]
  left
  obtain ⟨hnd', hall, X, As, e1, e2, hrun⟩ := call_setup (a := a) hf.env hc hev w
  simp only [SV.den, Option.map_eq_some_iff] at e1
  obtain ⟨Cs, e3, rfl⟩ := e1
  have hrun2 : (execOp a.eval op).run C.P w = .ok (.enter f (As ++ Cs.toArray)) w := by
    rw [hrun]
    simp only [Deferred.ofValue, pure_bind, invoke, Array.empty_append]
    exact run_callFunc hF _ w
  unfold Oper.wp
  rw [hrun2]
  have hcall := hS.ok ν w _ (rel_self hr) (dens_append _ _ _ _ e2 e3)
  have e5 : (As.toList ++ Cs).toArray = As ++ Cs.toArray := by rw [← Array.toList_inj]; simp
  rw [e5] at hcall
  refine Calls.mono hcall fun e w' he => ?_
  obtain ⟨v, rfl, ν', x, hs', p1, p2, p3, p4⟩ := he
  have m3 := rel_trans hr p2
  obtain ⟨k1, k2⟩ := Kn x hs' p4
  have htl' := htl.step hr m3 p1 hdr k1
  exact ⟨htl'.now, next_d (compOper_inv hc).1 k2 hsc hns hcl hx hf hfs p1 m3 htl' p3⟩

/-- The same in a region that draws its order. -/
theorem ok_dch {P : Program} (hP : C.P = P) (n : Nat) {i : Nat} {dr : List Nat} {d : DT} {f : Nat} {caps as : List SV} {Q : SV → List SO → Prop} (hS : Spec P f (as ++ caps) hs Q) {c : FnC} (hF : FnOk P f c) (hg : wantG op.g env = some true)
    (hev : evR op.o env hs = .call (.fn f caps) as)
    (K : ∀ x hs', Q x hs' → keepT hs hs' (cutT dr T) ∧ dnx (dvc (vc n C) C fn ro N rs k defs r d) N env hs' (cutT dr T) x op.d) :
    DOk C fn ro N rs env (.one i op dr d) k defs r hs T := by
  subst hP
  refine dok_one (stepD_spech hg hev hF hS fun x hs' hq => ?_)
  obtain ⟨h1, h2⟩ := K x hs' hq
  exact ⟨h1, dnx_ok (fun e h T hh => dvc_ok (fun f h => vc_ok n f h) d e h T hh) h2⟩
end

/-- From `n` down, a round at a time. -/
theorem up {p : Nat → Prop} (n : Nat) (h : ∀ i, i < n → p (i + 1) → p i) (hn : p n) : p 0 := by
  have : ∀ m i, i + m = n → p i := by
    intro m
    induction m with
    | zero => intro i hi; rw [show i = n by omega]; exact hn
    | succ m ih => intro i hi; exact h i (by omega) (ih (i + 1) (by omega))
  exact this n 0 (by omega)

/-! ### Memory that is not spelled out, with new blocks behind it -/
section
variable (H l m : List SO) (k : Nat) (o : SO)
theorem get_app : (H ++ l)[H.length + k]? = l[k]? := by rw [List.getElem?_append_right (by omega)]; simp
theorem get_app0 : (H ++ l)[H.length]? = l[0]? := by rw [List.getElem?_append_right (by omega)]; simp
theorem set_app : (H ++ l).set (H.length + k) o = H ++ l.set k o := by rw [List.set_append_right _ _ (by omega)]; simp
theorem set_app0 : (H ++ l).set H.length o = H ++ l.set 0 o := by rw [List.set_append_right _ _ (by omega)]; simp
theorem len_app : (H ++ l).length = H.length + l.length := List.length_append
theorem add_add (a b : Nat) : H.length + a + b = H.length + (a + b) := Nat.add_assoc _ _ _
end
/-- What lies there still lies there with more behind it. -/
theorem at_old {H : List SO} {t : Nat} {o : SO} (h : H[t]? = some o) (l : List SO) : (H ++ l)[t]? = some o := by
  rw [List.getElem?_append_left (List.getElem?_eq_some_iff.1 h).1]; exact h
theorem at_set {H : List SO} {t : Nat} (h : t < H.length) (o : SO) (l : List SO) : (H ++ l).set t o = H.set t o ++ l := List.set_append_left _ _ h
theorem at_set_self {H : List SO} {t : Nat} (h : t < H.length) (o : SO) : (H.set t o)[t]? = some o := List.getElem?_set_self h

/-! ### Rows of bytes, read -/

/-- From `off` on the cells hold the bytes `c`. -/
structure RowB (cs : List SV) (off : Nat) (c : List Int) : Prop where
  ld : ∀ i, i < c.length → ldR cs (i + off) = .v True (.int .u8 (c.getD i 0))
  lda : ∀ i n, i + n ≤ c.length → ldaR cs (off + i) n = .v True (.agg [.run .u8 n ((c.drop i).take n)])

theorem Res.v_true {p : Prop} (h : p) (x : SV) : Res.v p x = .v True x := by rw [eq_true h]

theorem rowB_run {m : Nat} {L c : List Int} {off : Nat} (hL : L.length = m) (hm : off + c.length ≤ m) (hp : part L off c.length = c) : RowB [.run .u8 m L] off c where
  ld := by
    intro i hi
    simp only [ldR]
    rw [Res.v_true (by omega)]
    have : L.getD (i + off) 0 = c.getD i 0 := by
      have h2 : (part L off c.length)[i]? = c[i]? := by rw [hp]
      simp only [part, List.getElem?_take, hi, if_true, List.getElem?_drop] at h2
      simp only [List.getD_eq_getElem?_getD, ← h2, Nat.add_comm]
    rw [this]
  lda := by
    intro i n hn
    simp only [ldaR]
    have hd : (L.drop (off + i)).take n = (c.drop i).take n := by
      conv => rhs; rw [← hp]
      simp only [part, List.drop_take, List.take_take, List.drop_drop]
      congr 1
      omega
    split
    · rename_i h
      obtain ⟨h1, rfl⟩ := h
      have hoi : off = 0 ∧ i = 0 := by omega
      obtain ⟨rfl, rfl⟩ := hoi
      have : L = (c.drop 0).take n := by rw [← hd]; simp [List.take_of_length_le (Nat.le_of_eq hL)]
      rw [← this]
    · rw [Res.v_true (by omega), hd]

theorem RowB.sub {cs : List SV} {off : Nat} {c : List Int} (h : RowB cs off c) (lo n : Nat) (hn : lo + n ≤ c.length) : RowB cs (off + lo) ((c.drop lo).take n) where
  ld := by
    intro i hi
    simp at hi
    rw [show i + (off + lo) = (i + lo) + off by omega, h.ld _ (by omega)]
    simp only [List.getD_eq_getElem?_getD, List.getElem?_take, List.getElem?_drop, show i < n by omega, if_true, Nat.add_comm]
  lda := by
    intro i m hm
    simp at hm
    rw [show off + lo + i = off + (lo + i) by omega, h.lda _ _ (by omega)]
    simp only [List.drop_take, List.take_take, List.drop_drop]
    rw [show min m (n - i) = m by omega]

/-- `x` holds the bytes `c`. -/
def Byt (hs : List SO) (x : SV) (c : List Int) : Prop :=
  (x = .nils ∧ c = []) ∨ ∃ t off cap cs ty a b, x = .sl t off c.length cap ∧ c.length ≤ cap ∧ hs[t]? = some (.cells cs ty a b) ∧ RowB cs off c

theorem Byt.app {H : List SO} {x : SV} {c : List Int} (h : Byt H x c) (l : List SO) : Byt (H ++ l) x c := by
  rcases h with h | ⟨t, off, cap, cs, ty, a, b, h1, h2, h3, h4⟩
  · exact .inl h
  · exact .inr ⟨t, off, cap, cs, ty, a, b, h1, h2, at_old h3 l, h4⟩

theorem Byt.nr {H : List SO} {x : SV} {c : List Int} (h : Byt H x c) (k : IntKind) (n : Nat) (l : List Int) : (x = .run k n l) = False := by
  rcases h with ⟨rfl, rfl⟩ | ⟨t, off, cap, cs, ty, a, b, rfl, _⟩ <;> simp
theorem Byt.na {H : List SO} {x : SV} {c : List Int} (h : Byt H x c) (l : List SV) : (x = .agg l) = False := by
  rcases h with ⟨rfl, rfl⟩ | ⟨t, off, cap, cs, ty, a, b, rfl, _⟩ <;> simp
theorem Byt.one {H : List SO} {x : SV} {c : List Int} (h : Byt H x c) : x.one = true := by
  rcases h with ⟨rfl, rfl⟩ | ⟨t, off, cap, cs, ty, a, b, rfl, _⟩ <;> rfl
theorem Byt.c1 {H : List SO} {x : SV} {c : List Int} (h : Byt H x c) : x.c1 = true := by
  rcases h with ⟨rfl, rfl⟩ | ⟨t, off, cap, cs, ty, a, b, rfl, _⟩ <;> rfl
theorem Byt.len {H : List SO} {x : SV} {c : List Int} (h : Byt H x c) : lenQ (some x) = .v True (.int .i64 c.length) := by
  rcases h with ⟨rfl, rfl⟩ | ⟨t, off, cap, cs, ty, a, b, rfl, _⟩ <;> rfl

/-- What is copied out of it. -/
theorem Byt.src {H : List SO} {x : SV} {c : List Int} (h : Byt H x c) : (x = .nils ∧ c = []) ∨ srcC H 1 x = some (True, [.run .u8 c.length c], c.length) := by
  rcases h with h | ⟨t, off, cap, cs, ty, a, b, rfl, h2, h3, h4⟩
  · exact .inl h
  · right
    rw [srcC_sl, h3]
    have := h4.lda 0 c.length (by omega)
    simp only [Nat.add_zero, List.drop_zero, List.take_length] at this
    simp only [srcC2, Nat.mul_one, this, srcC3]

section
variable {C : Ctx} {fn N : Nat} {ro : Option Nat} {rs : List RP} {env : Env} {k : List It} {defs : List Nat} {r : List FS} {hs : List SO} {op : IOp} {l : List IOp} {K : List FS → List SO → Prop}

/-- Bytes behind bytes of one's own row. -/
theorem app_byt {ex ey : Ex} {t len cap ty : Nat} {L c : List Int} {x : SV} (hx : ev env ex = some (.sl t 0 len cap)) (ht : hs[t]? = some (.cells [.run .u8 cap L] ty 0 0))
    (hy : ev env ey = some x) (hb : Byt hs x c) (hlen : len ≤ cap) (hL : L.length = cap) (hbig : len + c.length ≤ 140737488355328)
    (H : ∀ (t' cap' : Nat) (L' : List Int) (hs' : List SO), len + c.length ≤ cap' → L'.length = cap' → L'.take (len + c.length) = L.take len ++ c →
      ((t' = t ∧ cap' = cap ∧ hs' = hs.set t (.cells [.run .u8 cap' L'] ty 0 0)) ∨ (t' = hs.length ∧ cap < len + c.length ∧ hs' = hs ++ [.cells [.run .u8 cap' L'] 5 0 0])) → nextK K fn ro N rs env l k defs r (.sl t' 0 (len + c.length) cap') hs' op.d) :
    resK K C fn ro N rs env op l k defs r hs (evR (.app 5 1 1 [.int .u8 0] false ex ey) env hs) := by
  rcases hb.src with ⟨rfl, rfl⟩ | hs2
  · exact app_cat hx ht hy (.inl ⟨rfl, rfl⟩) hlen hL hbig H
  · refine app_own (n := c.length) (l' := c) hx ht (p2 := True) ?_ trivial hlen hL rfl hbig H
    rw [hy]
    simp only [srcZ, hs2]

/-- Bytes behind nil. -/
theorem app_byt_nil {ex ey : Ex} {c : List Int} {x : SV} (hx : ev env ex = some .nils) (hy : ev env ey = some x) (hb : Byt hs x c) (hbig : c.length ≤ 140737488355328)
    (H0 : c = [] → nextK K fn ro N rs env l k defs r .nils hs op.d)
    (H : c ≠ [] → ∀ (cap' : Nat) (L' : List Int), c.length ≤ cap' → L'.length = cap' → L'.take c.length = c → nextK K fn ro N rs env l k defs r (.sl hs.length 0 c.length cap') (hs ++ [.cells [.run .u8 cap' L'] 5 0 0]) op.d) :
    resK K C fn ro N rs env op l k defs r hs (evR (.app 5 1 1 [.int .u8 0] false ex ey) env hs) := by
  rcases hb.src with ⟨rfl, rfl⟩ | hs2
  · exact app_cat_nil hx hy (.inl ⟨rfl, rfl⟩) hbig H0 H
  · refine app_nil (n := c.length) (l' := c) hx (p2 := True) ?_ trivial rfl hbig (fun h => H0 (by simpa using h)) (fun h => H (by intro e; subst e; simp at h))
    rw [hy]
    simp only [srcZ, hs2]
end

section
variable {C : Ctx} {fn N : Nat} {ro : Option Nat} {rs : List RP} {env : Env} {k : List It} {defs : List Nat} {r : List FS} {hs : List SO} {op : IOp} {l : List IOp} {K : List FS → List SO → Prop}
/-- Bytes copied to the begin of a row. -/
theorem cpy_byt {ex ey : Ex} {t len cap m ty : Nat} {L c : List Int} {x : SV} (hx : ev env ex = some (.sl t 0 len cap)) (ht : hs[t]? = some (.cells [.run .u8 m L] ty 0 0)) (hy : ev env ey = some x) (hb : Byt hs x c) (hle : c.length ≤ len) (hm : len ≤ m) (hL : L.length = m)
    (H : nextK K fn ro N rs env l k defs r (.int .i64 c.length) (hs.set t (.cells [.run .u8 m (c ++ L.drop c.length)] ty 0 0)) op.d) :
    resK K C fn ro N rs env op l k defs r hs (evR (.cpy 1 ex ey) env hs) := by
  rw [evR_cpy, hx, hy]
  rcases hb.src with ⟨rfl, rfl⟩ | hs2
  · simp only [srcO, srcC_nils, cpyQ, ht, cpyQ2, List.length_nil, Nat.zero_le, if_true, Nat.zero_mul, staC, cpyQ3, resK]
    refine ⟨⟨trivial, trivial, trivial, by simp [free]⟩, ?_⟩
    simpa using H
  · simp only [srcO, hs2, cpyQ, ht, cpyQ2, hle, if_true, Nat.mul_one]
    by_cases h0 : c.length = m
    · have e : L.drop c.length = [] := List.drop_of_length_le (by omega)
      rw [e, List.append_nil] at H
      simp only [staC, and_self, if_true, h0, cpyQ3, resK]
      refine ⟨⟨trivial, trivial, trivial, by simp [free]⟩, ?_⟩
      rw [h0] at H
      exact H
    · simp only [staC, and_self, if_true, h0, and_false, if_false]
      simp only [cpyQ3, resK]
      refine ⟨⟨trivial, trivial, by omega, by simp [free]⟩, ?_⟩
      simpa using H
end

attribute [go_sem] evR_mark markQ.eq_1 markQ2.eq_1 markQ2.eq_2 markQ2.eq_3 markQ2.eq_4 markQ2.eq_5 evR_lkp lkpQ.eq_1 lkpQ.eq_2 lkpQ2.eq_1 lkpQ2.eq_2 lkpQ2.eq_3 lkpQ2.eq_4 lkpQ2.eq_5 evR_ins insQ.eq_1 insQ2.eq_1 insQ2.eq_2 insQ2.eq_3 insQ2.eq_4 insQ2.eq_5 findM insM lkpR.eq_1 lkpR.eq_2 lkpR.eq_3 insR.eq_1 insR.eq_2 evR_eqa eqaQ.eq_1 eqaQ2.eq_1 eqaQ2.eq_2 eqC.eq_1 eqC.eq_2 eqC.eq_3 eqC.eq_4 eqC.eq_5 evR_ids idsQ.eq_1 evR_sls slsQ.eq_1 slsQ.eq_2 slsQ.eq_3 vc vcT.eq_1 vcT.eq_2 vcT.eq_3 vcT.eq_4 vcT.eq_5 vcT.eq_6 vcT.eq_7 vcT.eq_8 vcT.eq_9 vcT.eq_10 vcT.eq_11 vcT.eq_12 vcT.eq_13 vcT.eq_14 vcT.eq_15 vcT.eq_16 vcT.eq_17 vcT.eq_18 vcT.eq_19 vcT.eq_20
  vcT.eq_21 vcT.eq_22 opK.eq_1 opK.eq_2 opK.eq_3 wantC.eq_1 wantC.eq_2 onlyV.eq_1 onlyV.eq_2 onlyV.eq_3 onlyV.eq_4 onlyV.eq_5 onlyV.eq_6 vQ.eq_1 vQ.eq_2 pickQ.eq_1 pickQ.eq_2 pickQ.eq_3 pickQ.eq_4
  ldQ.eq_1 ldQ2.eq_1 ldQ2.eq_2 ldQ2.eq_3 ldQ2.eq_4 ldQ2.eq_5 ldaQ.eq_1 ldaQ2.eq_1 ldaQ2.eq_2 ldaQ2.eq_3 ldaQ2.eq_4 ldaQ2.eq_5 ncQ.eq_1 ncQ.eq_2 ncQ.eq_3 binQ.eq_1 eqbQ.eq_1 eqnQ.eq_1 eqnQ2.eq_1
  eqnQ2.eq_2 unQ.eq_1 unQ.eq_2 cviQ.eq_1 cvsQ.eq_1 s2aQ.eq_1 mkfQ.eq_1 mkfQ.eq_2 slcQ.eq_1 slcQ.eq_2 slaQ.eq_1 faQ.eq_1 iaaQ.eq_1 iasQ.eq_1 fldQ.eq_1 fldQ2.eq_1 fldQ2.eq_2 idxQ.eq_1 idxQ.eq_2 idxQ2.eq_1
  idxQ2.eq_2 idxQ2.eq_3 idxQ2.eq_4 idxQ2.eq_5 idxQ2.eq_6 extQ.eq_1 extQ2.eq_1 extQ2.eq_2 lenQ.eq_1 lenQ.eq_2 lensQ.eq_1 capQ.eq_1 capQ.eq_2 mxQ.eq_1 mnQ.eq_1 bldQ.eq_1 bldQ.eq_2 bxQ.eq_1 bxQ.eq_2
  bxQ.eq_3 bslQ.eq_1 bslQ.eq_2 stQ.eq_1 stQ2.eq_1 stQ2.eq_2 stQ2.eq_3 stQ2.eq_4 stQ2.eq_5 staQ.eq_1 staQ2.eq_1 staQ2.eq_2 staQ2.eq_3 staQ2.eq_4 staQ2.eq_5 mksQ.eq_1 callQ.eq_1 srcC2.eq_1 srcC2.eq_2
  srcC2.eq_3 srcC2.eq_4 srcC2.eq_5 srcC3.eq_1 srcO.eq_1 srcO.eq_2 srcZ.eq_1 srcZ.eq_2 appQ.eq_1 appQ.eq_2 appQ2.eq_1 appQ2.eq_2 appQ2.eq_3 appQ2.eq_4 appQ2.eq_5 appQ3.eq_1 appQ3.eq_2 cpyQ.eq_1
  cpyQ2.eq_1 cpyQ2.eq_2 cpyQ2.eq_3 cpyQ2.eq_4 cpyQ2.eq_5 cpyQ3.eq_1 cpyQ3.eq_2 cpyQ4.eq_1 s2bQ.eq_1 b2sQ.eq_1 b2sQ.eq_2 b2sQ2.eq_1 b2sQ2.eq_2 b2sQ2.eq_3 b2sQ2.eq_4 b2sQ2.eq_5 b2sQ3.eq_1 b2sQ4.eq_1
  b2sQ4.eq_2 evsC.eq_1 evoC.eq_1 evoC.eq_2 ev lk resK.eq_1 resK.eq_2 resK.eq_3 resK.eq_4 resK.eq_5 resK.eq_6 nextK.eq_1 nextK.eq_2 dvc dnx.eq_1 dnx.eq_2 dtk1.eq_1 dtk1.eq_2 dtk1.eq_3 dtk1.eq_4 dtk1.eq_5
  dtk1.eq_6 dtk2.eq_1 dtk2.eq_2 dtkG.eq_1 dtkG.eq_2 dtkG.eq_3 don1.eq_1 don1.eq_2 don1.eq_3 don1.eq_4 don1.eq_5 don1.eq_6 donG.eq_1 donG.eq_2 donG.eq_3 addTC.eq_1 addTC.eq_2 addTC.eq_3 addTC.eq_4
  addTC.eq_5 tagC.eq_1 keepT cutT callK.eq_1 callK.eq_2 isYld.eq_1 isYld.eq_2 yieldK.eq_1 yieldK.eq_2 yieldK.eq_3 yieldK.eq_4 yieldK.eq_5 yieldK2.eq_1 yieldK2.eq_2 retK.eq_1 retK.eq_2 ret1.eq_1
  ret1.eq_2 ret2.eq_1 ret2.eq_2 ret3.eq_1 ret3.eq_2 ret4.eq_1 ret4.eq_2 roundK.eq_1 roundK.eq_2 roundK.eq_3 roundK.eq_4 roundK.eq_5 roundK.eq_6 roundK2.eq_1 roundK2.eq_2 erfK.eq_1 erfK.eq_2 erfK.eq_3
  erfK.eq_4 erfK.eq_5 erfK2.eq_1 erfK2.eq_2 brK.eq_1 brK.eq_2 brK2.eq_1 brK2.eq_2 brK2.eq_3 brK2.eq_4 brK2.eq_5 isReady.eq_1 isReady.eq_2 notBusy.eq_1 notBusy.eq_2 isBool.eq_1 condK.eq_1 condK.eq_2
  exitK.eq_1 exitK.eq_2 exitK2.eq_1 exitK2.eq_2 gotoK.eq_1 gotoK.eq_2 exitS gotoS findS finishS.eq_1 finishS.eq_2 pendI.eq_1 pendI.eq_2 pendI.eq_3 unDC.eq_1 retC.eq_1 ret1C.eq_1 ret1C.eq_2 tupV.eq_1
  tupV.eq_2 roundE putE.eq_1 putE.eq_2 binR.eq_1 binR.eq_2 binR.eq_3 binR.eq_4 binR.eq_5 binR.eq_6 binR.eq_7 binR.eq_8 nilSl.eq_1 intBin.eq_1 intBin.eq_2 intBin.eq_3 intBin.eq_4 intBin.eq_5 intBin.eq_6
  intBin.eq_7 intBin.eq_8 intBin.eq_9 intBin.eq_10 intBin.eq_11 intBin.eq_12 intBin.eq_13 intBin.eq_14 intBin.eq_15 unR.eq_1 unR.eq_2 unR.eq_3 sliR.eq_1 sliR.eq_2 sliR.eq_3 sliR.eq_4 nilR.eq_1 nilR.eq_2
  nilR.eq_3 nilP.eq_1 nilP.eq_2 nilP.eq_3 nilS.eq_1 nilS.eq_2 nilS.eq_3 nilM.eq_1 nilM.eq_2 nilM.eq_3 nilF.eq_1 nilF.eq_2 nilF.eq_3 nilF.eq_4 ldR.eq_1 ldR.eq_2 ldaR.eq_1 ldaR.eq_2 rdC wrC dropC takeC
  subC.eq_1 splC stC.eq_1 stC.eq_2 staC.eq_1 staC.eq_2 staC.eq_3 staC2.eq_1 staC2.eq_2 flatI.eq_1 flatI.eq_2 flatI.eq_3 growC.eq_1 growC.eq_2 zerosC.eq_1 zerosC.eq_2 bldC.eq_1 bldC.eq_2 bldC1.eq_1
  bldC1.eq_2 bldC1.eq_3 wid allOne SV.one.eq_1 SV.one.eq_2 SV.c1.eq_1 SV.c1.eq_2 SV.c1.eq_3 SV.c1.eq_4 SV.c1.eq_5 SV.c1.eq_6 slo.eq_1 free_none extS updO SV.ren rens renE SO.ren List.range'_zero
  List.range'_succ List.getD_cons_zero List.getD_cons_succ List.contains_cons List.contains_nil Bool.or_true Bool.or_false Bool.true_or Bool.false_or wantG_none wantG_some evR_mv evR_pick evR_ld evR_lda
  evR_nc evR_bin evR_eqb evR_eqn evR_un evR_cvi evR_cvs evR_s2a evR_mkf evR_slc evR_sla evR_fa evR_iaa evR_ias evR_fld evR_idx evR_ext evR_len evR_lens evR_lena evR_cap evR_mx evR_mn evR_bld evR_al
  evR_bx evR_bsl evR_st evR_sta evR_mks evR_mkm evR_call evR_s2b evR_b2s srcC_nils srcC_sl srcC_str evs_cons evs_nil evo_some evo_none addT_none addT_some tagQ_ld tagQ_lda tagQ unD_nil unD_cons
  retVs_cons retVs_nil retV1_t retV1_c retV1_a stR_run stR_one stR_more staR_eq bldR_nil bldR_cons List.all_cons List.all_nil List.nil_append List.cons_append List.append_nil List.length_cons
  List.length_nil List.getElem?_cons_zero List.getElem?_cons_succ List.set_cons_zero List.set_cons_succ List.map_cons List.map_nil List.cons.injEq Option.map_some Option.map_none Option.bind_some
  Bool.and_true Bool.true_and Bool.and_self Bool.not_true Bool.not_false beq_true beq_false Bool.false_eq_true Bool.true_eq_false cond_true cond_false if_true if_false ite_true ite_false ite_self
  Int.cast_ofNat_Int Nat.zero_add Nat.add_zero Nat.sub_zero Nat.mul_one Nat.one_mul Nat.zero_mul Nat.mul_zero Int.toNat_natCast true_and and_true and_self false_and and_false false_implies implies_true
  imp_self forall_const not_true_eq_false not_false_eq_true decide_true decide_false get_app get_app0 set_app set_app0 len_app add_add List.append_assoc

end Go.Pv
