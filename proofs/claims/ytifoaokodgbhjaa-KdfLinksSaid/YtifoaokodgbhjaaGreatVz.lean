/- Contracts over no memory serve over any; ends of walks. -/
import Derived.Test.YtifoaokodgbhjaaGreatVy
namespace Go.Pv
open Go

theorem spec_frame {P : Program} {f : Nat} {as : List SV} {Q : SV → List SO → Prop} (h : Spec P f as [] Q) (hb : bnds 0 as = true) (H : List SO) :
    Spec P f as H fun x hs => ∃ x' hs', Q x' hs' ∧ x = x'.ren (List.range' H.length hs'.length) ∧ hs = H ++ hs'.map (SO.ren (List.range' H.length hs'.length)) := by
  refine ⟨h.one, fun ν w As hr hd => ?_⟩
  have hp : Rel P w ν [] [] w := rel_pick hr (σ := []) (hs' := []) trivial rfl List.nodup_nil
  have hd' : dens [] as = some As := by
    rw [← dens_pre (n := 0) (ν := ν) (fun i hi => by omega) as hb]; exact hd
  refine Calls.mono (h.ok [] w As (rel_self hp) hd') ?_
  intro e w' ⟨v, h1, ν', x, hs', p1, p2, p3, p4⟩
  subst h1
  obtain ⟨ν'', m1, m2, m3⟩ := rel_call (σ := []) (hsF := []) (hs' := hs') hr trivial List.nodup_nil p1 p2
  refine ⟨v, rfl, ν'', _, _, m1, m3, den_ren m2 _ _ p3, x, hs', p4, ?_, ?_⟩
  · simp [extS]
  · simp [extS, updO]

mutual
theorem ren_bnd0 {σ : List Nat} : ∀ (v : SV), v.bnd 0 = true → v.ren σ = v
  | .int _ _, _ => rfl
  | .bool _, _ => rfl
  | .str _, _ => rfl
  | .ptr t off, e => by simp [SV.bnd] at e
  | .nilp, _ => rfl
  | .sl t off len cap, e => by simp [SV.bnd] at e
  | .nils, _ => rfl
  | .fn f caps, e => by
    simp only [SV.bnd] at e
    simp only [SV.ren, rens_bnd0 caps e]
  | .yld t, e => by simp [SV.bnd] at e
  | .nilf, _ => rfl
  | .mp t, e => by simp [SV.bnd] at e
  | .nilm, _ => rfl
  | .agg cs, e => by
    simp only [SV.bnd] at e
    simp only [SV.ren, rens_bnd0 cs e]
  | .tup vs, e => by
    simp only [SV.bnd] at e
    simp only [SV.ren, rens_bnd0 vs e]
  | .run _ _ _, _ => rfl
  | .raw _, _ => rfl
theorem rens_bnd0 {σ : List Nat} : ∀ (l : List SV), bnds 0 l = true → rens σ l = l
  | [], _ => rfl
  | v :: r, e => by
    simp only [bnds, Bool.and_eq_true] at e
    simp only [rens, ren_bnd0 v e.1, rens_bnd0 r e.2]
end

mutual
theorem bnd_mono {a b : Nat} (h : a ≤ b) : ∀ (v : SV), v.bnd a = true → v.bnd b = true
  | .int _ _, _ => rfl
  | .bool _, _ => rfl
  | .str _, _ => rfl
  | .ptr t off, e => by simp [SV.bnd] at e ⊢; omega
  | .nilp, _ => rfl
  | .sl t off len cap, e => by simp [SV.bnd] at e ⊢; omega
  | .nils, _ => rfl
  | .fn f caps, e => by
    simp only [SV.bnd] at e ⊢
    exact bnds_mono h caps e
  | .yld t, e => by simp [SV.bnd] at e ⊢; omega
  | .nilf, _ => rfl
  | .mp t, e => by simp [SV.bnd] at e ⊢; omega
  | .nilm, _ => rfl
  | .agg cs, e => by
    simp only [SV.bnd] at e ⊢
    exact bnds_mono h cs e
  | .tup vs, e => by
    simp only [SV.bnd] at e ⊢
    exact bnds_mono h vs e
  | .run _ _ _, _ => rfl
  | .raw _, _ => rfl
theorem bnds_mono {a b : Nat} (h : a ≤ b) : ∀ (l : List SV), bnds a l = true → bnds b l = true
  | [], _ => rfl
  | v :: r, e => by
    simp only [bnds, Bool.and_eq_true] at e ⊢
    exact ⟨bnd_mono h v e.1, bnds_mono h r e.2⟩
end

/-- What comes out, where one block of the caller's has turned and a row of one's own stays. -/
theorem gq_set1 {H hs : List SO} {Q : SV → List SO → Prop} {t j off len cap m ty ty2 : Nat} {cs : List SV} {L : List Int} {x : SV} (hw : Wf H) (ht : t < H.length) (hk : ∀ u, u < H.length → u ≠ t → hs[u]? = H[u]?) (hj : H.length ≤ j)
    (ho : hs[j]? = some (.cells [.run .u8 m L] ty2 0 0)) (hob : hs[t]? = some (.cells (.sl j off len cap :: cs) ty 0 0)) (hcs : bnds 0 cs = true) (hx : x.bnd 0 = true)
    (hQ : Q x (H.set t (.cells (.sl H.length off len cap :: cs) ty 0 0) ++ [.cells [.run .u8 m L] ty2 0 0])) : GQ H.length Q x hs := by
  have hn : (List.range H.length ++ [j]).Nodup := by
    rw [List.nodup_append]
    refine ⟨List.nodup_range, by simp, ?_⟩
    intro a ha b hb
    simp at ha hb
    omega
  have hg : ∀ i, i < H.length → (List.range H.length ++ [j])[i]? = some i := by
    intro i hi
    rw [List.getElem?_append_left (by simpa using hi)]
    exact List.getElem?_range hi
  have hl : (List.range H.length ++ [j])[H.length]? = some j := by
    rw [List.getElem?_append_right (by simp)]; simp
  refine ⟨List.range H.length ++ [j], x, _, by simp, hn, hg, ?_, (ren_bnd0 x hx).symm, bnd_mono (Nat.zero_le _) x hx, hQ⟩
  intro i o' ho'
  by_cases hi : i < H.length
  · rw [List.getElem?_append_left (by simpa using hi)] at ho'
    refine ⟨i, hg i hi, ?_⟩
    by_cases hit : i = t
    · subst hit
      rw [List.getElem?_set_self hi] at ho'
      cases ho'
      refine .inl ⟨?_, ?_⟩
      · rw [hob]
        simp [SO.ren, rens, SV.ren, rens_bnd0 cs hcs]
      · simp [SO.bnd, bnds, SV.bnd, bnds_mono (Nat.zero_le _) cs hcs]
    · rw [List.getElem?_set_ne (fun h => hit h.symm)] at ho'
      exact .inr ⟨by rw [hk i hi hit]; exact ho', hw i o' ho'⟩
  · have hi2 : i = H.length := by
      have := (List.getElem?_eq_some_iff.1 ho').1
      simp at this; omega
    subst hi2
    rw [List.getElem?_append_right (by simp)] at ho'
    simp at ho'
    subst ho'
    exact ⟨_, hl, .inl ⟨ho, rfl⟩⟩
theorem gq_set0 {H hs : List SO} {Q : SV → List SO → Prop} {t ty : Nat} {cs : List SV} {x : SV} (hw : Wf H) (ht : t < H.length) (hk : ∀ u, u < H.length → u ≠ t → hs[u]? = H[u]?)
    (hob : hs[t]? = some (.cells cs ty 0 0)) (hcs : bnds 0 cs = true) (hx : x.bnd 0 = true) (hQ : Q x (H.set t (.cells cs ty 0 0))) : GQ H.length Q x hs := by
  refine ⟨List.range H.length, x, _, by simp, List.nodup_range, fun i hi => List.getElem?_range hi, ?_, (ren_bnd0 x hx).symm, bnd_mono (Nat.zero_le _) x hx, hQ⟩
  intro i o' ho'
  have hi : i < H.length := by have := (List.getElem?_eq_some_iff.1 ho').1; simpa using this
  refine ⟨i, List.getElem?_range hi, ?_⟩
  by_cases hit : i = t
  · subst hit
    rw [List.getElem?_set_self hi] at ho'
    cases ho'
    exact .inl ⟨by rw [hob]; simp [SO.ren, rens_bnd0 cs hcs], by simp [SO.bnd, bnds_mono (Nat.zero_le _) cs hcs]⟩
  · rw [List.getElem?_set_ne (fun h => hit h.symm)] at ho'
    exact .inr ⟨by rw [hk i hi hit]; exact ho', hw i o' ho'⟩

/-- Nothing new stays. -/
theorem gq_keep {H hs : List SO} {Q : SV → List SO → Prop} {x : SV} (hw : Wf H) (hk : ∀ u, u < H.length → hs[u]? = H[u]?) (hx : x.bnd H.length = true) (hQ : Q x H) : GQ H.length Q x hs := by
  refine ⟨List.range H.length, x, H, by simp, List.nodup_range, fun i hi => List.getElem?_range hi, ?_, (ren_id x hx).symm, hx, hQ⟩
  intro i o ho
  have hi := (List.getElem?_eq_some_iff.1 ho).1
  exact ⟨i, List.getElem?_range hi, .inr ⟨by rw [hk i hi]; exact ho, hw i o ho⟩⟩
/-- All stays. -/
theorem gq_all {H G : List SO} {Q : SV → List SO → Prop} {x : SV} (hw : Wf H) (hG : G.all (SO.bnd (H.length + G.length)) = true) (hx : x.bnd (H.length + G.length) = true) (hQ : Q x (H ++ G)) : GQ H.length Q x (H ++ G) := by
  have hl : (H ++ G).length = H.length + G.length := List.length_append
  refine ⟨List.range (H ++ G).length, x, H ++ G, by simp, List.nodup_range, fun i hi => List.getElem?_range (by omega), ?_, ?_, by rw [hl]; exact hx, hQ⟩
  · intro i o ho
    have hi := (List.getElem?_eq_some_iff.1 ho).1
    refine ⟨i, List.getElem?_range hi, ?_⟩
    by_cases h : i < H.length
    · rw [List.getElem?_append_left h] at ho
      exact .inr ⟨by rw [List.getElem?_append_left h]; exact ho, hw i o ho⟩
    · have ho' := ho
      rw [List.getElem?_append_right (by omega)] at ho'
      have hb := List.all_eq_true.1 hG o (List.mem_of_getElem? ho')
      rw [← hl] at hb
      exact .inl ⟨by rw [soRen_id o hb]; exact ho, hb⟩
  · rw [hl]; exact (ren_id x hx).symm

/-- A value out of values. -/
theorem spec_val {P : Program} {f : Nat} {as : List SV} {X : SV} (h : Spec P f as [] fun x hs => x = X ∧ hs = []) (hb : bnds 0 as = true) (hx : X.bnd 0 = true) (H : List SO) : Spec P f as H fun x hs => x = X ∧ hs = H := by
  refine (spec_frame h hb H).mono ?_
  intro x hs h
  obtain ⟨x', hs', ⟨h1, h2⟩, h3, h4⟩ := h
  subst h1 h2
  exact ⟨by rw [h3]; exact ren_bnd0 _ hx, by rw [h4]; simp⟩

section
variable {C : Ctx} {f : Nat} {H G : List SO} {Q : SV → List SO → Prop} {x : SV}
theorem fin0 (hf : C.f = f) (hQ : C.Q = GQ H.length Q) (hw : Wf H) (hx : x.bnd H.length = true) (h : Q x H) : f = C.f ∧ C.Q x (H ++ G) := ⟨hf.symm, by rw [hQ]; exact gq0 hw hx h⟩
theorem fin00 (hf : C.f = f) (hQ : C.Q = GQ H.length Q) (hw : Wf H) (hx : x.bnd H.length = true) (h : Q x H) : f = C.f ∧ C.Q x H := ⟨hf.symm, by rw [hQ]; exact gq00 hw hx h⟩
end


/-- The code at the head, spelled out; nowhere else. -/
theorem hd {a b : IC} (h : a = b) {K : List FS → List SO → Prop} {C : Ctx} {fn : Nat} {ro : Option Nat} {N : Nat} {rs : List RP} {env : Env} {defs : List Nat} {r : List FS} {hs : List SO} {k : List It} :
    vcT K C fn ro N rs env defs r hs (.c a :: k) = vcT K C fn ro N rs env defs r hs (.c b :: k) := by rw [h]
theorem hdd {a b : DT} (h : a = b) {K : List FS → List SO → Prop} {C : Ctx} {fn : Nat} {ro : Option Nat} {N : Nat} {rs : List RP} {env : Env} {defs : List Nat} {r : List FS} {hs : List SO} {k : List It} {T : List (Nat × Nat)} :
    dvc K C fn ro N rs k defs r a env hs T = dvc K C fn ro N rs k defs r b env hs T := by rw [h]

theorem call_ev {env : Env} {hs : List SO} {f : Ex} {es : List Ex} {g : Nat} {caps vs : List SV} (hf : ev env f = some (.fn g caps)) (h : evs env es = some vs) (h1 : vs.all SV.one = true) : evR (.call f es) env hs = .call (.fn g caps) vs := by
  rw [evR_call, hf, h]
  simp only [callQ, h1, if_true]

section
variable {C : Ctx} {fn N : Nat} {ro : Option Nat} {rs : List RP} {env : Env} {k : List It} {defs : List Nat} {r : List FS} {hs : List SO} {op : IOp} {l : List IOp}
/-- Fewer slots in the frame below. -/
theorem ok_less2 {fn2 N2 : Nat} {ro2 : Option Nat} {rs2 : List RP} {env2 env' : Env} {k2 : List It} {defs2 : List Nat} {a : FS} (H : Ok C (a :: ⟨fn2, ro2, N2, rs2, env', k2, defs2⟩ :: r) hs) (h : envSub env' env2) : Ok C (a :: ⟨fn2, ro2, N2, rs2, env2, k2, defs2⟩ :: r) hs := by
  intro ν w fr frs hx hr hf
  cases frs with
  | nil => exact hf.2.elim
  | cons fr2 frs =>
    obtain ⟨h1, h2, h3⟩ := hf
    exact H ν w fr (fr2 :: frs) hx hr ⟨h1, ⟨h2.fn, h2.env.weaken (envSub_ok _ h), h2.todo, h2.defs, h2.mode, h2.kind, h2.ro, h2.rs⟩, h3⟩
/-- A call, carried out in place. -/
theorem ok_in {P : Program} (hP : C.P = P) (n : Nat) {f : Nat} {caps vs : List SV} (hg : wantG op.g env = some true) (hev : evR op.o env hs = .call (.fn f caps) vs) {c : FnC} (hF : FnOk P f c) (hc1 : caps.all SV.one = true) (hn : (vs ++ caps).length ≤ c.N)
    (K : vc n C (FS.start f c (vs ++ caps) :: ⟨fn, ro, N, rs, env, .ops (op :: l) :: k, defs⟩ :: r) hs) : Ok C (⟨fn, ro, N, rs, env, .ops (op :: l) :: k, defs⟩ :: r) hs := by
  subst hP
  exact ok_enter hg hev hF hc1 hn (vc_ok n _ _ K)
/-- A range over a function. -/
theorem ok_range {P : Program} (hP : C.P = P) (n : Nat) {e : Ex} {ps : List Nat} {x y : IC} {f : Nat} {caps : List SV} (he : ev env e = some (.fn f caps)) {c : FnC} (hF : FnOk P f c) (hc1 : caps.all SV.one = true) (hn : caps.length + 1 ≤ c.N)
    (K : vc n C (FS.start f c (.yld (hs.length + 1) :: caps) :: ⟨fn, none, N, rs, env, .irf (hs.length + 1) :: k, hs.length :: defs⟩ :: r) (hs ++ [.defd true] ++ [.loop .ready none fn env N ps x y hs.length])) :
    Ok C (⟨fn, none, N, rs, env, .c (.rf e ps x y) :: k, defs⟩ :: r) hs := by
  subst hP
  exact ok_rf he hF hc1 hn (vc_ok n _ _ K)
end

end Go.Pv
