/- From a contract by tags to a law's statement: what was there reads as before. -/
import Derived.ProofKit
import Derived.OpenShut
import Derived.ChangeSlices
import Derived.Test.YtifoaokodgbhjaaGreatVz
namespace Go.Pv
open Go Go.RowKit Go.WideShapes Go.ChangeShapes

theorem Below.trodAll {H : Type} {enc : TypeId × Value → H} {P : Program} (hl : laidOutB P = true) {W W' : World} (hb : Below W.heap.size W W') : ∀ (ts : List TypeId) (vs : List Value) (ds : List (DataW H)) (ps : List MemPlace) (sp : Nat → Bool),
    ts.all (fun t => P.readableRec t && decide (t < P.types.size)) = true → DataW.TrodAll enc P W 0 (fun _ => true) true ts vs ds ps → (∀ x ∈ ps, x.block < W.heap.size) → (∀ x ∈ ps, sp x.block = true) →
    DataW.TrodAll enc P W' 0 sp true ts vs ds ps
  | [], [], [], ps, sp, _, h, _, _ => h
  | [], _ :: _, _, _, _, _, h, _, _ => h.elim
  | [], [], _ :: _, _, _, _, h, _, _ => h.elim
  | _ :: _, [], _, _, _, _, h, _, _ => h.elim
  | _ :: _, _ :: _, [], _, _, _, h, _, _ => h.elim
  | t :: ts, v :: vs, d :: ds, ps, sp, ht, ⟨p, q, h1, h2, he⟩, hlt, hsp => by
    subst he
    simp only [List.all_cons, Bool.and_eq_true, decide_eq_true_eq] at ht
    obtain ⟨⟨r1, r2⟩, ht⟩ := ht
    refine ⟨p, q, ?_, Below.trodAll hl hb ts vs ds q sp ht h2 (fun x hx => hlt x (by simp [hx])) (fun x hx => hsp x (by simp [hx])), rfl⟩
    exact WideElems.Trod_stays hl r1 r2 h1 (fun x hx => hb.same (hlt x (by simp [hx]))) (fun x hx => hsp x (by simp [hx]))

theorem post_of_below {H : Type} {enc : TypeId × Value → H} {P : Program} {f : Func} {s : ChangeSpec} {apart fresh handsOn again : Bool} {W W' : World} {args : Array Value} {v : Value} {ds gs : List (DataW H)} {before pa pv : List MemPlace}
    (hW : DataW.Whole enc P f.params.toList s.vars apart W args.toList ds gs before)
    (hres : ∀ (b : Nat) (sp : Nat → Bool) (hd : Bool), DataW.TrodAll enc P W' b sp hd f.resultTypes.toList (v.resultList f.resultTypes.size) (s.fn H (ds ++ gs)).results [])
    (hargs : ∀ sp : Nat → Bool, (∀ p ∈ before, sp p.block = true) → DataW.TrodAll enc P W' 0 sp true f.params.toList args.toList (s.fn H (ds ++ gs)).args pa)
    (hvars : ∀ sp : Nat → Bool, (∀ p ∈ before, sp p.block = true) → DataW.TrodVars enc P W' sp s.vars (s.fn H (ds ++ gs)).vars pv)
    (hps : before = pa ++ pv) (hb : Below W.heap.size W W')
    (hok : ∀ (j : Nat) (t : TypeId) (r : Value), f.resultTypes[j]? = some t → (v.resultList f.resultTypes.size)[j]? = some r → Value.okWide P W' .any 0 t r) :
    s.post enc P f apart fresh handsOn again W args v W' := by
  have hlt : ∀ p ∈ before, p.block < W.heap.size := fun p hp => hW.lt p hp
  have hold : ∀ p ∈ before, (fun b => decide (b < W.heap.size)) p.block = true := fun p hp => by simpa using hlt p hp
  refine ⟨ds, gs, before, [], pa, pv, hW, hres _ _ _, hargs _ hold, hvars _ hold, World.keptBut_mono (fun p hp => ⟨hp, ?_⟩) (hb.frame (· ∈ before)), fun _ => ?_⟩
  · rw [hps, List.mem_append] at hp
    exact Or.inr hp
  · obtain ⟨_, _, _, _, _, hz, hn⟩ := hW
    refine ⟨hok, _, _, ([] ++ pa) ++ pv, ⟨[] ++ pa, pv, trodAll_append (hargs _ (fun _ _ => rfl)) (hres _ _ _), hvars _ (fun _ _ => rfl), rfl, ?_, ?_⟩, ?_⟩
    · intro b off hp
      have hin : MemPlace.cell b off ∈ before := by rw [hps]; simpa using hp
      rw [hb.frozen (hlt _ hin)]
      exact hz b off hin
    · intro ha
      have := hn ha
      rw [hps] at this
      simpa using this
    · intro p hp _
      rw [hps]
      simpa using hp

theorem rel_nil (P : Program) (W : World) : Rel P W [] [] [] W :=
  ⟨rfl, rfl, rfl, Nat.le_refl _, fun _ _ _ => rfl, fun i j b h => by simp at h, fun t b h => by simp at h, rfl, fun t b o h => by simp at h⟩

def SO.isC : SO → Bool
  | .cells .. => true
  | _ => false

/-- Blocks of cells that are as they were. -/
theorem below_of_rel {P : Program} {W W' : World} {ν ν' : Nu} {H : List SO} (hc : H.all SO.isC = true) (rel : Rel P W ν ν H W) (hx : Ext ν ν') (rel' : Rel P W ν ν' H W') : Below W.heap.size W W' := by
  refine ⟨rel'.os, rel'.tape, rel'.output, rel'.size, fun k hk => ?_⟩
  by_cases hm : k ∈ ν
  · obtain ⟨t, ht⟩ := List.mem_iff_getElem?.1 hm
    have htl : t < H.length := by rw [← rel.len]; exact (List.getElem?_eq_some_iff.1 ht).1
    have ho : H[t]? = some H[t] := List.getElem?_eq_getElem htl
    obtain ⟨O, d1, d2⟩ := rel.objs t k _ ht ho
    obtain ⟨O', d1', d2'⟩ := rel'.objs t k _ (hx t k ht) ho
    have hcc := List.all_eq_true.1 hc _ (List.getElem_mem htl)
    cases hob : H[t] with
    | cells cs ty a b =>
      rw [hob] at d1 d1'
      obtain ⟨C, e1, rfl⟩ := d1
      obtain ⟨C', e1', rfl⟩ := d1'
      have := dens_ext hx cs C e1
      rw [this] at e1'
      cases e1'
      rw [d2, d2']
    | _ => rw [hob] at hcc; cases hcc
  · exact rel'.frame k hk hm

/-- A law's call, out of its contract. -/
theorem law_calls {P : Program} {f : Nat} {as : List SV} {H : List SO} (hS : Spec P f as H fun v hs => v = .bool true ∧ hs = H) (hc : H.all SO.isC = true) {W : World} {ν : Nu} (rel : Rel P W ν ν H W) {args : Array Value} (hd : dens ν as = some args.toList) :
    Calls P f args W fun e W' => e = .returned (.bool true) ∧ Below W.heap.size W W' := by
  have := hS.ok ν W args.toList rel hd
  rw [Array.toArray_toList] at this
  refine Calls.mono this ?_
  intro e W' ⟨v, h1, ν', x, hs', h2, h3, h4, h5, h6⟩
  subst h1 h5 h6
  simp only [SV.den, Option.some.injEq] at h4
  subst h4
  exact ⟨rfl, below_of_rel hc rel h2 h3⟩

/-! ### What an argument is -/
section
variable {H : Type} {enc : TypeId × Value → H} {P : Program} {w : World} {base : Nat} {spare : Nat → Bool} {held : Bool}

/-- An array of numbers. -/
theorem open_ints_arr {r : Reach} {b0 : Nat} {t e : TypeId} {n : Nat} {k : IntKind} {v : Value} {d : DataW H} {ps : List MemPlace} (ht : P.underlying t = some (.array n e)) (he : P.underlying e = some (.int k)) (hc : P.cellsOf e = 1) (hn : P.cellsOf t = n)
    (hval : Value.okWide P w r b0 t v) (hd : DataW.Trod enc P w base spare held t v d ps) : ∃ l : List Int, l.length = n ∧ (∀ x ∈ l, k.min ≤ x ∧ x ≤ k.max) ∧ v = .agg (l.map (Value.int k)).toArray := by
  unfold Value.okWide at hval
  rw [ht] at hval
  obtain ⟨cs, rfl, hsz, _⟩ := hval
  obtain ⟨fuel, hd⟩ := hd
  obtain ⟨xs, m, rfl, _, hl, hxl, hall⟩ := DataW.trod_array ht hd
  simp only [Value.cells] at hl hall
  have each : ∀ i (hi : i < n), ∃ z : Int, cs.toList[i]? = some (.int k z) ∧ k.min ≤ z ∧ z ≤ k.max := by
    intro i hi
    have h1 := hall i hi
    rw [hc, Nat.mul_one] at h1
    have hi2 : i < cs.toList.length := by rw [hl, hn]; exact hi
    have h2 : (cs.toList.drop i).take 1 = [cs.toList[i]] := by rw [List.take_one, List.head?_drop]; simp [hi2]
    rw [h2] at h1
    rw [List.getElem?_eq_getElem (by rw [hxl]; exact hi)] at h1
    obtain ⟨m', q, hcell, hw⟩ : ∃ (z : Int) (u : Unit), cs.toList[i] = .int k z ∧ (Lit.int k z).wf = true := by
      cases m with
      | zero => simp [DataW.trod] at h1
      | succ m =>
        unfold DataW.trod at h1
        rw [he] at h1
        split at h1 <;> simp_all
    refine ⟨m', by rw [List.getElem?_eq_getElem hi2, hcell], ?_⟩
    simpa [Lit.wf] using hw
  have hlen : cs.toList.length = n := by rw [hl, hn]
  refine ⟨cs.toList.map fun v => (match v with | .int _ z => z | _ => 0), by simp [← hlen], ?_, ?_⟩
  · intro x hx
    obtain ⟨v, hv, rfl⟩ := List.mem_map.1 hx
    obtain ⟨i, hi⟩ := List.getElem?_of_mem hv
    obtain ⟨z, hz, hr⟩ := each i (by rw [← hlen]; exact (List.getElem?_eq_some_iff.1 hi).1)
    rw [hi] at hz; cases hz
    exact hr
  · congr 1
    rw [← Array.toList_inj]
    apply List.ext_getElem?
    intro i
    by_cases hi : i < n
    · obtain ⟨z, hz, _⟩ := each i hi
      rw [hz]
      simp only [List.getElem?_map, hz, Option.map_some]
    · rw [List.getElem?_eq_none (by omega), List.getElem?_eq_none (by simp; simp at hlen; omega)]
end

theorem dens_arr {ν : Nu} {k : IntKind} {n : Nat} {l : List Int} (h : l.length = n) : (SV.agg [.run k n l]).den ν = some (.agg (l.map (Value.int k)).toArray) := by
  simp only [SV.den, dens_run_mk h (dens_nil ν), List.append_nil, Option.map_some]

end Go.Pv
