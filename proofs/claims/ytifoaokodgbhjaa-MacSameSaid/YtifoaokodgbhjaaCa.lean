/- MacSame returns true at every input, and its arguments read as before. No conditions. -/
import Derived.Test.YtifoaokodgbhjaaRows
import Derived.Test.YtifoaokodgbhjaaSl
import Derived.Test.YtifoaokodgbhjaaGreatWa
namespace Go.Proofs.Ytifoaokodgbhjaa
open Go Go.Pv Go.ChangeShapes Go.WideShapes Go.ChangeAt Go.RowKit

theorem own_ : ownKnob Try.prog.godebug = none := by kernel_rfl
theorem laidOut_ : laidOutB Try.prog = true := by kernel_rfl

theorem macSame_calls (W : World) (a b : List Int) (near : Bool) (bit : Int) (la : a.length = 12) (lb : b.length = 12) (ha : Bytes a) (hb : Bytes b) :
    Calls Try.prog 3 #[.agg (a.map (Value.int .u8)).toArray, .agg (b.map (Value.int .u8)).toArray, .bool near, .int .i64 bit] W fun e W' => e = .returned (.bool true) ∧ Below W.heap.size W W' := by
  refine law_calls (splSame [] a b near bit ha hb la lb) rfl (rel_nil _ W) ?_
  exact dens_one_mk rfl (dens_arr la) (dens_one_mk rfl (dens_arr lb) (dens_one_mk rfl rfl (dens_one_mk rfl rfl (dens_nil _))))

set_option maxRecDepth 100000 in
theorem macSame_lifted (os : Os) (started : os.Started) (H : Type) (enc : TypeId × Value → H) :
    ReturnsInHanded {} Try.checked os 3 .any (Rows.macSameSpec.pre6 enc Try.prog Try.f3 Rows.macSameRow.domain false) (Rows.macSameSpec.post enc Try.prog Try.f3 false true false false) := by
  refine returnsInHanded_of_change (C := Try.checked) own_ started (by kernel_rfl) Try.func3
    (ChangeSpec.witness6 (enc := enc) (C := Try.checked) false ⟨#[], #[.agg (Array.replicate 12 (.int .u8 0)), .agg (Array.replicate 12 (.int .u8 0)), .bool false, .int .i64 0], []⟩ 8 (by kernel_rfl) (by kernel_rfl) (by kernel_rfl) (by kernel_rfl)) ?_
  intro W base args ds gs before hval0 hW hcnd _
  have hval : ∀ (j : Nat) t v, Try.f3.params[j]? = some t → args[j]? = some v → Value.okWide Try.prog W .any base t v := hval0
  have hW' := hW
  obtain ⟨p, q, hA0, hV, rfl, hfz, hnd⟩ := hW
  have hA : DataW.TrodAll enc Try.prog W 0 (fun _ => true) true Try.f3.params.toList args.toList ds p := hA0
  rw [Try.params3] at hA hval
  have hA1 := hA
  obtain ⟨v0, v1, v2, v3, d0, d1, d2, d3, p0, p1, p2, p3, rfl, rfl, rfl, h0, h1, h2, h3⟩ := trodAll_four hA
  obtain ⟨rfl, rfl⟩ := trodVars_none hV
  obtain ⟨a, la, ra, rfl⟩ := open_ints_arr Try.underlying22 Try.underlying5 (by kernel_rfl) (by kernel_rfl) (hval 0 22 v0 rfl rfl) h0
  obtain ⟨b, lb, rb, rfl⟩ := open_ints_arr Try.underlying22 Try.underlying5 (by kernel_rfl) (by kernel_rfl) (hval 1 22 v1 rfl rfl) h1
  obtain ⟨c, rfl, _⟩ := open_bool Try.underlying4 (hval 2 4 v2 rfl rfl) h2
  obtain ⟨n, rfl, _⟩ := open_int Try.underlying3 (hval 3 3 v3 rfl rfl) h3
  have h8 : IntKind.u8.min = 0 ∧ IntKind.u8.max = 255 := ⟨rfl, rfl⟩
  refine (macSame_calls W a b c n la lb (fun x hx => by have := ra x hx; omega) (fun x hx => by have := rb x hx; omega)).mono fun e W' ⟨he, hw⟩ => ?_
  subst he
  have hlt : ∀ x ∈ p0 ++ p1 ++ p2 ++ p3 ++ [], x.block < W.heap.size := fun x hx => hW'.lt x hx
  simp only [List.append_nil] at hW' hlt hA1
  exact ⟨_, rfl, post_of_below (pa := p0 ++ p1 ++ p2 ++ p3) (pv := []) hW' (fun _ _ _ => trodAll_mk1 (shut_bool Try.underlying4 true))
    (fun sp hsp => Below.trodAll laidOut_ hw _ _ _ _ sp (by kernel_rfl) hA1 hlt hsp) (fun _ _ => rfl) (by simp) hw
    (ok_one (by kernel_rfl) rfl (okWide_bool_mk Try.underlying4 true))⟩

theorem macSame_holds : Rows.MacSameSaid :=
  OpenClaim.holds_of_wide 3 Try.f3 rfl rfl rfl rfl rfl rfl rfl ⟨rfl, rfl, rfl, rfl, rfl⟩ rfl rfl rfl rfl rfl (by kernel_rfl) Try.func3 (by kernel_rfl)
    (of_decide_eq_true (by kernel_rfl)) (by unfold Func.isWrapper; first | (rw [if_pos (by decide +kernel)]; kernel_rfl) | (rw [if_neg (by decide +kernel)]; exact ⟨rfl, rfl⟩))
    (fun os started H enc _ => macSame_lifted os started H enc)
#print axioms macSame_holds
end Go.Proofs.Ytifoaokodgbhjaa
