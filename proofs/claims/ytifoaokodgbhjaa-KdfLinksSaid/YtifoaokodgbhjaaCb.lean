/- KdfLinks returns true at every input, and its argument reads as before. No conditions. -/
import Derived.Test.YtifoaokodgbhjaaRows
import Derived.Test.YtifoaokodgbhjaaTb
import Derived.Test.YtifoaokodgbhjaaGreatWb
namespace Go.Proofs.Ytifoaokodgbhjaa
open Go Go.Pv Go.ChangeShapes Go.WideShapes Go.ChangeAt Go.RowKit

theorem own_ : ownKnob Try.prog.godebug = none := by kernel_rfl
theorem laidOut_ : laidOutB Try.prog = true := by kernel_rfl

theorem kdfLinks_calls (W : World) (a b p q f g : Int) (ha : 0 ≤ a ∧ a < 4294967296) (hb : 0 ≤ b ∧ b < 4294967296) (hp : 0 ≤ p ∧ p < 65536) (hq : 0 ≤ q ∧ q < 65536) (hf : 0 ≤ f ∧ f < 4294967296) (hg : 0 ≤ g ∧ g < 4294967296) :
    Calls Try.prog 5 #[.agg #[.int .u32 a, .int .u32 b, .int .u16 p, .int .u16 q, .int .u32 f, .int .u32 g]] W fun e W' => e = .returned (.bool true) ∧ Below W.heap.size W W' := by
  refine law_calls (splLinks [] a b p q f g ha hb hp hq hf hg) rfl (rel_nil _ W) ?_
  exact dens_one_mk rfl rfl (dens_nil _)

set_option maxRecDepth 100000 in
theorem kdfLinks_lifted (os : Os) (started : os.Started) (H : Type) (enc : TypeId × Value → H) :
    ReturnsInHanded {} Try.checked os 5 .any (Rows.kdfLinksSpec.pre6 enc Try.prog Try.f5 Rows.kdfLinksRow.domain false) (Rows.kdfLinksSpec.post enc Try.prog Try.f5 false true false false) := by
  refine returnsInHanded_of_change (C := Try.checked) own_ started (by kernel_rfl) Try.func5
    (ChangeSpec.witness6 (enc := enc) (C := Try.checked) false ⟨#[], #[.agg #[.int .u32 0, .int .u32 0, .int .u16 0, .int .u16 0, .int .u32 0, .int .u32 0]], []⟩ 8 (by kernel_rfl) (by kernel_rfl) (by kernel_rfl) (by kernel_rfl)) ?_
  intro W base args ds gs before hval0 hW hcnd _
  have hval : ∀ (j : Nat) t v, Try.f5.params[j]? = some t → args[j]? = some v → Value.okWide Try.prog W .any base t v := hval0
  have hW' := hW
  obtain ⟨p, q, hA0, hV, rfl, hfz, hnd⟩ := hW
  have hA : DataW.TrodAll enc Try.prog W 0 (fun _ => true) true Try.f5.params.toList args.toList ds p := hA0
  rw [Try.params5] at hA hval
  have hA1 := hA
  obtain ⟨v0, d0, rfl, rfl, h0⟩ := trodAll_one hA
  obtain ⟨rfl, rfl⟩ := trodVars_none hV
  obtain ⟨cs, rfl, hsz, hall⟩ := open_ints_struct Try.underlying38 (by kernel_rfl) (by kernel_rfl) (hval 0 38 v0 rfl rfl) h0
  obtain ⟨z0, c0, r0⟩ := hall 0 _ .u32 rfl Try.underlying36
  obtain ⟨z1, c1, r1⟩ := hall 1 _ .u32 rfl Try.underlying36
  obtain ⟨z2, c2, r2⟩ := hall 2 _ .u16 rfl Try.underlying28
  obtain ⟨z3, c3, r3⟩ := hall 3 _ .u16 rfl Try.underlying28
  obtain ⟨z4, c4, r4⟩ := hall 4 _ .u32 rfl Try.underlying36
  obtain ⟨z5, c5, r5⟩ := hall 5 _ .u32 rfl Try.underlying36
  have hcs : cs = #[.int .u32 z0, .int .u32 z1, .int .u16 z2, .int .u16 z3, .int .u32 z4, .int .u32 z5] := by
    apply Array.ext
    · rw [hsz]; rfl
    · intro i h1 h2
      have h3 : i < 6 := h2
      have e : ∀ j (hj : j < cs.size) x, cs[j]? = some x → cs[j] = x := fun j hj x hx => by
        rw [Array.getElem?_eq_getElem hj] at hx; exact Option.some.inj hx
      obtain rfl | rfl | rfl | rfl | rfl | rfl : i = 0 ∨ i = 1 ∨ i = 2 ∨ i = 3 ∨ i = 4 ∨ i = 5 := by omega
      · exact e _ h1 _ c0
      · exact e _ h1 _ c1
      · exact e _ h1 _ c2
      · exact e _ h1 _ c3
      · exact e _ h1 _ c4
      · exact e _ h1 _ c5
  subst hcs
  have k32 : IntKind.u32.min = 0 ∧ IntKind.u32.max = 4294967295 := ⟨rfl, rfl⟩
  have k16 : IntKind.u16.min = 0 ∧ IntKind.u16.max = 65535 := ⟨rfl, rfl⟩
  refine (kdfLinks_calls W z0 z1 z2 z3 z4 z5 (by omega) (by omega) (by omega) (by omega) (by omega) (by omega)).mono fun e W' ⟨he, hw⟩ => ?_
  subst he
  have hlt : ∀ x ∈ p ++ [], x.block < W.heap.size := fun x hx => hW'.lt x hx
  simp only [List.append_nil] at hW' hlt hA1
  exact ⟨_, rfl, post_of_below (pa := p) (pv := []) hW' (fun _ _ _ => trodAll_mk1 (shut_bool Try.underlying4 true))
    (fun sp hsp => Below.trodAll laidOut_ hw _ _ _ _ sp (by kernel_rfl) hA1 hlt hsp) (fun _ _ => rfl) (by simp) hw
    (ok_one (by kernel_rfl) rfl (okWide_bool_mk Try.underlying4 true))⟩

theorem kdfLinks_holds : Rows.KdfLinksSaid :=
  OpenClaim.holds_of_wide 5 Try.f5 rfl rfl rfl rfl rfl rfl rfl ⟨rfl, rfl, rfl, rfl, rfl⟩ rfl rfl rfl rfl rfl (by kernel_rfl) Try.func5 (by kernel_rfl)
    (of_decide_eq_true (by kernel_rfl)) (by unfold Func.isWrapper; first | (rw [if_pos (by decide +kernel)]; kernel_rfl) | (rw [if_neg (by decide +kernel)]; exact ⟨rfl, rfl⟩))
    (fun os started H enc _ => kdfLinks_lifted os started H enc)
#print axioms kdfLinks_holds
end Go.Proofs.Ytifoaokodgbhjaa
