/- A struct of numbers, opened. -/
import Derived.Test.YtifoaokodgbhjaaGreatWa
import Derived.Deep.Fields
namespace Go.Pv
open Go Go.ChangeShapes Go.WideShapes Go.Deep
section
variable {H : Type} {enc : TypeId × Value → H} {P : Program} {w : World} {base : Nat} {spare : Nat → Bool} {held : Bool}
theorem open_ints_struct {r : Reach} {b0 : Nat} {t : TypeId} {fs : Array Field} {v : Value} {d : DataW H} {ps : List MemPlace} (ht : P.underlying t = some (.struct fs)) (hone : oneCellFields P fs = true) (hC : P.cellsOf t = fs.size)
    (hval : Value.okWide P w r b0 t v) (hd : DataW.Trod enc P w base spare held t v d ps) :
    ∃ cs : Array Value, v = .agg cs ∧ cs.size = fs.size ∧ ∀ (i : Nat) (f : Field) (k : IntKind), fs[i]? = some f → P.underlying f.type = some (.int k) → ∃ z : Int, cs[i]? = some (.int k z) ∧ k.min ≤ z ∧ z ≤ k.max := by
  obtain ⟨cs, rfl, hsz⟩ := okWide_struct ht hval
  obtain ⟨fuel, hd⟩ := hd
  obtain ⟨xs, n, _, _, hl, hlen, hf⟩ := DataW.trod_struct ht hd
  refine ⟨cs, rfl, by rw [hsz, hC], fun i f k hi hk => ?_⟩
  obtain ⟨o1, o2⟩ := hone_of hone i f hi
  have h1 := hf i f hi
  have hi2 : i < cs.toList.length := by
    have := (Array.getElem?_eq_some_iff.1 hi).1
    simp; omega
  rw [o1, o2] at h1
  simp only [Value.cells] at h1
  have h2 : (cs.toList.drop i).take 1 = [cs.toList[i]] := by rw [List.take_one, List.head?_drop]; simp [hi2]
  rw [h2] at h1
  have hx : ∃ y, DataW.trod enc P w base spare held n f.type [cs.toList[i]] = some y := by
    rw [h1, List.getElem?_eq_getElem (by rw [hlen]; exact (Array.getElem?_eq_some_iff.1 hi).1)]
    exact ⟨_, rfl⟩
  obtain ⟨y, hy⟩ := hx
  obtain ⟨z, hz, _, hw⟩ := DataW.trod_int hk hy
  refine ⟨z, ?_, by simpa [Lit.wf] using hw⟩
  rw [← Array.getElem?_toList, List.getElem?_eq_getElem hi2]
  simp at hz
  simp [hz]
end
end Go.Pv
