/- Bytes, nil or not: what they hold, and appending them. -/
import Derived.Test.YtifoaokodgbhjaaGreatVw
namespace Go.Pv
open Go

/-- What a slice of a row holds. -/
def part (L : List Int) (off len : Nat) : List Int := (L.drop off).take len

/-- `x` holds the bytes `c`. -/
def Bts (hs : List SO) (x : SV) (c : List Int) : Prop :=
  (x = .nils ∧ c = []) ∨ ∃ t off cap m L ty a b, x = .sl t off c.length cap ∧ hs[t]? = some (.cells [.run .u8 m L] ty a b) ∧ L.length = m ∧ off + c.length ≤ m ∧ part L off c.length = c

section
variable {C : Ctx} {fn N : Nat} {ro : Option Nat} {rs : List RP} {env : Env} {k : List It} {defs : List Nat} {r : List FS} {hs : List SO} {op : IOp} {l : List IOp} {K : List FS → List SO → Prop}

/-- Bytes behind bytes of one's own row. -/
theorem app_cat {ex ey : Ex} {t len cap ty : Nat} {L c : List Int} {x : SV} (hx : ev env ex = some (.sl t 0 len cap)) (ht : hs[t]? = some (.cells [.run .u8 cap L] ty 0 0))
    (hy : ev env ey = some x) (hb : Bts hs x c) (hlen : len ≤ cap) (hL : L.length = cap) (hbig : len + c.length ≤ 140737488355328)
    (H : ∀ (t' cap' : Nat) (L' : List Int) (hs' : List SO), len + c.length ≤ cap' → L'.length = cap' → L'.take (len + c.length) = L.take len ++ c →
      ((t' = t ∧ cap' = cap ∧ hs' = hs.set t (.cells [.run .u8 cap' L'] ty 0 0)) ∨ (t' = hs.length ∧ cap < len + c.length ∧ hs' = hs ++ [.cells [.run .u8 cap' L'] 5 0 0])) → nextK K fn ro N rs env l k defs r (.sl t' 0 (len + c.length) cap') hs' op.d) :
    resK K C fn ro N rs env op l k defs r hs (evR (.app 5 1 1 [.int .u8 0] false ex ey) env hs) := by
  rcases hb with ⟨rfl, rfl⟩ | ⟨t2, off, cap2, m, L2, ty2, a2, b2, rfl, ht2, hL2, hm, hp⟩
  · rw [evR_app, hx, hy]
    obtain ⟨p1, hs1, hp1⟩ := srcC_run (cap := cap) (off := 0) (len := len) ht (.inl hL) (by omega)
    have e : staC [.run .u8 cap L] (0 + len * 1) 0 [] = some (0 + len * 1 ≤ wid [.run .u8 cap L], [.run .u8 cap L]) := rfl
    simp only [srcO, srcZ, srcC_nils, hs1, appQ, ht, appQ2, Nat.zero_mul, e, appQ3, resK]
    refine ⟨⟨hp1, trivial, by simpa using hbig, fun _ => ⟨by simp [wid]; omega, by simp [free]⟩⟩, ?_⟩
    rw [if_pos (by omega)]
    exact H t cap L _ (by simpa using hlen) hL (by simp) (.inl ⟨rfl, rfl, rfl⟩)
  · obtain ⟨p2, hs2, hp2⟩ := srcC_run (cap := cap2) (off := off) (len := c.length) ht2 (.inl hL2) hm
    refine app_own (n := c.length) (l' := c) hx ht (p2 := p2) ?_ hp2 hlen hL rfl hbig H
    rw [hy]
    simp only [srcZ, hs2]
    rw [show (L2.drop off).take c.length = c from hp]

/-- Bytes behind nil. -/
theorem app_cat_nil {ex ey : Ex} {c : List Int} {x : SV} (hx : ev env ex = some .nils) (hy : ev env ey = some x) (hb : Bts hs x c) (hbig : c.length ≤ 140737488355328)
    (H0 : c = [] → nextK K fn ro N rs env l k defs r .nils hs op.d)
    (H : c ≠ [] → ∀ (cap' : Nat) (L' : List Int), c.length ≤ cap' → L'.length = cap' → L'.take c.length = c → nextK K fn ro N rs env l k defs r (.sl hs.length 0 c.length cap') (hs ++ [.cells [.run .u8 cap' L'] 5 0 0]) op.d) :
    resK K C fn ro N rs env op l k defs r hs (evR (.app 5 1 1 [.int .u8 0] false ex ey) env hs) := by
  rcases hb with ⟨rfl, rfl⟩ | ⟨t2, off, cap2, m, L2, ty2, a2, b2, rfl, ht2, hL2, hm, hp⟩
  · rw [evR_app, hx, hy]
    simp only [srcO, srcZ, srcC_nils, appQ, resK]
    refine ⟨⟨trivial, trivial, by omega⟩, ?_⟩
    rw [if_pos (by omega)]
    exact H0 rfl
  · obtain ⟨p2, hs2, hp2⟩ := srcC_run (cap := cap2) (off := off) (len := c.length) ht2 (.inl hL2) hm
    refine app_nil (n := c.length) (l' := c) hx (p2 := p2) ?_ hp2 rfl hbig (fun h => H0 (by simpa using h)) (fun h => H (by intro e; subst e; simp at h))
    rw [hy]
    simp only [srcZ, hs2]
    rw [show (L2.drop off).take c.length = c from hp]
end

end Go.Pv
