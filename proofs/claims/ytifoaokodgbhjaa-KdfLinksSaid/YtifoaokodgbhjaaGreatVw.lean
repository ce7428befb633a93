/- Appending bytes to a row of one's own: in place or anew, the same content. -/
import Derived.Test.YtifoaokodgbhjaaGreatVu
namespace Go.Pv
open Go

section
variable {C : Ctx} {fn N : Nat} {ro : Option Nat} {rs : List RP} {env : Env} {k : List It} {defs : List Nat} {r : List FS} {hs : List SO} {op : IOp} {l : List IOp} {K : List FS → List SO → Prop}

theorem srcC_run {hs : List SO} {t len cap m ty a b off : Nat} {L : List Int} (ht : hs[t]? = some (.cells [.run .u8 m L] ty a b)) (hL : L.length = m ∨ off + len < m) (hm : off + len ≤ m) :
    ∃ p, srcC hs 1 (.sl t off len cap) = some (p, [.run .u8 len ((L.drop off).take len)], len) ∧ p := by
  rw [srcC_sl, ht]
  simp only [srcC2, Nat.mul_one, ldaR]
  by_cases h : off = 0 ∧ len = m
  · obtain ⟨rfl, rfl⟩ := h
    have hl : L.length = len := by
      rcases hL with h | h
      · exact h
      · omega
    refine ⟨True, ?_, trivial⟩
    simp [srcC3, ← hl]
  · rw [if_neg h]
    exact ⟨_, rfl, hm⟩

/-- **Bytes behind bytes of one's own row.** -/
theorem app_own {ex ey : Ex} {zeros : Bool} {t len cap n ty : Nat} {L l' : List Int} {p2 : Prop} (hx : ev env ex = some (.sl t 0 len cap)) (ht : hs[t]? = some (.cells [.run .u8 cap L] ty 0 0))
    (hy : srcZ hs 1 [.int .u8 0] zeros (ev env ey) = some (p2, [.run .u8 n l'], n)) (hp2 : p2) (hlen : len ≤ cap) (hL : L.length = cap) (hl' : l'.length = n) (hbig : len + n ≤ 140737488355328)
    (H : ∀ (t' cap' : Nat) (L' : List Int) (hs' : List SO), len + n ≤ cap' → L'.length = cap' → L'.take (len + n) = L.take len ++ l' →
      ((t' = t ∧ cap' = cap ∧ hs' = hs.set t (.cells [.run .u8 cap' L'] ty 0 0)) ∨ (t' = hs.length ∧ cap < len + n ∧ hs' = hs ++ [.cells [.run .u8 cap' L'] 5 0 0])) → nextK K fn ro N rs env l k defs r (.sl t' 0 (len + n) cap') hs' op.d) :
    resK K C fn ro N rs env op l k defs r hs (evR (.app 5 1 1 [.int .u8 0] zeros ex ey) env hs) := by
  rw [evR_app, hx, hy]
  obtain ⟨p1, hs1, hp1⟩ := srcC_run (cap := cap) (off := 0) (len := len) ht (.inl hL) (by omega)
  simp only [srcO, hs1, appQ, ht, appQ2, Nat.mul_one, List.drop_zero]
  have grow : cap < len + n → ∀ c, len + n ≤ c → nextK K fn ro N rs env l k defs r (.sl hs.length 0 (len + n) c) (hs ++ [.cells (growC [.int .u8 0] [.run .u8 len (L.take len)] [.run .u8 n l'] (len + n) c) 5 0 0]) op.d := by
    intro hlt c hc
    simp only [growC, flatI, if_true]
    refine H _ c _ _ hc ?_ ?_ (.inr ⟨rfl, hlt, rfl⟩)
    · simp; omega
    · rw [List.take_append_of_le_length (by simp; omega), List.take_of_length_le (by simp; omega)]
  have inpl : len + n ≤ cap → nextK K fn ro N rs env l k defs r (.sl t 0 (len + n) cap) (hs.set t (.cells [.run .u8 cap (L.take len ++ l' ++ L.drop (len + n))] ty 0 0)) op.d := by
    intro hc
    refine H t cap _ _ hc ?_ ?_ (.inl ⟨rfl, rfl, rfl⟩)
    · simp; omega
    · rw [List.take_append_of_le_length (by simp; omega), List.take_of_length_le (by simp; omega)]
  by_cases h0 : 0 + len = 0 ∧ n = cap
  · obtain ⟨h1, rfl⟩ := h0
    have hl0 : len = 0 := by omega
    subst hl0
    simp only [staC, and_self, if_true, appQ3, resK]
    refine ⟨⟨hp1, hp2, by omega, fun _ => ⟨trivial, by simp [free]⟩⟩, ?_⟩
    rw [if_pos (by omega)]
    have := inpl (by omega)
    have e : List.take 0 L ++ l' ++ List.drop (0 + n) L = l' := by simp; omega
    rw [e] at this
    exact this
  · simp only [staC, and_self, if_true]
    rw [if_neg h0]
    simp only [appQ3, resK]
    refine ⟨⟨hp1, hp2, by omega, fun h => ⟨by omega, by simp [free]⟩⟩, ?_⟩
    split
    · rename_i h
      have := inpl h
      simpa [Nat.zero_add, Nat.add_comm] using this
    · exact grow (by omega)
/-- Bytes behind nothing. -/
theorem app_nil {ex ey : Ex} {zeros : Bool} {n : Nat} {l' : List Int} {p2 : Prop} (hx : ev env ex = some .nils)
    (hy : srcZ hs 1 [.int .u8 0] zeros (ev env ey) = some (p2, [.run .u8 n l'], n)) (hp2 : p2) (hl' : l'.length = n) (hbig : n ≤ 140737488355328)
    (H0 : n = 0 → nextK K fn ro N rs env l k defs r .nils hs op.d)
    (H : 0 < n → ∀ (cap' : Nat) (L' : List Int), n ≤ cap' → L'.length = cap' → L'.take n = l' → nextK K fn ro N rs env l k defs r (.sl hs.length 0 n cap') (hs ++ [.cells [.run .u8 cap' L'] 5 0 0]) op.d) :
    resK K C fn ro N rs env op l k defs r hs (evR (.app 5 1 1 [.int .u8 0] zeros ex ey) env hs) := by
  rw [evR_app, hx, hy]
  simp only [srcO, srcC_nils, appQ, resK, Nat.zero_add]
  refine ⟨⟨trivial, hp2, by omega⟩, ?_⟩
  split
  · exact H0 (by omega)
  · intro c hc
    simp only [growC, flatI, if_true]
    refine H (by omega) c _ hc (by simp; omega) ?_
    rw [List.take_append_of_le_length (by simp; omega), List.take_of_length_le (by simp; omega)]
    rfl

/-- Bytes behind a row of no bytes. -/
theorem app_empty {ex ey : Ex} {zeros : Bool} {t n ty : Nat} {l' : List Int} {p2 : Prop} (hx : ev env ex = some (.sl t 0 0 0)) (ht : hs[t]? = some (.cells [] ty 0 0))
    (hy : srcZ hs 1 [.int .u8 0] zeros (ev env ey) = some (p2, [.run .u8 n l'], n)) (hp2 : p2) (hl' : l'.length = n) (hbig : n ≤ 140737488355328)
    (H : ∀ (t' cap' : Nat) (L' : List Int) (hs' : List SO), n ≤ cap' → L'.length = cap' → L'.take n = l' →
      ((t' = t ∧ hs' = hs.set t (.cells [.run .u8 cap' L'] ty 0 0)) ∨ (t' = hs.length ∧ hs' = hs ++ [.cells [.run .u8 cap' L'] 5 0 0])) → nextK K fn ro N rs env l k defs r (.sl t' 0 n cap') hs' op.d) :
    resK K C fn ro N rs env op l k defs r hs (evR (.app 5 1 1 [.int .u8 0] zeros ex ey) env hs) := by
  rw [evR_app, hx, hy]
  have hs0 : srcC hs 1 (.sl t 0 0 0) = some (True, [], 0) := by
    rw [srcC_sl, ht]
    rfl
  simp only [srcO, hs0, appQ, ht, appQ2, Nat.mul_one, Nat.zero_add]
  cases n with
  | zero =>
    have hl0 : l' = [] := by cases l' with | nil => rfl | cons _ _ => simp at hl'
    subst hl0
    have e : staC [] 0 0 [.run .u8 0 []] = some (True, [.run .u8 0 []]) := rfl
    simp only [e, appQ3, resK]
    refine ⟨⟨trivial, hp2, by omega, fun _ => ⟨trivial, by simp [free]⟩⟩, ?_⟩
    rw [if_pos (by omega)]
    exact H t 0 [] _ (by omega) rfl rfl (.inl ⟨rfl, rfl⟩)
  | succ n =>
    have e : staC [] 0 (n + 1) [.run .u8 (n + 1) l'] = none := by simp [staC, splC, dropC, wid, allOne]
    simp only [e, appQ3]
    rw [if_pos (by omega)]
    simp only [resK]
    refine ⟨⟨trivial, hp2, by omega⟩, ?_⟩
    rw [if_neg (by omega)]
    intro c hc
    simp only [growC, flatI, if_true, Nat.zero_add] at hc ⊢
    refine H _ c _ _ hc ?_ ?_ (.inr ⟨rfl, rfl⟩)
    · simp; omega
    · rw [List.take_append_of_le_length (by simp; omega), List.take_of_length_le (by simp; omega)]
      rfl
end

/-- The rows are as long as is said. -/
theorem ok_wf {C : Ctx} {fs : List FS} {hs : List SO} (t : Nat) {k : IntKind} {n : Nat} {l : List Int} {cs : List SV} {ty a b : Nat} (ht : hs[t]? = some (.cells (.run k n l :: cs) ty a b)) (H : l.length = n → Ok C fs hs) : Ok C fs hs := by
  intro ν w fr frs hx hr hf
  obtain ⟨bl, O, h1, ⟨Cs, h2, rfl⟩, h3⟩ := hr.at_ ht
  exact H (dens_cons_run h2).1 ν w fr frs hx hr hf

end Go.Pv
