/- Operations that write or make memory: what they do by tags, and that the program's do the same. -/
import Derived.Test.YtifoaokodgbhjaaGreatVf
namespace Go.Pv
open Go

/-- May no cell from `o` on (`n` of them) be written? `a`, `b`: the frozen range. -/
def free (a b o n : Nat) : Prop := b ≤ a ∨ o + n ≤ a ∨ b ≤ o

def stR (hs : List SO) (t : Nat) (cs : List SV) (ty a b off : Nat) (v : SV) : Res :=
  match cs, v with
  | [.run k n l], .int k' x => if k = k' then .u (off < n ∧ free a b off 1) (hs.set t (.cells [.run k n (l.set off x)] ty a b)) else .no
  | cs, v => if v.c1 = true then (match wrC cs off v with
    | some cs' => .u (free a b off 1) (hs.set t (.cells cs' ty a b))
    | none => .no) else .no

def allOne : List SV → Bool
  | [] => true
  | c :: r => (match c with | .run _ _ _ => true | c => c.c1) && allOne r

/-- The cells behind a store of many. -/
def staC (cs : List SV) (off n : Nat) (new : List SV) : Option (Prop × List SV) :=
  match cs, new with
  | cs, [] => if n = 0 then some (off ≤ wid cs, cs) else none
  | [.run k m l], [.run k' n' l'] => if k = k' ∧ n' = n then
      (if off = 0 ∧ n = m then some (True, [.run k m l']) else some (off + n ≤ m, [.run k m (l.take off ++ l' ++ l.drop (off + n))])) else none
  | cs, new => if wid new = n ∧ allOne new = true then (match splC cs off n new with
    | some cs' => some (True, cs')
    | none => none) else none

def staR (hs : List SO) (t : Nat) (cs : List SV) (ty a b off n : Nat) (new : List SV) : Res :=
  match staC cs off n new with
  | some (p, cs') => .u (p ∧ free a b off n) (hs.set t (.cells cs' ty a b))
  | none => .no

/-- What a slice or a string holds, as cells. -/
def srcC (hs : List SO) (sz : Nat) (x : SV) : Option (Prop × List SV × Nat) :=
  match x with
  | .nils => some (True, [], 0)
  | .sl t off len _ => match hs[t]? with
    | some (.cells cs _ _ _) => match ldaR cs off (len * sz) with
      | .v p (.agg d) => some (p, d, len)
      | _ => none
    | _ => none
  | .str s => if sz = 1 then some (True, [.run .u8 s.size (s.data.toList.map fun b => (b.toNat : Int))], s.size) else none
  | _ => none

/-- Cells of integers of one kind. -/
def flatI (k : IntKind) : List SV → Option (List Int)
  | [] => some []
  | [.run k' _ l] => if k = k' then some l else none
  | _ => none

def growC (z old new : List SV) (need c : Nat) : List SV :=
  match z with
  | [.int k n] => match flatI k old, flatI k new with
    | some a, some b => [.run k c (a ++ b ++ List.replicate (c - need) n)]
    | _, _ => old ++ new ++ (List.replicate (c - need) z).flatten
  | _ => old ++ new ++ (List.replicate (c - need) z).flatten

/-- What a map has under a number. -/
def findM (k : IntKind) (n : Int) : List (IntKind × Int × SV × Nat) → Option (Option SV)
  | [] => some none
  | (k', m, v, _) :: r => if k = k' then (if (n == m) = true then some (some v) else findM k n r) else none
def insM (k : IntKind) (n : Int) (v : SV) (c : Nat) : List (IntKind × Int × SV × Nat) → Option (List (IntKind × Int × SV × Nat) × Nat)
  | [] => some ([(k, n, v, c)], c + 1)
  | (k', m, u, b) :: r => if k = k' then (if (n == m) = true then some ((k', m, v, b) :: r, c) else (insM k n v c r).map fun x => ((k', m, u, b) :: x.1, x.2)) else none
def lkpR (z : SV) (ok : Bool) (hs : List SO) : Option (Option SV) → Res
  | some (some v) => if ok then .n True (.tup [v, .bool true]) hs else .n True v hs
  | some none => if ok then .n True (.tup [z, .bool false]) hs else .n True z hs
  | none => .no
def insR (hs : List SO) (t : Nat) : Option (List (IntKind × Int × SV × Nat) × Nat) → Res
  | some (es, c) => .u True (hs.set t (.map es c))
  | none => .no

def evW (o : O) (env : Env) (hs : List SO) : Res :=
  match o with
  | .lkp z ok m k => match ev env m, ev env k with
    | some (.mp t), some (.int kk n) => match hs[t]? with
      | some (.map es _) => lkpR z ok hs (findM kk n es)
      | _ => .no
    | some .nilm, some (.int _ _) => lkpR z ok hs (some none)
    | _, _ => .no
  | .ins m k x => match ev env m, ev env k, ev env x with
    | some (.mp t), some (.int kk n), some v => match hs[t]? with
      | some (.map es c) => if v.one = true then insR hs t (insM kk n v c es) else .no
      | _ => .no
    | _, _, _ => .no
  | .al ty z => .n True (.ptr hs.length 0) (hs ++ [.cells z ty 0 0])
  | .bx ty x => match ev env x with
    | some (.agg cs) => .n True (.ptr hs.length 0) (hs ++ [.cells cs ty 0 0])
    | some v => if v.c1 = true then .n True (.ptr hs.length 0) (hs ++ [.cells [v] ty 0 0]) else .no
    | none => .no
  | .bsl ty len z ps => match bldR (ev env) z ps with
    | some cs => .n True (.sl hs.length 0 len len) (hs ++ [.cells cs ty 0 0])
    | none => .no
  | .st x y => match ev env x, ev env y with
    | some (.ptr t off), some v => match hs[t]? with
      | some (.cells cs ty a b) => stR hs t cs ty a b off v
      | _ => .no
    | _, _ => .no
  | .sta x y n => match ev env x, ev env y with
    | some (.ptr t off), some (.agg new) => match hs[t]? with
      | some (.cells cs ty a b) => staR hs t cs ty a b off n new
      | _ => .no
    | _, _ => .no
  | .mks ty _ by_ z l c => match ev env l, ev env c with
    | some (.int _ l), some (.int _ c) => .n (0 ≤ l ∧ l ≤ c ∧ c * by_ ≤ 140737488355328 ∧ by_ ≠ 0) (.sl hs.length 0 l.toNat c.toNat) (hs ++ [.cells (zerosC z c.toNat) ty 0 0])
    | _, _ => .no
  | .app ty sz by_ z zeros x y => match ev env x, ev env y with
    | some d, some v => match srcC hs sz d, (if zeros = true then (match v with | .int _ n => some (0 ≤ n, zerosC z n.toNat, n.toNat) | _ => none) else srcC hs sz v) with
      | some (p1, old, len), some (p2, new, n) => match d with
        | .nils => .ap (p1 ∧ p2 ∧ (len + n) * by_ ≤ 140737488355328) (len + n) 0 .nils hs fun c => (.sl hs.length 0 (len + n) c, hs ++ [.cells (growC z old new (len + n) c) ty 0 0])
        | .sl t off _ cap => match hs[t]? with
          | some (.cells cs ty' a b) => match staC cs (off + len * sz) (n * sz) new with
            | some (p3, cs') => .ap (p1 ∧ p2 ∧ (len + n) * by_ ≤ 140737488355328 ∧ (len + n ≤ cap → p3 ∧ free a b (off + len * sz) (n * sz))) (len + n) cap (.sl t off (len + n) cap) (hs.set t (.cells cs' ty' a b))
                fun c => (.sl hs.length 0 (len + n) c, hs ++ [.cells (growC z old new (len + n) c) ty 0 0])
            | none => if cap < len + n then .ap (p1 ∧ p2 ∧ (len + n) * by_ ≤ 140737488355328) (len + n) cap .nils hs fun c => (.sl hs.length 0 (len + n) c, hs ++ [.cells (growC z old new (len + n) c) ty 0 0]) else .no
          | _ => .no
        | _ => .no
      | _, _ => .no
    | _, _ => .no
  | .cpy sz x y => match ev env x, ev env y with
    | some (.sl t off len _), some v => match srcC hs sz v with
      | some (p1, src, n) => match hs[t]? with
        | some (.cells cs ty a b) => if n ≤ len then (match staC cs off (n * sz) src with
            | some (p3, cs') => .n (p1 ∧ p3 ∧ free a b off (n * sz)) (.int .i64 n) (hs.set t (.cells cs' ty a b))
            | none => .no) else (match ldaR src 0 (len * sz) with
            | .v p2 (.agg src') => (match staC cs off (len * sz) src' with
              | some (p3, cs') => .n (p1 ∧ p2 ∧ p3 ∧ free a b off (len * sz)) (.int .i64 len) (hs.set t (.cells cs' ty a b))
              | none => .no)
            | _ => .no)
        | _ => .no
      | none => .no
    | _, _ => .no
  | .s2b ty x => match ev env x with
    | some (.str s) => .ap (s.size ≤ 9223372036854775807) (s.size + 1) 0 .nils hs fun c => (.sl hs.length 0 s.size (c - 1), hs ++ [.cells [.run .u8 (c - 1) (s.data.toList.map (fun b => (b.toNat : Int)) ++ List.replicate (c - 1 - s.size) 0)] ty (c - 1) c])
    | _ => .no
  | .b2s x => match ev env x with
    | some .nils => .v True (.str ByteArray.empty)
    | some (.sl t off len _) => match hs[t]? with
      | some (.cells cs _ _ _) => match ldaR cs off len with
        | .v p (.agg d) => match flatI .u8 d with
          | some l => .v p (.str ⟨(l.map fun n => UInt8.ofNat n.toNat).toArray⟩)
          | none => .no
        | _ => .no
      | _ => .no
    | _ => .no
  | .mark x => match ev env x with
    | some (.sl t off len cap) => match hs[t]? with
      | some (.cells cs ty a b) => .n True (.sl t off len cap) (hs.set t (.cells cs ty (if a = b then wid cs else min a (wid cs)) (if a = b then wid cs + 1 else max b (wid cs + 1))))
      | _ => .no
    | _ => .no
  | .mkm => .n True (.mp hs.length) (hs ++ [.map [] 0])
  | .call f as => match ev env f, evs env as with
    | some f, some as => if as.all SV.one then .call f as else .no
    | _, _ => .no
  | _ => .no

section
variable {P : Program} {w0 : World} {ν0 : Nu}

/-- The run gives `x` and leaves `hs`. -/
def DoesN (P : Program) (w0 : World) (ν0 ν : Nu) (x : SV) (hs : List SO) (r : Result Next) : Prop :=
  ∃ V w' ν', Ext ν ν' ∧ Rel P w0 ν0 ν' hs w' ∧ x.den ν' = some V ∧ r = .ok (.value V) w'
def DoesU (P : Program) (w0 : World) (ν0 ν : Nu) (hs : List SO) (r : Result Next) : Prop :=
  ∃ w', Rel P w0 ν0 ν hs w' ∧ r = .ok .skip w'
def Does (P : Program) (w0 : World) (ν0 ν : Nu) (hs : List SO) (r : Result Next) : Res → Prop
  | .v p x => p → DoesN P w0 ν0 ν x hs r
  | .n p x hs' => p → DoesN P w0 ν0 ν x hs' r
  | .u p hs' => p → DoesU P w0 ν0 ν hs' r
  | .ap p need cap x hs' f => p → (need ≤ cap ∧ DoesN P w0 ν0 ν x hs' r) ∨ (cap < need ∧ ∃ c, need ≤ c ∧ DoesN P w0 ν0 ν (f c).1 (f c).2 r)
  | .call _ _ => True
  | .no => True

variable {ν : Nu} {N : Nat} {env : Env} {a : Act} {hs : List SO} {w : World}

/-- A new block of cells. -/
theorem does_new (rel : Rel P w0 ν0 ν hs w) {x : SV} {cs : List SV} {C : List Value} {ty : Nat} (hd : dens ν cs = some C) {V : Value} (hx : x.den (ν ++ [w.heap.size]) = some V)
    {r : Result Next} (hr : r = .ok (.value V) { w with heap := w.heap.push (.cells C.toArray ty) }) : DoesN P w0 ν0 ν x (hs ++ [.cells cs ty 0 0]) r :=
  ⟨V, _, ν ++ [w.heap.size], Ext.app _ _, rel.alloc ⟨C, dens_ext (Ext.app _ _) _ _ hd, rfl⟩, hx, hr⟩

theorem den_ptr_new (rel : Rel P w0 ν0 ν hs w) (off : Nat) : (SV.ptr hs.length off).den (ν ++ [w.heap.size]) = some (.pointer (some ⟨w.heap.size, off, none⟩)) := by
  simp [SV.den, ← rel.len]
theorem den_sl_new (rel : Rel P w0 ν0 ν hs w) (off len cap : Nat) : (SV.sl hs.length off len cap).den (ν ++ [w.heap.size]) = some (.slice (some ⟨w.heap.size, off, none⟩) len cap) := by
  simp [SV.den, ← rel.len]

theorem w_alloc (rel : Rel P w0 ν0 ν hs w) {t : TypeId} {o : O} (hc : compOp P (.alloc t) = some o) :
    Does P w0 ν0 ν hs ((do pure (Next.value (← Instr.alloc t true (.tuple #[]))) : Sem Next).run P w) (evW o env hs) := by
  simp only [compOp, Option.map_eq_some_iff] at hc
  obtain ⟨z, hz, rfl⟩ := hc
  obtain ⟨i, V, h1, h2, _, h3⟩ := zeroOf_ok hz
  intro _
  refine does_new rel (h3 ν) (den_ptr_new rel 0) ?_
  simp [Instr.alloc, zeroValue, typeInfo, h1, h2, newVar, newRow]

theorem w_box (rel : Rel P w0 ν0 ν hs w) (he : EnvOk ν N env a.tmps) {t : TypeId} {x : Operand} {o : O} (hc : compOp P (.box t x) = some o) :
    Does P w0 ν0 ν hs ((do pure (Next.value (← Instr.box t (a.eval x))) : Sem Next).run P w) (evW o env hs) := by
  simp only [compOp, Option.map_eq_some_iff] at hc
  obtain ⟨e, h1, rfl⟩ := hc
  simp only [evW]
  split
  · rename_i cs hx
    obtain ⟨C, hd, hE⟩ := den_agg (ev_ok he h1 hx)
    intro _
    refine does_new rel hd (den_ptr_new rel 0) ?_
    simp [Instr.box, hE, Value.cells, newVar, newRow]
  · rename_i v hna hx
    split
    · rename_i hc1
      have hE := ev_ok he h1 hx
      intro _
      refine does_new rel (dens_one_mk (SV.c1_one hc1) hE (dens_nil ν)) (den_ptr_new rel 0) ?_
      simp [Instr.box, (SV.c1_cell hc1 hE).2, newVar, newRow]
    · trivial
  · trivial

/-- A store of one cell. -/
theorem run_store1 {w : World} {b off : Nat} {C : List Value} {ty : Nat} {f g : Nat} (hw : w.heap[b]? = some (.cells C.toArray ty (f, g))) (hlt : off < C.length) (hf : free f g off 1) {V : Value} (hV : V.oneCell' = true) :
    (store ⟨b, off, none⟩ V).run P w = .ok () (w.setCell ⟨b, off, none⟩ V) := by
  have hfr : w.frozen? ⟨b, off, none⟩ = false := by
    simp only [World.frozen?, hw]
    unfold free at hf
    simp
    omega
  rw [run_store P w _ V _ hV, cell_at hw]
  simp [hlt, hfr]
theorem heap_setCell_eq {w : World} {b off : Nat} {C : List Value} {ty : Nat} {f : Nat × Nat} (hw : w.heap[b]? = some (.cells C.toArray ty f)) (V : Value) :
    (w.setCell ⟨b, off, none⟩ V).heap[b]? = some (.cells (C.set off V).toArray ty f) := by
  obtain ⟨hlt, hv⟩ := Array.getElem?_eq_some_iff.1 hw
  simp only [World.setCell]
  rw [Array.getElem?_modify, if_pos rfl, hw]
  simp
theorem heap_setCell_ne {w : World} {b off i : Nat} (V : Value) (h : i ≠ b) : (w.setCell ⟨b, off, none⟩ V).heap[i]? = w.heap[i]? := by
  simp only [World.setCell]
  rw [Array.getElem?_modify, if_neg (fun e => h e.symm)]

theorem run_storeCellsF : ∀ (new : List Value) (w : World) (b off i : Nat) (C : List Value) (ty f g : Nat), w.heap[b]? = some (.cells C.toArray ty (f, g)) → off + i + new.length ≤ C.length → free f g (off + i) new.length → (∀ v ∈ new, v.oneCell' = true) →
    ∃ w', (storeCells ⟨b, off, none⟩ new i).run P w = .ok () w' ∧ w'.os = w.os ∧ w'.tape = w.tape ∧ w'.output = w.output ∧ w'.heap.size = w.heap.size ∧ (∀ j, j ≠ b → w'.heap[j]? = w.heap[j]?) ∧
      w'.heap[b]? = some (.cells (C.take (off + i) ++ new ++ C.drop (off + i + new.length)).toArray ty (f, g))
  | [], w, b, off, i, C, ty, f, g, hw, hl, hf, h1 => ⟨w, rfl, rfl, rfl, rfl, rfl, fun _ _ => rfl, by simpa using hw⟩
  | v :: new, w, b, off, i, C, ty, f, g, hw, hl, hf, h1 => by
    simp only [List.length_cons] at hl hf
    have hlt : off + i < C.length := by omega
    have hf1 : free f g (off + i) 1 := by unfold free at *; omega
    have hf2 : free f g (off + (i + 1)) new.length := by unfold free at *; omega
    have hs := run_store1 (P := P) hw hlt hf1 (h1 v List.mem_cons_self)
    obtain ⟨w', r1, r2, r3, r4, r5, r6, r7⟩ := run_storeCellsF new (w.setCell ⟨b, off + i, none⟩ v) b off (i + 1) (C.set (off + i) v) ty f g (heap_setCell_eq hw v) (by simp; omega) hf2 (fun u hu => h1 u (List.mem_cons_of_mem _ hu))
    refine ⟨w', ?_, r2, r3, r4, by rw [r5]; simp [World.setCell], fun j hj => (r6 j hj).trans (heap_setCell_ne v hj), ?_⟩
    · simp only [storeCells, Sem.run_bind, add_mid, hs, Result.andThen_ok]
      exact r1
    · rw [r7]
      congr 2
      apply congrArg List.toArray
      apply List.ext_getElem?
      intro j
      simp only [List.getElem?_append, List.getElem?_take, List.getElem?_drop, List.getElem?_set, List.length_append, List.length_take, List.length_set, List.length_cons, List.getElem?_cons]
      have e1 : min (off + (i + 1)) C.length = off + i + 1 := by omega
      have e2 : min (off + i) C.length = off + i := by omega
      simp only [e1, e2]
      by_cases c1 : j < off + i
      · simp [c1, show j < off + i + 1 by omega, show j < off + i + 1 + new.length by omega, show j < off + i + (new.length + 1) by omega, show ¬ off + i = j by omega, show j < off + (i + 1) by omega]
      · by_cases c2 : j = off + i
        · subst c2
          simp [hlt, show off + i < off + (i + 1) by omega, show off + i < off + i + 1 + new.length by omega]
        · have c4 : ¬ (j - (off + i) = 0) := by omega
          by_cases c5 : j < off + i + 1 + new.length
          · simp [c1, c4, c5, show ¬ j < off + i + 1 by omega, show j < off + i + (new.length + 1) by omega, show j - (off + i + 1) = j - (off + i) - 1 by omega]
          · simp [c5, show ¬ j < off + i + (new.length + 1) by omega]
            rw [show off + (i + 1) + new.length + (j - (off + i + 1 + new.length)) = j by omega, show off + i + (new.length + 1) + (j - (off + i + (new.length + 1))) = j by omega, if_neg (by omega)]

theorem allOne_ok : ∀ (cs : List SV) (C : List Value), allOne cs = true → dens ν cs = some C → ∀ v ∈ C, v.oneCell' = true
  | [], C, _, h => by simp [dens] at h; subst h; simp
  | c :: r, C, h1, h => by
    cases hc : c.one with
    | false =>
      cases c with
      | run k n l =>
        obtain ⟨hl, R, hR, rfl⟩ := dens_cons_run h
        simp only [allOne, Bool.true_and] at h1
        intro v hv
        rcases List.mem_append.1 hv with hv | hv
        · obtain ⟨x, _, rfl⟩ := List.mem_map.1 hv; rfl
        · exact allOne_ok r R h1 hR v hv
      | _ => simp [SV.one] at hc
    | true =>
      obtain ⟨V, R, hV, hR, rfl⟩ := dens_cons_one hc h
      have h2 : c.c1 = true ∧ allOne r = true := by cases c <;> simp_all [allOne, SV.one]
      intro v hv
      cases hv with
      | head => exact (SV.c1_cell h2.1 hV).1
      | tail _ hm => exact allOne_ok r R h2.2 hR v hm

theorem staC_ok {cs new cs' : List SV} {off n : Nat} {p : Prop} {C New : List Value} (h : staC cs off n new = some (p, cs')) (hp : p) (hd : dens ν cs = some C) (hn : dens ν new = some New) :
    New.length = n ∧ off + n ≤ C.length ∧ dens ν cs' = some (C.take off ++ New ++ C.drop (off + n)) ∧ ∀ v ∈ New, v.oneCell' = true := by
  unfold staC at h
  split at h
  · split at h
    · rename_i h0
      subst h0
      cases h
      simp only [dens_nil, Option.some.injEq] at hn
      subst hn
      have hlen := wid_ok _ _ hd
      exact ⟨rfl, by omega, by simpa using hd, fun v hv => by cases hv⟩
    · cases h
  · rename_i k m l k' n' l'
    split at h
    · rename_i hc
      obtain ⟨rfl, rfl⟩ := hc
      obtain ⟨hl, R, hR, rfl⟩ := dens_cons_run hd
      obtain ⟨hl', R', hR', rfl⟩ := dens_cons_run hn
      simp only [dens_nil, Option.some.injEq] at hR hR'
      subst hR hR'
      have hone : ∀ v ∈ l'.map (Value.int k) ++ [], v.oneCell' = true := by
        intro v hv
        rw [List.append_nil] at hv
        obtain ⟨x, _, rfl⟩ := List.mem_map.1 hv; rfl
      split at h
      · rename_i h0
        obtain ⟨rfl, rfl⟩ := h0
        cases h
        refine ⟨by simp [hl'], by simp [hl], ?_, hone⟩
        rw [dens_run_mk hl' (dens_nil ν)]
        simp [List.drop_of_length_le (show (l.map (Value.int k)).length ≤ n' by simp [hl])]
      · cases h
        refine ⟨by simp [hl'], by simp; omega, ?_, hone⟩
        rw [dens_run_mk (by simp; omega) (dens_nil ν)]
        simp [List.map_take, List.map_drop]
    · cases h
  · split at h
    · rename_i hc
      split at h
      · rename_i cs1 hs
        cases h
        have hlen := wid_ok _ _ hn
        obtain ⟨h1, h2⟩ := splC_ok _ _ _ _ _ _ _ hs hd hn (by omega)
        exact ⟨by omega, h1, h2, allOne_ok _ _ hc.2 hn⟩
      · cases h
    · cases h

/-- The block of tag `t` turned. -/
theorem rel_cells (rel : Rel P w0 ν0 ν hs w) {t b : Nat} (hb : ν[t]? = some b) {cs' : List SV} {C' : List Value} {ty f g : Nat} (hd : dens ν cs' = some C') {w' : World}
    (h1 : w'.os = w.os) (h2 : w'.tape = w.tape) (h3 : w'.output = w.output) (h4 : w'.heap.size = w.heap.size) (h5 : ∀ j, j ≠ b → w'.heap[j]? = w.heap[j]?) (h6 : w'.heap[b]? = some (.cells C'.toArray ty (f, g))) :
    Rel P w0 ν0 ν (hs.set t (.cells cs' ty f g)) w' :=
  rel.upd (o := .cells cs' ty f g) (O := .cells C'.toArray ty (f, g)) hb ⟨C', hd, rfl⟩ h1 h2 h3 h4 h5 h6

theorem rel_at (rel : Rel P w0 ν0 ν hs w) {t b : Nat} (hb : ν[t]? = some b) {cs : List SV} {ty x y : Nat} (h : hs[t]? = some (.cells cs ty x y)) :
    ∃ C, dens ν cs = some C ∧ w.heap[b]? = some (.cells C.toArray ty (x, y)) := by
  obtain ⟨O, ⟨C, h2, rfl⟩, h3⟩ := rel.objs t b _ hb h
  exact ⟨C, h2, h3⟩

theorem run_storeVar {t n : Nat} (hn : sizeT P t = some n) {w : World} {b off : Nat} {C New : List Value} {ty f g : Nat} {V : Value} (hV : V.cells = New.toArray) (hlen : New.length = n)
    (hw : w.heap[b]? = some (.cells C.toArray ty (f, g))) (hl : off + n ≤ C.length) (hf : free f g off n) (h1 : ∀ v ∈ New, v.oneCell' = true) :
    ∃ w', (storeVar t ⟨b, off, none⟩ V).run P w = .ok () w' ∧ w'.os = w.os ∧ w'.tape = w.tape ∧ w'.output = w.output ∧ w'.heap.size = w.heap.size ∧ (∀ j, j ≠ b → w'.heap[j]? = w.heap[j]?) ∧
      w'.heap[b]? = some (.cells (C.take off ++ New ++ C.drop (off + n)).toArray ty (f, g)) := by
  obtain ⟨w', r1, r2, r3, r4, r5, r6, r7⟩ := run_storeCellsF (P := P) New w b off 0 C ty f g hw (by omega) (by rw [hlen]; exact hf) h1
  refine ⟨w', ?_, r2, r3, r4, r5, r6, by rw [r7]; simp [hlen]⟩
  simp [storeVar, sizeT_run hn, hV, hlen, r1]

theorem w_store (rel : Rel P w0 ν0 ν hs w) (he : EnvOk ν N env a.tmps) {t : TypeId} {x y : Operand} {o : O} (hc : compOp P (.store t x y) = some o) :
    Does P w0 ν0 ν hs ((do Instr.storeAt t (a.eval x) (a.eval y); pure Next.skip : Sem Next).run P w) (evW o env hs) := by
  simp only [compOp, Option.bind_eq_bind, Option.bind_eq_some_iff] at hc
  obtain ⟨n, hn, e1, h1, e2, h2, hc⟩ := hc
  split at hc
  · simp at hc; subst hc
    simp only [evW]
    split
    · rename_i tg off new hx hy
      split
      · rename_i cs ty f g hh
        obtain ⟨b, hb, hE⟩ := den_ptr (ev_ok he h1 hx)
        obtain ⟨New, hN, hY⟩ := den_agg (ev_ok he h2 hy)
        obtain ⟨C, hd, hw⟩ := rel_at rel hb hh
        unfold staR
        split
        · rename_i p cs' hst
          rintro ⟨hp, hf⟩
          obtain ⟨g1, g2, g3, g4⟩ := staC_ok hst hp hd hN
          obtain ⟨w', r1, r2, r3, r4, r5, r6, r7⟩ := run_storeVar (P := P) hn (V := .agg New.toArray) rfl g1 hw g2 hf g4
          refine ⟨w', rel_cells rel hb g3 r2 r3 r4 r5 r6 r7, ?_⟩
          rw [hE, hY]
          simp [Instr.storeAt, Instr.sureAddr, r1]
        · trivial
      · trivial
    · trivial
  · split at hc
    · rename_i hn1
      simp at hc; subst hc hn1
      simp only [evW]
      split
      · rename_i tg off v hx hy
        split
        · rename_i cs ty f g hh
          obtain ⟨b, hb, hE⟩ := den_ptr (ev_ok he h1 hx)
          have hY := ev_ok he h2 hy
          obtain ⟨C, hd, hw⟩ := rel_at rel hb hh
          have key : ∀ (cs' : List SV), v.c1 = true → off < C.length → dens ν cs' = some (C.set off (a.eval y)) → free f g off 1 → DoesU P w0 ν0 ν (hs.set tg (.cells cs' ty f g)) ((do Instr.storeAt t (a.eval x) (a.eval y); pure Next.skip : Sem Next).run P w) := by
            intro cs' hc1 hlt hd' hf
            obtain ⟨hone, hcell⟩ := SV.c1_cell hc1 hY
            obtain ⟨w', r1, r2, r3, r4, r5, r6, r7⟩ := run_storeVar (P := P) hn (V := a.eval y) (New := [a.eval y]) hcell rfl hw (by omega) hf (by simpa using hone)
            refine ⟨w', rel_cells rel hb hd' r2 r3 r4 r5 r6 ?_, ?_⟩
            · rw [r7]
              congr 2
              apply congrArg List.toArray
              rw [List.set_eq_take_append_cons_drop, if_pos hlt]
              simp
            · rw [hE]
              simp [Instr.storeAt, Instr.sureAddr, r1]
          unfold stR
          split
          · rename_i k n l k' m
            split
            · rename_i hk
              subst hk
              rintro ⟨h3, h4⟩
              obtain ⟨hl, R, hR, rfl⟩ := dens_cons_run hd
              simp only [dens_nil, Option.some.injEq] at hR
              subst hR
              have hY' := den_int hY
              refine key _ rfl (by simp; omega) ?_ h4
              rw [dens_run_mk (by simpa using hl) (dens_nil ν), hY']
              simp [List.map_set]
            · trivial
          · split
            · rename_i hc1
              split
              · rename_i cs' hwr
                intro hf
                obtain ⟨h3, h4⟩ := wrC_ok _ _ _ _ _ _ hwr hd hY
                exact key cs' hc1 h3 h4 hf
              · trivial
            · trivial
        · trivial
      · trivial
    · cases hc

/-- `n` times the zero cells, as the model lays them. -/
theorem zero_cells (Z : List Value) (h : 0 < Z.length) : ∀ n : Nat, ((Array.range (n * Z.length)).map (Z.toArray[· % Z.toArray.size]!)) = ((List.replicate n Z).flatten).toArray
  | 0 => by simp
  | n + 1 => by
    have ih := zero_cells Z h n
    have e : (n + 1) * Z.length = n * Z.length + Z.length := by rw [Nat.add_mul]; omega
    rw [← Array.toList_inj] at ih ⊢
    simp only [Array.toList_map, Array.toList_range] at ih ⊢
    rw [e, List.range_add, List.map_append, ih, List.replicate_succ', List.flatten_append]
    simp only [List.flatten_cons, List.flatten_nil, List.append_nil]
    congr 1
    rw [List.map_map]
    apply List.ext_getElem (by simp)
    intro i h1 h2
    simp only [List.length_map, List.length_range] at h1
    simp [Nat.mod_eq_of_lt h1, h1]

theorem dens_rep {z : List SV} {Z : List Value} (h : dens ν z = some Z) : ∀ n : Nat, dens ν (List.replicate n z).flatten = some (List.replicate n Z).flatten
  | 0 => by simp [dens]
  | n + 1 => by
    rw [List.replicate_succ, List.replicate_succ, List.flatten_cons, List.flatten_cons]
    exact dens_append _ _ _ _ h (dens_rep h n)

theorem zerosC_ok {z : List SV} {Z : List Value} (h : dens ν z = some Z) (n : Nat) : dens ν (zerosC z n) = some (List.replicate n Z).flatten := by
  unfold zerosC
  split
  · rename_i k x
    obtain ⟨V, R, hV, hR, rfl⟩ := dens_cons_one (by rfl) h
    simp only [dens_nil, Option.some.injEq] at hR
    subst hR
    have := den_int hV
    subst this
    rw [dens_run_mk (by simp) (dens_nil ν)]
    congr 1
    induction n with
    | zero => rfl
    | succ n ih =>
      rw [List.replicate_succ, List.replicate_succ, List.flatten_cons, ← ih]
      simp
  · exact dens_rep h n

theorem zero_empty {i : TypeInfo} {V : Value} (hlen : V.cells.size = i.size) {m : Nat} (h0 : m * i.size = 0) : (List.replicate m V.cells.toList).flatten = [] := by
  rcases Nat.mul_eq_zero.1 h0 with rfl | hn0
  · simp
  · have : V.cells.toList = [] := by
      apply List.eq_nil_of_length_eq_zero
      simp [hlen, hn0]
    rw [this]
    simp
theorem zero_full {i : TypeInfo} {V : Value} (hlen : V.cells.size = i.size) {m : Nat} (h0 : ¬ m * i.size = 0) :
    (Array.range (m * i.size)).map (V.cells[· % V.cells.size]!) = ((List.replicate m V.cells.toList).flatten).toArray := by
  have hn0 : 0 < i.size := by
    rcases Nat.eq_zero_or_pos i.size with h | h
    · exact absurd (by simp [h]) h0
    · exact h
  have := zero_cells V.cells.toList (by simpa [hlen] using hn0) m
  simpa only [Array.length_toList, hlen, Array.toArray_toList] using this

theorem w_buildSlice (rel : Rel P w0 ν0 ν hs w) (he : EnvOk ν N env a.tmps) {t : TypeId} {n : Nat} {ps : Array (Nat × Operand)} {o : O} (hc : compOp P (.buildSlice t n ps) = some o) :
    Does P w0 ν0 ν hs ((do pure (Next.value (← Instr.buildSlice t n (ps.map fun (i, x) => (i, a.eval x)))) : Sem Next).run P w) (evW o env hs) := by
  simp only [compOp] at hc
  split at hc
  · rename_i e hu
    simp only [Option.bind_eq_bind, Option.bind_eq_some_iff] at hc
    obtain ⟨sz, hsz, z, hz, qs, hq, hc⟩ := hc
    split at hc
    · rename_i hcond
      simp at hc; subst hc
      simp only [evW]
      split
      · rename_i cs hb
        intro _
        simp only [zerosOf, Option.map_eq_some_iff] at hz
        obtain ⟨z1, hz1, rfl⟩ := hz
        obtain ⟨i, V, hi, hzV, hlen, hd⟩ := zeroOf_ok hz1
        have hsz' : sz = i.size := by simp [sizeT, hi] at hsz; exact hsz.symm
        subst hsz'
        have hd0 : dens ν (if n = 0 then [] else zerosC z1 n) = some (List.replicate n V.cells.toList).flatten := by
          split
          · rename_i h0; subst h0; simp [dens]
          · exact zerosC_ok (hd ν) n
        obtain ⟨C', h2, h3⟩ := fill_ok he _ _ _ _ _ hq hb hd0
        refine does_new rel h2 (den_sl_new rel 0 n n) ?_
        have hmap : (ps.map fun (i, x) => (i, a.eval x)).toList = ps.toList.map fun q => (q.1, a.eval q.2) := by simp
        simp only [Sem.run_bind, Instr.buildSlice, run_under hu, Result.andThen_ok, sizeT_run hsz, if_neg (show ¬ (n * i.size > 2 ^ 24) by omega), hmap]
        by_cases h0 : n * i.size = 0
        · rw [zero_empty hlen h0] at h3
          have h4 : Instr.fill (fun j => some (j * i.size, i.size)) #[] (ps.toList.map fun q => (q.1, a.eval q.2)) = some C'.toArray := h3
          simp [h0, h4, newRow, show Array.range 0 = #[] from rfl]
        · rw [← zero_full hlen h0] at h3
          simp [h0, zeroValue, typeInfo, hi, hzV, h3, newRow]
      · trivial
    · cases hc
  · cases hc

theorem wrap_i64 {x : Int} (h0 : 0 ≤ x) (h1 : x < 9223372036854775808) : IntKind.i64.wrap x = x := by
  have e : IntKind.i64.wrap x = if 9223372036854775808 ≤ x % 18446744073709551616 then x % 18446744073709551616 - 18446744073709551616 else x % 18446744073709551616 := by
    simp [IntKind.wrap, IntKind.bits, IntKind.signed]
  rw [e]
  omega

theorem w_makeSlice (rel : Rel P w0 ν0 ν hs w) (he : EnvOk ν N env a.tmps) {t : TypeId} {l c : Operand} {o : O} (hc : compOp P (.makeSlice t l c) = some o) :
    Does P w0 ν0 ν hs ((do pure (Next.value (← Instr.makeSlice t (a.eval l) (a.eval c))) : Sem Next).run P w) (evW o env hs) := by
  simp only [compOp] at hc
  split at hc
  · rename_i e hu
    simp only [Option.pure_def, Option.bind_eq_bind, Option.bind_eq_some_iff, Option.some.injEq] at hc
    obtain ⟨n, hn, by_, hb, z, hz, e1, h1, e2, h2, rfl⟩ := hc
    obtain ⟨i, V, hi, hzV, hlen, hd⟩ := zeroOf_ok hz
    have hn' : n = i.size := by simp [sizeT, hi] at hn; exact hn.symm
    have hb' : by_ = i.bytes := by simp [bytesT, hi] at hb; exact hb.symm
    subst hn' hb'
    simp only [evW]
    split
    · rename_i k1 l' k2 c' hx hy
      have hX := den_int (ev_ok he h1 hx)
      have hY := den_int (ev_ok he h2 hy)
      rintro ⟨p0, p1, p2, p3⟩
      have hb1 : (1 : Int) ≤ (i.bytes : Int) := by omega
      have hcb : c' ≤ c' * i.bytes := by
        have := Int.mul_le_mul_of_nonneg_left hb1 (show 0 ≤ c' by omega)
        simpa using this
      have hw1 : IntKind.i64.wrap l' = l' := wrap_i64 p0 (by omega)
      have hw2 : IntKind.i64.wrap c' = c' := wrap_i64 (by omega) (by omega)
      refine does_new rel (zerosC_ok (hd ν) c'.toNat) (den_sl_new rel 0 _ _) ?_
      have ht1 : ¬ (c' < 0 ∨ 2 ^ 48 < (i.bytes : Int) * c') := by rw [Int.mul_comm]; omega
      have hcond : ((decide (c' < 0) || decide ((i.bytes : Int) * c' > 2 ^ 48)) || decide (l' < 0) || decide (l' > c')) = false := by
        simp only [Bool.or_eq_false_iff, decide_eq_false_iff_not]
        rw [Int.mul_comm]
        omega
      rw [hX, hY]
      simp only [Sem.run_bind, Instr.makeSlice, run_under hu, Result.andThen_ok, asInt, asIntOf, Sem.run_pure, typeInfo, run_program, hi, hw1, hw2, hcond]
      simp only [Bool.false_eq_true, if_false, run_askRoom, Result.andThen_ok, Sem.run_bind, sizeT_run hn]
      by_cases h0 : c'.toNat * i.size = 0
      · rw [zero_empty hlen h0]
        simp [h0, newRow, show Array.range 0 = #[] from rfl]
      · rw [← zero_full hlen h0]
        simp [h0, zeroValue, typeInfo, hi, hzV, newRow]
    · trivial
  · cases hc

theorem look_all (rel : Rel P w0 ν0 ν hs w) {t : Nat} {cs : List SV} {ty x y : Nat} (h : hs[t]? = some (.cells cs ty x y)) :
    ∃ b C, ν[t]? = some b ∧ dens ν cs = some C ∧ w.heap[b]? = some (.cells C.toArray ty (x, y)) := look_cells (rel.look fun _ => True) trivial h

/-- What a slice or a string holds, read. -/
theorem srcC_ok (rel : Rel P w0 ν0 ν hs w) {sz : Nat} {x : SV} {p : Prop} {d : List SV} {n : Nat} (h : srcC hs sz x = some (p, d, n)) (hp : p) {V : Value} (hV : x.den ν = some V) :
    ∃ D, dens ν d = some D ∧ D.length = n * sz ∧ (∀ w, (Builtin.lenOf V).run P w = .ok n w) ∧ (Builtin.firstCells sz n V).run P w = .ok D.toArray w ∧
      (∀ m, m ≤ n → (Builtin.firstCells sz m V).run P w = .ok (D.take (m * sz)).toArray w) := by
  unfold srcC at h
  split at h
  · cases h
    simp [SV.den] at hV
    subst hV
    exact ⟨[], by simp [dens], by simp, fun w => by simp [Builtin.lenOf], by simp [Builtin.firstCells], fun m hm => by simp [Builtin.firstCells]⟩
  · rename_i t off len cap
    split at h
    · rename_i cs ty f g hh
      split at h
      · rename_i p' d' hld
        cases h
        obtain ⟨b, hb, rfl⟩ := den_sl hV
        obtain ⟨C, hd, hw⟩ := rel_at rel hb hh
        obtain ⟨d2, hd2, hlen, hdd⟩ := ldaR_ok hd hld hp
        cases hd2
        have hl : ((C.drop off).take (n * sz)).length = n * sz := by simp; omega
        refine ⟨(C.drop off).take (n * sz), hdd, hl, fun w => by simp [Builtin.lenOf], ?_, ?_⟩
        · exact run_firstCells_some w sz n ⟨b, off, none⟩ n cap _ hl (fun j v hv => by
            rw [add_mid, cell_at hw]
            rw [List.getElem?_take] at hv
            split at hv
            · rw [List.getElem?_drop] at hv; exact hv
            · cases hv)
        · intro m hm
          have hm2 : m * sz ≤ n * sz := Nat.mul_le_mul_right _ hm
          refine run_firstCells_some w sz m ⟨b, off, none⟩ n cap _ (by rw [List.length_take, hl]; omega) (fun j v hv => ?_)
          rw [add_mid, cell_at hw]
          rw [List.getElem?_take] at hv
          split at hv
          · rw [List.getElem?_take] at hv
            split at hv
            · rw [List.getElem?_drop] at hv; exact hv
            · cases hv
          · cases hv
      · cases h
    · cases h
  · rename_i s
    split at h
    · rename_i hsz
      cases h
      subst hsz
      have := den_str hV
      subst this
      have hall : ∀ m, m ≤ s.size → (s.extract 0 m).data.map (fun b => Value.int .u8 (b.toNat : Int)) = ((s.data.toList.map fun b => Value.int .u8 (b.toNat : Int)).take m).toArray := by
        intro m hm
        rw [← Array.toList_inj]
        simp
      have hs : s.data.toList.length = s.size := by show s.data.toList.length = s.data.size; simp
      refine ⟨(s.data.toList.map fun b => (b.toNat : Int)).map (Value.int .u8) ++ [], dens_run_mk (by simp [hs]) (dens_nil ν), by simp [hs], fun w => by simp [Builtin.lenOf], ?_, ?_⟩
      · simp only [Builtin.firstCells, Sem.run_pure]
        rw [hall s.size (Nat.le_refl _), List.take_of_length_le (by simp [hs])]
        simp [List.map_map, Function.comp_def]
      · intro m hm
        simp only [Builtin.firstCells, Sem.run_pure]
        rw [hall m hm]
        simp [List.map_map, Function.comp_def]
    · cases h
  · cases h

theorem flatI_ok {k : IntKind} {cs : List SV} {l : List Int} {C : List Value} (h : flatI k cs = some l) (hd : dens ν cs = some C) : C = l.map (Value.int k) := by
  unfold flatI at h
  split at h
  · cases h; simp [dens] at hd; subst hd; rfl
  · split at h
    · rename_i hk
      cases h; subst hk
      obtain ⟨hl, R, hR, rfl⟩ := dens_cons_run hd
      simp only [dens_nil, Option.some.injEq] at hR
      subst hR; simp
    · cases h
  · cases h

theorem growC_ok {z old new : List SV} {need c : Nat} {Z A B : List Value} (hz : dens ν z = some Z) (ha : dens ν old = some A) (hb : dens ν new = some B) (hlen : A.length + B.length = need * Z.length) (hc : need ≤ c) :
    dens ν (growC z old new need c) = some (A ++ B ++ (List.replicate (c - need) Z).flatten) := by
  have gen : dens ν (old ++ new ++ (List.replicate (c - need) z).flatten) = some (A ++ B ++ (List.replicate (c - need) Z).flatten) :=
    dens_append _ _ _ _ (dens_append _ _ _ _ ha hb) (dens_rep hz _)
  unfold growC
  split
  · rename_i k n
    split
    · rename_i a b h1 h2
      have hA := flatI_ok h1 ha
      have hB := flatI_ok h2 hb
      have hZ := zerosC_ok hz (c - need)
      simp only [zerosC] at hZ
      obtain ⟨_, R, hR, hZ'⟩ := dens_cons_run hZ
      simp only [dens_nil, Option.some.injEq] at hR
      subst hR
      rw [hZ', hA, hB]
      obtain ⟨V, R, hV, hR, hZZ⟩ := dens_cons_one (by rfl) hz
      simp only [dens_nil, Option.some.injEq] at hR
      subst hR hZZ
      rw [hA, hB] at hlen
      simp at hlen
      rw [dens_run_mk (by simp; omega) (dens_nil ν)]
      simp
    · exact gen
  · exact gen

theorem zeroCells_eq {i : TypeInfo} {V : Value} (hlen : V.cells.size = i.size) (m : Nat) : Builtin.zeroCells V.cells m = ((List.replicate m V.cells.toList).flatten).toArray := by
  unfold Builtin.zeroCells
  by_cases h0 : m * i.size = 0
  · rw [zero_empty hlen h0, hlen, h0, show Array.range 0 = #[] from rfl]; simp
  · rw [← zero_full hlen h0, hlen]

/-- What is appended: how many, and how it is read. -/
structure Appd (P : Program) (i : TypeInfo) (V : Value) (zeros : Bool) (Vx : Value) (m : Nat) (B : List Value) (w : World) : Prop where
  num : zeros = true → ∃ k, Vx = .int k (m : Int) ∧ B = (List.replicate m V.cells.toList).flatten
  len : zeros = false → ∀ w, (Builtin.lenOf Vx).run P w = .ok m w
  cells : zeros = false → (Builtin.firstCells i.size m Vx).run P w = .ok B.toArray w

theorem cast_bound {x : Nat} (h : x ≤ 140737488355328) : (x : Int) ≤ 140737488355328 := by omega

def okD (zeros : Bool) (du : TypeDesc) : Prop := if zeros = true then ∃ k, du = .int k else (∃ e, du = .slice e) ∨ du = .string

theorem run_append_room' {t u e : TypeId} {du : TypeDesc} {i : TypeInfo} {V : Value} (hu : P.underlying t = some (.slice e)) (hu2 : P.underlying u = some du) (hi : P.info? e = some i) (hz : i.zero = some V) (hlen : V.cells.size = i.size)
    {zeros : Bool} (hzeros : okD zeros du) {base : Option Addr} {sLen sCap m : Nat} {Vx : Value} {B : List Value} {w w' : World} (h : Appd P i V zeros Vx m B w) (hm : m * i.bytes ≤ 140737488355328) (hb0 : i.bytes ≠ 0)
    (hroom : sLen + m ≤ sCap) (hst : ∀ ad, base = some ad → (storeCells (ad.add (sLen * i.size)) B).run P w = .ok () w') (hno : base = none → w' = w) (ty : TypeId) :
    (Builtin.append_ #[t, u] ty #[.slice base sLen sCap, Vx]).run P w = .ok (.slice base (sLen + m) sCap) w' := by
  cases zeros with
  | true =>
    obtain ⟨k, rfl, rfl⟩ := h.num rfl
    obtain ⟨k2, rfl⟩ : ∃ k, du = .int k := by unfold okD at hzeros; rw [if_pos rfl] at hzeros; exact hzeros
    have hb1 : 1 ≤ i.bytes := by omega
    have hqm : m ≤ m * i.bytes := Nat.le_mul_of_pos_right _ hb1
    have hw : IntKind.i64.wrap (m : Int) = m := wrap_i64 (by omega) (by omega)
    have h48 : ¬ ((281474976710656 : Int) < (m : Int) * (i.bytes : Int)) := by
      have : ((m * i.bytes : Nat) : Int) ≤ 140737488355328 := cast_bound hm
      rw [Int.natCast_mul] at this
      omega
    have hq' : ¬ ((m : Int) < 0) := by omega
    by_cases h0 : m * i.size = 0
    · rw [zero_empty hlen h0] at hst
      cases base with
      | none =>
        have := hno rfl
        subst this
        simp [Builtin.append_, run_under hu, run_under hu2, sizeOf, typeInfo, hi, asInt, asIntOf, hw, h48, hroom, hq', h0]
      | some ad =>
        have := hst ad rfl
        simp [Builtin.append_, run_under hu, run_under hu2, sizeOf, typeInfo, hi, asInt, asIntOf, hw, h48, hroom, hq', h0, this]
    · cases base with
      | none =>
        have := hno rfl
        subst this
        simp [Builtin.append_, run_under hu, run_under hu2, sizeOf, typeInfo, hi, asInt, asIntOf, hw, h48, hroom, hq', zeroValue, hz]
      | some ad =>
        have := hst ad rfl
        simp [Builtin.append_, run_under hu, run_under hu2, sizeOf, typeInfo, hi, asInt, asIntOf, hw, h48, hroom, hq', h0, zeroValue, hz, zeroCells_eq hlen, this]
  | false =>
    have hN := h.len rfl
    have hC := h.cells rfl
    have hdu : (∃ e, du = .slice e) ∨ du = .string := by simpa [okD] using hzeros
    cases base with
    | none =>
      have := hno rfl
      subst this
      rcases hdu with ⟨e', rfl⟩ | rfl <;> simp [Builtin.append_, run_under hu, run_under hu2, sizeOf, typeInfo, hi, hN, hC, hroom]
    | some ad =>
      have := hst ad rfl
      rcases hdu with ⟨e', rfl⟩ | rfl <;> simp [Builtin.append_, run_under hu, run_under hu2, sizeOf, typeInfo, hi, hN, hC, hroom, this]

theorem run_append_grow' {t u e : TypeId} {du : TypeDesc} {i : TypeInfo} {V : Value} (hu : P.underlying t = some (.slice e)) (hu2 : P.underlying u = some du) (hi : P.info? e = some i) (hz : i.zero = some V) (hlen : V.cells.size = i.size)
    {zeros : Bool} (hzeros : okD zeros du) {base : Option Addr} {sLen sCap m : Nat} {Vx : Value} {A B : List Value} {w : World} (hA : (Builtin.firstCells i.size sLen (.slice base sLen sCap)).run P w.drew = .ok A.toArray w.drew)
    (h : Appd P i V zeros Vx m B w.drew) (hm : (sLen + m) * i.bytes ≤ 140737488355328) (hb0 : i.bytes ≠ 0) (hroom : sCap < sLen + m) (ty : TypeId) :
    ∃ c, sLen + m ≤ c ∧ (Builtin.append_ #[t, u] ty #[.slice base sLen sCap, Vx]).run P w = .ok (.slice (some ⟨w.heap.size, 0, none⟩) (sLen + m) c)
      (w.drew.alloc (.cells (A ++ B ++ (List.replicate (c - (sLen + m)) V.cells.toList).flatten).toArray e)) := by
  have hb1 : 1 ≤ i.bytes := by omega
  have hneed : sLen + m ≤ (sLen + m) * i.bytes := Nat.le_mul_of_pos_right _ hb1
  have hroom' : ¬ (sLen + m ≤ sCap) := by omega
  have hfit := growslice_fits hroom hm
  have hfit' : ¬ (281474976710656 < Builtin.nextslicecap (sLen + m) sCap * i.bytes) := by omega
  have hmax : IntKind.i64.max = 9223372036854775807 := by decide
  have hmx : ¬ ((9223372036854775807 : Int) < (sLen : Int) + (m : Int)) := by omega
  refine ⟨(Question.appendCap (sLen + m) sCap e).cut (w.tape w.drawn (.appendCap (sLen + m) sCap e)), by simp [Question.cut], ?_⟩
  generalize hc : (Question.appendCap (sLen + m) sCap e).cut (w.tape w.drawn (.appendCap (sLen + m) sCap e)) = c
  cases zeros with
  | true =>
    obtain ⟨k, rfl, rfl⟩ := h.num rfl
    obtain ⟨k2, rfl⟩ : ∃ k, du = .int k := by unfold okD at hzeros; rw [if_pos rfl] at hzeros; exact hzeros
    have hqm : m ≤ m * i.bytes := Nat.le_mul_of_pos_right _ hb1
    have hmm : m * i.bytes ≤ (sLen + m) * i.bytes := Nat.mul_le_mul_right _ (by omega)
    have hw : IntKind.i64.wrap (m : Int) = m := wrap_i64 (by omega) (by omega)
    have h48 : ¬ ((281474976710656 : Int) < (m : Int) * (i.bytes : Int)) := by
      have : ((m * i.bytes : Nat) : Int) ≤ 140737488355328 := cast_bound (Nat.le_trans hmm hm)
      rw [Int.natCast_mul] at this
      omega
    have hq' : ¬ ((m : Int) < 0) := by omega
    by_cases h0 : m * i.size = 0
    · rw [zero_empty hlen h0]
      simp [Builtin.append_, run_under hu, run_under hu2, sizeOf, typeInfo, hi, asInt, asIntOf, hw, h48, hroom', hq', h0, hmax, hmx, hfit', Question.forced, hc, hA, zeroValue, hz, zeroCells_eq hlen, newRow]
    · simp [Builtin.append_, run_under hu, run_under hu2, sizeOf, typeInfo, hi, asInt, asIntOf, hw, h48, hroom', hq', h0, hmax, hmx, hfit', Question.forced, hc, hA, zeroValue, hz, zeroCells_eq hlen, newRow]
  | false =>
    have hN := h.len rfl
    have hC := h.cells rfl
    have hdu : (∃ e, du = .slice e) ∨ du = .string := by simpa [okD] using hzeros
    rcases hdu with ⟨e', rfl⟩ | rfl <;> simp [Builtin.append_, run_under hu, run_under hu2, sizeOf, typeInfo, hi, hN, hC, hroom', hmax, hmx, hb0, hfit', Question.forced, hc, hA, zeroValue, hz, zeroCells_eq hlen, newRow]

theorem rel_drew (rel : Rel P w0 ν0 ν hs w) : Rel P w0 ν0 ν hs w.drew := rel.drawn _

theorem w_append (rel : Rel P w0 ν0 ν hs w) (he : EnvOk ν N env a.tmps) {args : Array Operand} {argTypes : Array TypeId} {ty : TypeId} {o : O} (hc : compOp P (.call { callee := .builtin .append, args, argTypes }) = some o) :
    Does P w0 ν0 ν hs ((do pure (Next.value (← Builtin.append_ argTypes ty (args.map a.eval))) : Sem Next).run P w) (evW o env hs) := by
  simp only [compOp] at hc
  split at hc
  · rename_i x y t u hx1 hx2
    have ha : args = #[x, y] := by rw [← Array.toList_inj]; exact hx1
    have ht : argTypes = #[t, u] := by rw [← Array.toList_inj]; exact hx2
    subst ha ht
    split at hc
    · rename_i e hu
      simp only [Option.bind_eq_bind, Option.bind_eq_some_iff] at hc
      obtain ⟨z, hz, n, hn, by_, hb, e1, h1, e2, h2, hc⟩ := hc
      split at hc
      · cases hc
      rename_i hnb
      have hzs : ∃ zeros du, o = .app e n by_ z zeros e1 e2 ∧ P.underlying u = some du ∧ okD zeros du := by
        split at hc
        · rename_i k hu2; simp at hc; exact ⟨true, _, hc.symm, hu2, by unfold okD; rw [if_pos rfl]; exact ⟨k, rfl⟩⟩
        · rename_i k hu2; simp at hc; exact ⟨false, _, hc.symm, hu2, by unfold okD; rw [if_neg (by simp)]; exact .inl ⟨k, rfl⟩⟩
        · rename_i hu2; simp at hc; exact ⟨false, _, hc.symm, hu2, by unfold okD; rw [if_neg (by simp)]; exact .inr rfl⟩
        · cases hc
      obtain ⟨zeros, du, rfl, hu2, hzeros⟩ := hzs
      obtain ⟨i, V, hi, hzV, hlenV, hd⟩ := zeroOf_ok hz
      have hn' : n = i.size := by simp [sizeT, hi] at hn; exact hn.symm
      have hb' : by_ = i.bytes := by simp [bytesT, hi] at hb; exact hb.symm
      subst hn' hb'
      have hnb' : i.size ≠ 0 ∧ i.bytes ≠ 0 := by simpa using hnb
      simp only [evW]
      split
      rotate_left
      · trivial
      rename_i sv sx hx hy
      have hX := ev_ok he h1 hx
      have hY := ev_ok he h2 hy
      split
      rotate_left
      · trivial
      rename_i p1 old len p2 new m hs1 hs2
      -- what is appended
      have hnew : p2 → ∃ B, dens ν new = some B ∧ B.length = m * i.size ∧ Appd P i V zeros (a.eval y) m B w ∧ Appd P i V zeros (a.eval y) m B w.drew := by
        intro hp2
        cases zeros with
        | true =>
          simp only [if_true] at hs2
          split at hs2
          · rename_i k q
            simp only [Option.some.injEq, Prod.mk.injEq] at hs2
            obtain ⟨rfl, rfl, rfl⟩ := hs2
            have hI := den_int hY
            have hq : q = (q.toNat : Int) := by omega
            refine ⟨(List.replicate q.toNat V.cells.toList).flatten, zerosC_ok (hd ν) _, by simp [hlenV], ⟨fun _ => ⟨k, by rw [hI]; exact congrArg _ hq, rfl⟩, fun h => (by cases h), fun h => (by cases h)⟩, ⟨fun _ => ⟨k, by rw [hI]; exact congrArg _ hq, rfl⟩, fun h => (by cases h), fun h => (by cases h)⟩⟩
          · cases hs2
        | false =>
          simp only [Bool.false_eq_true, if_false] at hs2
          obtain ⟨D, d1, d2, d3, d4, _⟩ := srcC_ok rel hs2 hp2 hY
          obtain ⟨D', e1', e2', e3', e4', _⟩ := srcC_ok (rel_drew rel) hs2 hp2 hY
          rw [d1] at e1'; cases e1'
          exact ⟨D, d1, d2, ⟨fun h => (by cases h), fun _ => d3, fun _ => d4⟩, ⟨fun h => (by cases h), fun _ => d3, fun _ => e4'⟩⟩
      have hargs : (#[x, y] : Array Operand).map a.eval = #[a.eval x, a.eval y] := by simp
      rw [hargs]
      -- it grows
      have grow : ∀ base cap, a.eval x = .slice base len cap → p1 → p2 → (len + m) * i.bytes ≤ 140737488355328 → cap < len + m → ∃ c, len + m ≤ c ∧
          DoesN P w0 ν0 ν (.sl hs.length 0 (len + m) c) (hs ++ [.cells (growC z old new (len + m) c) e 0 0]) ((do pure (Next.value (← Builtin.append_ #[t, u] ty #[a.eval x, a.eval y])) : Sem Next).run P w) := by
        intro base cap hE hp1 hp2 hby hlt
        obtain ⟨A, a1, a2, a3, a4, _⟩ := srcC_ok (rel_drew rel) hs1 hp1 hX
        obtain ⟨B, b1, b2, b3, b4⟩ := hnew hp2
        rw [hE] at a4
        obtain ⟨c, hc1, hr⟩ := run_append_grow' (P := P) hu hu2 hi hzV hlenV hzeros a4 b4 hby hnb'.2 hlt ty
        refine ⟨c, hc1, ?_⟩
        have hg := growC_ok (hd ν) a1 b1 (by rw [a2, b2, ← Nat.add_mul]; simp [hlenV]) hc1
        refine ⟨_, _, ν ++ [w.drew.heap.size], Ext.app _ _, (rel_drew rel).alloc ⟨_, dens_ext (Ext.app _ _) _ _ hg, rfl⟩, den_sl_new (rel_drew rel) 0 _ _, ?_⟩
        rw [hE, Sem.run_bind, hr]
        rfl
      split
      · -- nil
        have hE : a.eval x = .slice none 0 0 := by simp [SV.den] at hX; exact hX.symm
        have h00 : old = [] ∧ len = 0 := by
          simp [srcC] at hs1; exact ⟨hs1.2.1, hs1.2.2.symm⟩
        obtain ⟨rfl, rfl⟩ := h00
        rintro ⟨hp1, hp2, hby⟩
        by_cases h0 : 0 + m ≤ 0
        · left
          refine ⟨h0, ?_⟩
          obtain ⟨B, b1, b2, b3, b4⟩ := hnew hp2
          have hm0 : m = 0 := by omega
          subst hm0
          have hr := run_append_room' (P := P) hu hu2 hi hzV hlenV hzeros (base := none) (sLen := 0) (sCap := 0) (w' := w) b3 (by simp) hnb'.2 (by simp) (fun ad h => by cases h) (fun _ => rfl) ty
          refine ⟨.slice none 0 0, w, ν, Ext.refl _, rel, rfl, ?_⟩
          rw [hE, Sem.run_bind, hr]
          rfl
        · right
          exact ⟨by omega, grow none 0 hE hp1 hp2 hby (by omega)⟩
      · rename_i tg off len' cap
        obtain ⟨b, hb2, hE⟩ := den_sl hX
        split
        · rename_i cs ty' f g hh
          have hll : len' = len := by
            simp only [srcC, hh] at hs1
            split at hs1
            · cases hs1; rfl
            · cases hs1
          subst hll
          split
          · rename_i p3 cs' hst
            rintro ⟨hp1, hp2, hby, hp3⟩
            by_cases hroom : len' + m ≤ cap
            · left
              refine ⟨hroom, ?_⟩
              obtain ⟨hp3, hfr⟩ := hp3 hroom
              obtain ⟨B, b1, b2, b3, b4⟩ := hnew hp2
              obtain ⟨C, hC, hw⟩ := rel_at rel hb2 hh
              obtain ⟨g1, g2, g3, g4⟩ := staC_ok hst hp3 hC b1
              obtain ⟨w', r1, r2, r3, r4, r5, r6, r7⟩ := run_storeCellsF (P := P) B w b (off + len' * i.size) 0 C ty' f g hw (by rw [g1]; omega) (by rw [g1]; exact hfr) g4
              have hr := run_append_room' (P := P) hu hu2 hi hzV hlenV hzeros (base := some ⟨b, off, none⟩) (sLen := len') (sCap := cap) (w' := w') b3
                (Nat.le_trans (Nat.mul_le_mul_right _ (by omega)) hby) hnb'.2 hroom (fun ad h => by cases h; rw [add_mid]; exact r1) (fun h => by cases h) ty
              refine ⟨.slice (some ⟨b, off, none⟩) (len' + m) cap, w', ν, Ext.refl _, rel_cells rel hb2 g3 r2 r3 r4 r5 r6 (by rw [r7]; simp [g1]), by simp [SV.den, hb2], ?_⟩
              rw [hE, Sem.run_bind, hr]
              rfl
            · right
              exact ⟨by omega, grow _ cap hE hp1 hp2 hby (by omega)⟩
          · split
            · rename_i hlt
              rintro ⟨hp1, hp2, hby⟩
              right
              exact ⟨hlt, grow _ cap hE hp1 hp2 hby hlt⟩
            · trivial
        · trivial
      · trivial
    · cases hc
  · cases hc
end

end Go.Pv
