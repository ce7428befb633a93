/- The same evaluation with every look-up ahead of what hangs on it: the forms that `simp only` is to use. -/
import Derived.Test.YtifoaokodgbhjaaGreatVt
namespace Go.Pv
open Go

def onlyV : Res → Res
  | .v p x => .v p x
  | .n _ _ _ => .no
  | .u _ _ => .no
  | .ap _ _ _ _ _ _ => .no
  | .call _ _ => .no
  | .no => .no

theorem evR_q {o : O} {env : Env} {hs : List SO} (h : o.quiet = true) : evR o env hs = onlyV (evQ o env hs) := by
  unfold evR
  rw [h]
  simp only
  cases evQ o env hs <;> rfl

variable {env : Env} {hs : List SO}

def vQ : Option SV → Res
  | some v => .v True v
  | none => .no
def pickQ : Option SV → Option SV → Option SV → Res
  | some (.bool t), some (.bool x), some (.bool y) => .v True (.bool (bif t then x else y))
  | some (.bool true), some x, _ => .v True x
  | some (.bool false), _, some y => .v True y
  | _, _, _ => .no
def ldQ2 (off : Nat) : Option SO → Res
  | some (.cells cs _ _ _) => ldR cs off
  | some (.loop ..) => .no
  | some (.defd _) => .no
  | some (.map ..) => .no
  | none => .no
def ldQ (hs : List SO) : Option SV → Res
  | some (.ptr t off) => ldQ2 off hs[t]?
  | _ => .no
def ldaQ2 (off n : Nat) : Option SO → Res
  | some (.cells cs _ _ _) => ldaR cs off n
  | some (.loop ..) => .no
  | some (.defd _) => .no
  | some (.map ..) => .no
  | none => .no
def ldaQ (hs : List SO) (n : Nat) : Option SV → Res
  | some (.ptr t off) => ldaQ2 off n hs[t]?
  | _ => .no
def ncQ : Option SV → Res
  | some (.ptr t off) => .v True (.ptr t off)
  | some (.fn f cs) => .v True (.fn f cs)
  | some (.yld t) => .v True (.yld t)
  | _ => .no
def binQ (op : BinOp) : Option SV → Option SV → Res
  | some v, some u => binR op v u
  | _, _ => .no
def eqbQ (neg : Bool) : Option SV → Option SV → Res
  | some (.bool a), some (.bool b) => .v True (.bool (if neg then !(a == b) else a == b))
  | _, _ => .no
def eqnQ2 (neg : Bool) : Option Bool → Res
  | some b => .v True (.bool (if neg then !b else b))
  | none => .no
def eqnQ (kd : Nat) (neg : Bool) : Option SV → Option SV → Res
  | some v, some u => eqnQ2 neg (nilR kd v u)
  | _, _ => .no
def unQ (op : UnOp) : Option SV → Res
  | some v => unR op v
  | none => .no
def cviQ (k : IntKind) : Option SV → Res
  | some (.int _ n) => .v True (.int k (k.wrap n))
  | _ => .no
def cvsQ : Option SV → Res
  | some (.str s) => .v True (.str s)
  | _ => .no
def s2aQ (n : Nat) : Option SV → Res
  | some (.sl t off len _) => .v (n ≤ len) (.ptr t off)
  | _ => .no
def mkfQ (f : Nat) : Option (List SV) → Res
  | some vs => if vs.all SV.one then .v True (.fn f vs) else .no
  | none => .no
def slcQ (sz : Nat) : Option SV → Option (Option SV) → Option (Option SV) → Res
  | some (.sl t off len cap), some l, some h => sliR sz t off len cap l h
  | some .nils, some l, some h => nilSl (sliR sz 0 0 0 0 l h)
  | _, _, _ => .no
def slaQ (n sz : Nat) : Option SV → Option (Option SV) → Option (Option SV) → Res
  | some (.ptr t off), some l, some h => sliR sz t off n n l h
  | _, _, _ => .no
def faQ (off : Nat) : Option SV → Res
  | some (.ptr t o) => .v True (.ptr t (o + off))
  | _ => .no
def iaaQ (n sz : Nat) : Option SV → Option SV → Res
  | some (.ptr t o), some (.int _ i) => .v (0 ≤ i ∧ i < (n : Int)) (.ptr t (i.toNat * sz + o))
  | _, _ => .no
def iasQ (sz : Nat) : Option SV → Option SV → Res
  | some (.sl t o len _), some (.int _ i) => .v (0 ≤ i ∧ i < (len : Int)) (.ptr t (i.toNat * sz + o))
  | _, _ => .no
def fldQ2 (cs : List SV) (off : Nat) : Option Nat → Res
  | none => ldR cs off
  | some n => ldaR cs off n
def fldQ (off : Nat) (n : Option Nat) : Option SV → Res
  | some (.agg cs) => fldQ2 cs off n
  | _ => .no
def idxQ2 (len : Nat) (i : Int) : Res → Res
  | .v p x => .v ((0 ≤ i ∧ i < (len : Int)) ∧ p) x
  | .n _ _ _ => .no
  | .u _ _ => .no
  | .ap _ _ _ _ _ _ => .no
  | .call _ _ => .no
  | .no => .no
def idxQ (len sz : Nat) : Bool → Option SV → Option SV → Res
  | true, some (.agg cs), some (.int _ i) => idxQ2 len i (ldaR cs (i.toNat * sz) sz)
  | false, some (.agg cs), some (.int _ i) => idxQ2 len i (ldR cs (i.toNat * sz))
  | _, _, _ => .no
def extQ2 (vs : List SV) : Option SV → Res
  | some v => if vs.all SV.one then .v True v else .no
  | none => .no
def extQ (i : Nat) : Option SV → Res
  | some (.tup vs) => extQ2 vs vs[i]?
  | _ => .no
def lenQ : Option SV → Res
  | some (.sl _ _ n _) => .v True (.int .i64 n)
  | some .nils => .v True (.int .i64 0)
  | _ => .no
def lensQ : Option SV → Res
  | some (.str s) => .v True (.int .i64 s.size)
  | _ => .no
def capQ : Option SV → Res
  | some (.sl _ _ _ n) => .v True (.int .i64 n)
  | some .nils => .v True (.int .i64 0)
  | _ => .no
def mxQ : Option (List SV) → Res
  | some [.int k a, .int k' b] => if k = k' then .v True (.int k (if b > a then b else a)) else .no
  | _ => .no
def mnQ : Option (List SV) → Res
  | some [.int k a, .int k' b] => if k = k' then .v True (.int k (if b < a then b else a)) else .no
  | _ => .no
def bldQ : Option (List SV) → Res
  | some cs => .v True (.agg cs)
  | none => .no

theorem evR_mv (x : Ex) : evR (.mv x) env hs = vQ (ev env x) := by
  rw [evR_q rfl]; simp only [evQ]; cases ev env x <;> rfl
theorem evR_pick (c a b : Ex) : evR (.pick c a b) env hs = onlyV (pickQ (ev env c) (ev env a) (ev env b)) := by
  rw [evR_q rfl]; rfl
theorem evR_ld (x : Ex) : evR (.ld x) env hs = onlyV (ldQ hs (ev env x)) := by
  rw [evR_q rfl]
  simp only [evQ]
  cases ev env x with
  | none => rfl
  | some v =>
    cases v with
    | ptr t off =>
      simp only [ldQ]
      cases hs[t]? with
      | none => rfl
      | some o => cases o <;> rfl
    | _ => rfl

theorem evR_lda (x : Ex) (n : Nat) : evR (.lda x n) env hs = onlyV (ldaQ hs n (ev env x)) := by
  rw [evR_q rfl]
  simp only [evQ]
  cases ev env x with
  | none => rfl
  | some v =>
    cases v with
    | ptr t off =>
      simp only [ldaQ]
      cases hs[t]? with
      | none => rfl
      | some o => cases o <;> rfl
    | _ => rfl

theorem evR_nc (x : Ex) : evR (.nc x) env hs = onlyV (ncQ (ev env x)) := by
  rw [evR_q rfl]; rfl
theorem evR_bin (op : BinOp) (x y : Ex) : evR (.bin op x y) env hs = onlyV (binQ op (ev env x) (ev env y)) := by
  rw [evR_q rfl]; rfl
theorem evR_eqb (n : Bool) (x y : Ex) : evR (.eqb n x y) env hs = onlyV (eqbQ n (ev env x) (ev env y)) := by
  rw [evR_q rfl]; rfl
theorem evR_eqn (kd : Nat) (n : Bool) (x y : Ex) : evR (.eqn kd n x y) env hs = onlyV (eqnQ kd n (ev env x) (ev env y)) := by
  rw [evR_q rfl]; rfl
def eqaQ2 (neg : Bool) : Option Bool → Res
  | some b => .v True (.bool (if neg then !b else b))
  | none => .no
def eqaQ (neg : Bool) (z : List SV) : Option SV → Option SV → Res
  | some (.agg xs), some (.agg ys) => eqaQ2 neg (eqC z xs ys)
  | _, _ => .no
theorem evR_eqa (n : Bool) (z : List SV) (x y : Ex) : evR (.eqa n z x y) env hs = onlyV (eqaQ n z (ev env x) (ev env y)) := by
  rw [evR_q rfl]
  simp only [evQ]
  cases ev env x with
  | none => cases ev env y <;> rfl
  | some v =>
    cases ev env y with
    | none => cases v <;> rfl
    | some u =>
      cases v with
      | agg xs =>
        cases u with
        | agg ys =>
          simp only [eqaQ]
          cases eqC z xs ys <;> rfl
        | _ => rfl
      | _ => cases u <;> rfl
def idsQ : Option SV → Option SV → Res
  | some (.str s), some (.int _ i) => .v (0 ≤ i ∧ i < (s.size : Int)) (.int .u8 ((s.data[i.toNat]?.getD 0).toNat : Int))
  | _, _ => .no
theorem evR_ids (x i : Ex) : evR (.ids x i) env hs = onlyV (idsQ (ev env x) (ev env i)) := by
  rw [evR_q rfl]; rfl
def slsQ : Option SV → Option (Option SV) → Option (Option SV) → Res
  | some (.str s), some none, some (some (.int _ h)) => .v (0 ≤ h ∧ h ≤ (s.size : Int)) (.str (s.extract 0 h.toNat))
  | some (.str s), some (some (.int _ l)), some none => .v (0 ≤ l ∧ l ≤ (s.size : Int)) (.str (s.extract l.toNat s.size))
  | some (.str s), some (some (.int _ l)), some (some (.int _ h)) => .v (0 ≤ l ∧ l ≤ h ∧ h ≤ (s.size : Int)) (.str (s.extract l.toNat h.toNat))
  | _, _, _ => .no
theorem evR_sls (x : Ex) (lo hi : Option Ex) : evR (.sls x lo hi) env hs = onlyV (slsQ (ev env x) (evo env lo) (evo env hi)) := by
  rw [evR_q rfl]; rfl
theorem evR_un (op : UnOp) (x : Ex) : evR (.un op x) env hs = onlyV (unQ op (ev env x)) := by
  rw [evR_q rfl]; rfl
theorem evR_cvi (k : IntKind) (x : Ex) : evR (.cvi k x) env hs = onlyV (cviQ k (ev env x)) := by
  rw [evR_q rfl]; rfl
theorem evR_cvs (x : Ex) : evR (.cvs x) env hs = onlyV (cvsQ (ev env x)) := by
  rw [evR_q rfl]; rfl
theorem evR_s2a (n : Nat) (x : Ex) : evR (.s2a n x) env hs = onlyV (s2aQ n (ev env x)) := by
  rw [evR_q rfl]; rfl
theorem evR_mkf (f : Nat) (caps : List Ex) : evR (.mkf f caps) env hs = onlyV (mkfQ f (evs env caps)) := by
  rw [evR_q rfl]; rfl
theorem evR_slc (sz : Nat) (x : Ex) (lo hi : Option Ex) : evR (.slc sz x lo hi) env hs = onlyV (slcQ sz (ev env x) (evo env lo) (evo env hi)) := by
  rw [evR_q rfl]; rfl
theorem evR_sla (n sz : Nat) (x : Ex) (lo hi : Option Ex) : evR (.sla n sz x lo hi) env hs = onlyV (slaQ n sz (ev env x) (evo env lo) (evo env hi)) := by
  rw [evR_q rfl]; rfl
theorem evR_fa (off : Nat) (x : Ex) : evR (.fa off x) env hs = onlyV (faQ off (ev env x)) := by
  rw [evR_q rfl]; rfl
theorem evR_iaa (n sz : Nat) (x i : Ex) : evR (.iaa n sz x i) env hs = onlyV (iaaQ n sz (ev env x) (ev env i)) := by
  rw [evR_q rfl]; rfl
theorem evR_ias (sz : Nat) (x i : Ex) : evR (.ias sz x i) env hs = onlyV (iasQ sz (ev env x) (ev env i)) := by
  rw [evR_q rfl]; rfl
theorem evR_fld (off : Nat) (n : Option Nat) (x : Ex) : evR (.fld off n x) env hs = onlyV (fldQ off n (ev env x)) := by
  rw [evR_q rfl]; simp only [evQ]; cases n <;> rfl
theorem evR_idx (len sz : Nat) (b : Bool) (x i : Ex) : evR (.idx len sz b x i) env hs = onlyV (idxQ len sz b (ev env x) (ev env i)) := by
  rw [evR_q rfl]
  simp only [evQ]
  cases ev env x with
  | none => cases b <;> rfl
  | some x =>
    cases ev env i with
    | none => cases b <;> cases x <;> rfl
    | some i =>
      cases b <;> cases x <;> cases i <;> first | rfl | skip
      · rename_i cs k i
        simp only [idxQ]
        cases ldR cs (i.toNat * sz) <;> rfl
      · rename_i cs k i
        simp only [idxQ]
        cases ldaR cs (i.toNat * sz) sz <;> rfl
theorem evR_ext (x : Ex) (i : Nat) : evR (.ext x i) env hs = onlyV (extQ i (ev env x)) := by
  rw [evR_q rfl]; rfl
theorem evR_len (x : Ex) : evR (.len x) env hs = onlyV (lenQ (ev env x)) := by
  rw [evR_q rfl]; rfl
theorem evR_lens (x : Ex) : evR (.lens x) env hs = onlyV (lensQ (ev env x)) := by
  rw [evR_q rfl]; rfl
theorem evR_lena (n : Nat) : evR (.lena n) env hs = .v True (.int .i64 n) := by
  rw [evR_q rfl]; rfl
theorem evR_cap (x : Ex) : evR (.cap x) env hs = onlyV (capQ (ev env x)) := by
  rw [evR_q rfl]; rfl
theorem evR_mx (xs : List Ex) : evR (.mx xs) env hs = onlyV (mxQ (evs env xs)) := by
  rw [evR_q rfl]; rfl
theorem evR_mn (xs : List Ex) : evR (.mn xs) env hs = onlyV (mnQ (evs env xs)) := by
  rw [evR_q rfl]; rfl
theorem evR_bld (z : List SV) (ps : List (Nat × Nat × Ex)) : evR (.bld z ps) env hs = onlyV (bldQ (bldR (ev env) z ps)) := by
  rw [evR_q rfl]; rfl

/-! ### What writes -/
def bxQ (hs : List SO) (ty : Nat) : Option SV → Res
  | some (.agg cs) => .n True (.ptr hs.length 0) (hs ++ [.cells cs ty 0 0])
  | some v => if v.c1 = true then .n True (.ptr hs.length 0) (hs ++ [.cells [v] ty 0 0]) else .no
  | none => .no
def bslQ (hs : List SO) (ty len : Nat) : Option (List SV) → Res
  | some cs => .n True (.sl hs.length 0 len len) (hs ++ [.cells cs ty 0 0])
  | none => .no
def stQ2 (hs : List SO) (t off : Nat) (v : SV) : Option SO → Res
  | some (.cells cs ty a b) => stR hs t cs ty a b off v
  | some (.loop ..) => .no
  | some (.defd _) => .no
  | some (.map ..) => .no
  | none => .no
def stQ (hs : List SO) : Option SV → Option SV → Res
  | some (.ptr t off), some v => stQ2 hs t off v hs[t]?
  | _, _ => .no
def staQ2 (hs : List SO) (t off n : Nat) (new : List SV) : Option SO → Res
  | some (.cells cs ty a b) => staR hs t cs ty a b off n new
  | some (.loop ..) => .no
  | some (.defd _) => .no
  | some (.map ..) => .no
  | none => .no
def staQ (hs : List SO) (n : Nat) : Option SV → Option SV → Res
  | some (.ptr t off), some (.agg new) => staQ2 hs t off n new hs[t]?
  | _, _ => .no
def mksQ (hs : List SO) (ty by_ : Nat) (z : List SV) : Option SV → Option SV → Res
  | some (.int _ l), some (.int _ c) => .n (0 ≤ l ∧ l ≤ c ∧ c * by_ ≤ 140737488355328 ∧ by_ ≠ 0) (.sl hs.length 0 l.toNat c.toNat) (hs ++ [.cells (zerosC z c.toNat) ty 0 0])
  | _, _ => .no
def callQ : Option SV → Option (List SV) → Res
  | some f, some as => if as.all SV.one then .call f as else .no
  | _, _ => .no

theorem evR_al (ty : Nat) (z : List SV) : evR (.al ty z) env hs = .n True (.ptr hs.length 0) (hs ++ [.cells z ty 0 0]) := rfl
theorem evR_bx (ty : Nat) (x : Ex) : evR (.bx ty x) env hs = bxQ hs ty (ev env x) := by
  rw [evR_w rfl]; rfl
theorem evR_bsl (ty len : Nat) (z : List SV) (ps : List (Nat × Nat × Ex)) : evR (.bsl ty len z ps) env hs = bslQ hs ty len (bldR (ev env) z ps) := by
  rw [evR_w rfl]; rfl
theorem evR_st (x y : Ex) : evR (.st x y) env hs = stQ hs (ev env x) (ev env y) := by
  rw [evR_w rfl]
  simp only [evW]
  cases ev env x with
  | none => cases ev env y <;> rfl
  | some v =>
    cases ev env y with
    | none => cases v <;> rfl
    | some u =>
      cases v with
      | ptr t off =>
        simp only [stQ]
        cases hs[t]? with
        | none => rfl
        | some o => cases o <;> rfl
      | _ => rfl

theorem evR_sta (x y : Ex) (n : Nat) : evR (.sta x y n) env hs = staQ hs n (ev env x) (ev env y) := by
  rw [evR_w rfl]
  simp only [evW]
  cases ev env x with
  | none => cases ev env y <;> rfl
  | some v =>
    cases ev env y with
    | none => cases v <;> rfl
    | some u =>
      cases v with
      | ptr t off =>
        cases u with
        | agg new =>
          simp only [staQ]
          cases hs[t]? with
          | none => rfl
          | some o => cases o <;> rfl
        | _ => rfl
      | _ => cases u <;> rfl

theorem evR_mks (ty sz by_ : Nat) (z : List SV) (l c : Ex) : evR (.mks ty sz by_ z l c) env hs = mksQ hs ty by_ z (ev env l) (ev env c) := by
  rw [evR_w rfl]; rfl
theorem evR_mkm : evR .mkm env hs = .n True (.mp hs.length) (hs ++ [.map [] 0]) := rfl
theorem evR_call (f : Ex) (as : List Ex) : evR (.call f as) env hs = callQ (ev env f) (evs env as) := by
  rw [evR_w rfl]; rfl

def markQ2 (hs : List SO) (t off len cap : Nat) : Option SO → Res
  | some (.cells cs ty a b) => .n True (.sl t off len cap) (hs.set t (.cells cs ty (if a = b then wid cs else min a (wid cs)) (if a = b then wid cs + 1 else max b (wid cs + 1))))
  | some (.map ..) => .no
  | some (.loop ..) => .no
  | some (.defd _) => .no
  | none => .no
def markQ (hs : List SO) : Option SV → Res
  | some (.sl t off len cap) => markQ2 hs t off len cap hs[t]?
  | _ => .no
theorem evR_mark (x : Ex) : evR (.mark x) env hs = markQ hs (ev env x) := by
  rw [evR_w rfl]
  simp only [evW]
  cases ev env x with
  | none => rfl
  | some v =>
    cases v with
    | sl t off len cap =>
      simp only [markQ]
      cases hs[t]? with
      | none => rfl
      | some o => cases o <;> rfl
    | _ => rfl
def lkpQ2 (hs : List SO) (z : SV) (ok : Bool) (kk : IntKind) (n : Int) : Option SO → Res
  | some (.map es _) => lkpR z ok hs (findM kk n es)
  | some (.cells ..) => .no
  | some (.loop ..) => .no
  | some (.defd _) => .no
  | none => .no
def lkpQ (hs : List SO) (z : SV) (ok : Bool) : Option SV → Option SV → Res
  | some (.mp t), some (.int kk n) => lkpQ2 hs z ok kk n hs[t]?
  | some .nilm, some (.int _ _) => lkpR z ok hs (some none)
  | _, _ => .no
theorem evR_lkp (z : SV) (ok : Bool) (m k : Ex) : evR (.lkp z ok m k) env hs = lkpQ hs z ok (ev env m) (ev env k) := by
  rw [evR_w rfl]
  simp only [evW]
  cases ev env m with
  | none => cases ev env k <;> rfl
  | some v =>
    cases ev env k with
    | none => cases v <;> rfl
    | some u =>
      cases v with
      | mp t =>
        cases u with
        | int kk n =>
          simp only [lkpQ]
          cases hs[t]? with
          | none => rfl
          | some o => cases o <;> rfl
        | _ => rfl
      | _ => cases u <;> rfl
def insQ2 (hs : List SO) (t : Nat) (kk : IntKind) (n : Int) (v : SV) : Option SO → Res
  | some (.map es c) => if v.one = true then insR hs t (insM kk n v c es) else .no
  | some (.cells ..) => .no
  | some (.loop ..) => .no
  | some (.defd _) => .no
  | none => .no
def insQ (hs : List SO) : Option SV → Option SV → Option SV → Res
  | some (.mp t), some (.int kk n), some v => insQ2 hs t kk n v hs[t]?
  | _, _, _ => .no
theorem evR_ins (m k x : Ex) : evR (.ins m k x) env hs = insQ hs (ev env m) (ev env k) (ev env x) := by
  rw [evR_w rfl]
  simp only [evW]
  cases ev env m with
  | none => cases ev env k <;> cases ev env x <;> rfl
  | some v =>
    cases ev env k with
    | none => cases v <;> cases ev env x <;> rfl
    | some u =>
      cases ev env x with
      | none => cases v <;> cases u <;> rfl
      | some y =>
        cases v with
        | mp t =>
          cases u with
          | int kk n =>
            simp only [insQ]
            cases hs[t]? with
            | none => rfl
            | some o => cases o <;> rfl
          | _ => rfl
        | _ => cases u <;> rfl

/-! ### Lists of look-ups, guards, results -/
def evsC : Option SV → Option (List SV) → Option (List SV)
  | some v, some vs => some (v :: vs)
  | _, _ => none
theorem evs_cons (x : Ex) (r : List Ex) : evs env (x :: r) = evsC (ev env x) (evs env r) := rfl
theorem evs_nil : evs env [] = some [] := rfl
def evoC : Option SV → Option (Option SV)
  | some v => some (some v)
  | none => none
theorem evo_some (x : Ex) : evo env (some x) = evoC (ev env x) := rfl
theorem evo_none : evo env none = some none := rfl
def wantC (want : Bool) : Option SV → Option Bool
  | some (.bool b) => some (b == want)
  | some (.tup []) => some false
  | _ => none
theorem wantG_none : wantG none env = some true := rfl
theorem wantG_some (d : Nat) (want : Bool) : wantG (some (d, want)) env = wantC want (lk env d) := rfl
def tagC : Option SV → Option Nat
  | some (.ptr t _) => some t
  | _ => none
theorem tagQ_ld (x : Ex) : tagQ (.ld x) env = tagC (ev env x) := rfl
theorem tagQ_lda (x : Ex) (n : Nat) : tagQ (.lda x n) env = tagC (ev env x) := rfl
def addTC (T : List (Nat × Nat)) (i t : Nat) : Option SO → Option (List (Nat × Nat))
  | some (.cells ..) => some ((i, t) :: T)
  | some (.loop ..) => none
  | some (.defd _) => none
  | some (.map ..) => none
  | none => none
theorem addT_none (T : List (Nat × Nat)) (i : Nat) : addT hs T i none = some T := rfl
theorem addT_some (T : List (Nat × Nat)) (i t : Nat) : addT hs T i (some t) = addTC T i t hs[t]? := by
  simp only [addT]
  cases hs[t]? with
  | none => rfl
  | some o => cases o <;> rfl
def ret1C : Option SV → Res
  | some v => if v.one = true then .v True v else .no
  | none => .no
theorem retV1_t (n : Nat) : retV1 env hs (.t n) = ret1C (lk env n) := rfl
theorem retV1_c (n : Nat) : retV1 env hs (.c n) = ldQ hs (lk env n) := by
  simp only [retV1]
  cases lk env n with
  | none => rfl
  | some v =>
    cases v with
    | ptr t off =>
      simp only [ldQ]
      cases hs[t]? with
      | none => rfl
      | some o => cases o <;> rfl
    | _ => rfl

theorem retV1_a (n sz : Nat) : retV1 env hs (.a n sz) = ldaQ hs sz (lk env n) := by
  simp only [retV1]
  cases lk env n with
  | none => rfl
  | some v =>
    cases v with
    | ptr t off =>
      simp only [ldaQ]
      cases hs[t]? with
      | none => rfl
      | some o => cases o <;> rfl
    | _ => rfl

def retC : Res → Option (Prop × List SV) → Option (Prop × List SV)
  | .v p v, some (q, vs) => some (p ∧ q, v :: vs)
  | _, _ => none
theorem retVs_cons (x : RP) (r : List RP) : retVs env hs (x :: r) = retC (retV1 env hs x) (retVs env hs r) := rfl
theorem retVs_nil : retVs env hs [] = some (True, []) := rfl
def unDC (t : Nat) (r : List Nat) (hs : List SO) : Option SO → Option (List SO)
  | some (.defd true) => unD r (hs.set t (.defd false))
  | _ => none
theorem unD_nil : unD [] hs = some hs := rfl
theorem unD_cons (t : Nat) (r : List Nat) : unD (t :: r) hs = unDC t r hs hs[t]? := rfl
/-! building -/
def bldC (ρ : Ex → Option SV) (r : List (Nat × Nat × Ex)) : Option (List SV) → Option (List SV)
  | some cs => bldR ρ cs r
  | none => none
def bldC1 (ρ : Ex → Option SV) (cs : List SV) (o n : Nat) (r : List (Nat × Nat × Ex)) : Option SV → Option (List SV)
  | none => none
  | some (.agg d) => if wid d = n then bldC ρ r (splC cs o n d) else none
  | some v => if n = 1 ∧ v.c1 = true then bldC ρ r (wrC cs o v) else none
theorem bldR_nil (ρ : Ex → Option SV) (cs : List SV) : bldR ρ cs [] = some cs := by cases cs <;> rfl
theorem bldR_cons (ρ : Ex → Option SV) (cs : List SV) (o n : Nat) (x : Ex) (r : List (Nat × Nat × Ex)) : bldR ρ cs ((o, n, x) :: r) = bldC1 ρ cs o n r (ρ x) := by
  rw [bldR]
  cases ρ x with
  | none => rfl
  | some v =>
    cases v <;> simp only [bldC1] <;> (repeat' split) <;> simp_all [bldC]
def stC (hs : List SO) (t ty a b off : Nat) : Option (List SV) → Res
  | some cs' => .u (free a b off 1) (hs.set t (.cells cs' ty a b))
  | none => .no
def staC2 (hs : List SO) (t ty a b off n : Nat) : Option (Prop × List SV) → Res
  | some (p, cs') => .u (p ∧ free a b off n) (hs.set t (.cells cs' ty a b))
  | none => .no
theorem staR_eq (t : Nat) (cs : List SV) (ty a b off n : Nat) (new : List SV) : staR hs t cs ty a b off n new = staC2 hs t ty a b off n (staC cs off n new) := rfl
theorem stR_run (t : Nat) (k : IntKind) (n : Nat) (l : List Int) (ty a b off : Nat) (x : Int) : stR hs t [.run k n l] ty a b off (.int k x) = .u (off < n ∧ free a b off 1) (hs.set t (.cells [.run k n (l.set off x)] ty a b)) := by simp [stR]
theorem stR_one (t : Nat) (c : SV) (ty a b off : Nat) (v : SV) (hc : c.one = true) (hv : v.c1 = true) : stR hs t [c] ty a b off v = stC hs t ty a b off (wrC [c] off v) := by
  cases c <;> simp [SV.one] at hc <;> simp only [stR, hv, if_true] <;> (split <;> simp_all [stC])
theorem stR_more (t : Nat) (c d : SV) (cs : List SV) (ty a b off : Nat) (v : SV) (hv : v.c1 = true) : stR hs t (c :: d :: cs) ty a b off v = stC hs t ty a b off (wrC (c :: d :: cs) off v) := by
  simp only [stR, hv, if_true]
  split <;> simp_all [stC]

/-! ### Appending, copying, strings -/
abbrev Src := Option (Prop × List SV × Nat)
def srcC3 (len : Nat) : Res → Src
  | .v p (.agg d) => some (p, d, len)
  | _ => none
def srcC2 (off len sz : Nat) : Option SO → Src
  | some (.cells cs _ _ _) => srcC3 len (ldaR cs off (len * sz))
  | some (.loop ..) => none
  | some (.defd _) => none
  | some (.map ..) => none
  | none => none
theorem srcC_nils (sz : Nat) : srcC hs sz .nils = some (True, [], 0) := rfl
theorem srcC_sl (sz t off len cap : Nat) : srcC hs sz (.sl t off len cap) = srcC2 off len sz hs[t]? := by
  simp only [srcC]
  cases hs[t]? with
  | none => rfl
  | some o => cases o <;> rfl
theorem srcC_str (s : ByteArray) : srcC hs 1 (.str s) = some (True, [.run .u8 s.size (s.data.toList.map fun b => (b.toNat : Int))], s.size) := rfl
def srcZ (hs : List SO) (sz : Nat) (z : List SV) : Bool → Option SV → Src
  | true, some (.int _ n) => some (0 ≤ n, zerosC z n.toNat, n.toNat)
  | false, some v => srcC hs sz v
  | _, _ => none
def srcO (hs : List SO) (sz : Nat) : Option SV → Src
  | some v => srcC hs sz v
  | none => none
def appQ3 (hs : List SO) (ty sz by_ : Nat) (z : List SV) (t off cap ty' a b : Nat) (p1 : Prop) (old : List SV) (len : Nat) (p2 : Prop) (new : List SV) (n : Nat) : Option (Prop × List SV) → Res
  | some (p3, cs') => .ap (p1 ∧ p2 ∧ (len + n) * by_ ≤ 140737488355328 ∧ (len + n ≤ cap → p3 ∧ free a b (off + len * sz) (n * sz))) (len + n) cap (.sl t off (len + n) cap) (hs.set t (.cells cs' ty' a b))
      fun c => (.sl hs.length 0 (len + n) c, hs ++ [.cells (growC z old new (len + n) c) ty 0 0])
  | none => if cap < len + n then .ap (p1 ∧ p2 ∧ (len + n) * by_ ≤ 140737488355328) (len + n) cap .nils hs fun c => (.sl hs.length 0 (len + n) c, hs ++ [.cells (growC z old new (len + n) c) ty 0 0]) else .no
def appQ2 (hs : List SO) (ty sz by_ : Nat) (z : List SV) (t off cap : Nat) (p1 : Prop) (old : List SV) (len : Nat) (p2 : Prop) (new : List SV) (n : Nat) : Option SO → Res
  | some (.cells cs ty' a b) => appQ3 hs ty sz by_ z t off cap ty' a b p1 old len p2 new n (staC cs (off + len * sz) (n * sz) new)
  | some (.loop ..) => .no
  | some (.defd _) => .no
  | some (.map ..) => .no
  | none => .no
def appQ (hs : List SO) (ty sz by_ : Nat) (z : List SV) : Option SV → Src → Src → Res
  | some .nils, some (p1, old, len), some (p2, new, n) => .ap (p1 ∧ p2 ∧ (len + n) * by_ ≤ 140737488355328) (len + n) 0 .nils hs fun c => (.sl hs.length 0 (len + n) c, hs ++ [.cells (growC z old new (len + n) c) ty 0 0])
  | some (.sl t off _ cap), some (p1, old, len), some (p2, new, n) => appQ2 hs ty sz by_ z t off cap p1 old len p2 new n hs[t]?
  | _, _, _ => .no
def appB (hs : List SO) (ty sz by_ : Nat) (z : List SV) (d : SV) (s1 s2 : Src) : Res :=
  match s1, s2 with
  | some (p1, old, len), some (p2, new, n) => match d with
    | .nils => .ap (p1 ∧ p2 ∧ (len + n) * by_ ≤ 140737488355328) (len + n) 0 .nils hs fun c => (.sl hs.length 0 (len + n) c, hs ++ [.cells (growC z old new (len + n) c) ty 0 0])
    | .sl t off _ cap => match hs[t]? with
      | some (.cells cs ty' a b) => match staC cs (off + len * sz) (n * sz) new with
        | some (p3, cs') => .ap (p1 ∧ p2 ∧ (len + n) * by_ ≤ 140737488355328 ∧ (len + n ≤ cap → p3 ∧ free a b (off + len * sz) (n * sz))) (len + n) cap (.sl t off (len + n) cap) (hs.set t (.cells cs' ty' a b))
            fun c => (.sl hs.length 0 (len + n) c, hs ++ [.cells (growC z old new (len + n) c) ty 0 0])
        | none => if cap < len + n then .ap (p1 ∧ p2 ∧ (len + n) * by_ ≤ 140737488355328) (len + n) cap .nils hs fun c => (.sl hs.length 0 (len + n) c, hs ++ [.cells (growC z old new (len + n) c) ty 0 0]) else .no
      | _ => .no
    | _ => .no
  | _, _ => .no
theorem appB_eq (ty sz by_ : Nat) (z : List SV) (d : SV) (s1 s2 : Src) : appB hs ty sz by_ z d s1 s2 = appQ hs ty sz by_ z (some d) s1 s2 := by
  cases s1 with
  | none => cases d <;> rfl
  | some s1 =>
    obtain ⟨p1, old, len⟩ := s1
    cases s2 with
    | none => cases d <;> rfl
    | some s2 =>
      obtain ⟨p2, new, n⟩ := s2
      cases d with
      | sl t off _ cap =>
        simp only [appQ, appB]
        cases hs[t]? with
        | none => rfl
        | some o =>
          cases o with
          | cells cs ty' a b =>
            simp only [appQ2]
            cases staC cs (off + len * sz) (n * sz) new with
            | none => rfl
            | some s => rfl
          | _ => rfl
      | _ => rfl
theorem evW_app (ty sz by_ : Nat) (z : List SV) (zeros : Bool) (x y : Ex) : evW (.app ty sz by_ z zeros x y) env hs = (match ev env x, ev env y with
    | some d, some v => appB hs ty sz by_ z d (srcC hs sz d) (if zeros = true then (match v with | .int _ n => some (0 ≤ n, zerosC z n.toNat, n.toNat) | _ => none) else srcC hs sz v)
    | _, _ => .no) := rfl
theorem evR_app (ty sz by_ : Nat) (z : List SV) (zeros : Bool) (x y : Ex) : evR (.app ty sz by_ z zeros x y) env hs = appQ hs ty sz by_ z (ev env x) (srcO hs sz (ev env x)) (srcZ hs sz z zeros (ev env y)) := by
  rw [evR_w rfl, evW_app]
  cases ev env x with
  | none => cases ev env y <;> rfl
  | some d =>
    cases ev env y with
    | none => cases zeros <;> cases d <;> simp [srcZ, appQ]
    | some v =>
      simp only [srcO]
      rw [appB_eq]
      congr 1
      cases zeros with
      | true => cases v <;> rfl
      | false => cases v <;> rfl
def cpyQ3 (hs : List SO) (t ty a b off n m : Nat) (p1 p2 : Prop) : Option (Prop × List SV) → Res
  | some (p3, cs') => .n (p1 ∧ p2 ∧ p3 ∧ free a b off m) (.int .i64 n) (hs.set t (.cells cs' ty a b))
  | none => .no
def cpyQ4 (hs : List SO) (cs : List SV) (t ty a b off n m : Nat) (p1 : Prop) : Res → Res
  | .v p2 (.agg src) => cpyQ3 hs t ty a b off n m p1 p2 (staC cs off m src)
  | _ => .no
def cpyQ2 (hs : List SO) (sz t off len : Nat) (p1 : Prop) (src : List SV) (n : Nat) : Option SO → Res
  | some (.cells cs ty a b) => if n ≤ len then cpyQ3 hs t ty a b off n (n * sz) p1 True (staC cs off (n * sz) src) else cpyQ4 hs cs t ty a b off len (len * sz) p1 (ldaR src 0 (len * sz))
  | some (.loop ..) => .no
  | some (.defd _) => .no
  | some (.map ..) => .no
  | none => .no
def cpyQ (hs : List SO) (sz : Nat) : Option SV → Src → Res
  | some (.sl t off len _), some (p1, src, n) => cpyQ2 hs sz t off len p1 src n hs[t]?
  | _, _ => .no
def cpyB (hs : List SO) (sz t off len : Nat) (s1 : Src) : Res :=
  match s1 with
  | some (p1, src, n) => match hs[t]? with
    | some (.cells cs ty a b) => if n ≤ len then (match staC cs off (n * sz) src with
        | some (p3, cs') => .n (p1 ∧ p3 ∧ free a b off (n * sz)) (.int .i64 n) (hs.set t (.cells cs' ty a b))
        | none => .no) else (match ldaR src 0 (len * sz) with
        | .v p2 (.agg src') => (match staC cs off (len * sz) src' with
          | some (p3, cs') => .n (p1 ∧ p2 ∧ p3 ∧ free a b off (len * sz)) (.int .i64 len) (hs.set t (.cells cs' ty a b))
          | none => .no)
        | _ => .no)
    | _ => .no
  | none => .no
theorem cpyB_eq (sz t off len cap : Nat) (s1 : Src) : cpyB hs sz t off len s1 = cpyQ hs sz (some (.sl t off len cap)) s1 := by
  cases s1 with
  | none => rfl
  | some s1 =>
    obtain ⟨p1, src, n⟩ := s1
    simp only [cpyQ, cpyB]
    cases hs[t]? with
    | none => rfl
    | some o =>
      cases o with
      | cells cs ty a b =>
        simp only [cpyQ2]
        split
        · cases staC cs off (n * sz) src with
          | none => rfl
          | some s => simp [cpyQ3]
        · cases ldaR src 0 (len * sz) with
          | v p2 x =>
            cases x with
            | agg src' =>
              simp only [cpyQ4]
              cases staC cs off (len * sz) src' with
              | none => rfl
              | some s => simp [cpyQ3]
            | _ => rfl
          | _ => rfl
      | _ => rfl
theorem evW_cpy (sz : Nat) (x y : Ex) : evW (.cpy sz x y) env hs = (match ev env x, ev env y with
    | some (.sl t off len _), some v => cpyB hs sz t off len (srcC hs sz v)
    | _, _ => .no) := rfl
theorem evR_cpy (sz : Nat) (x y : Ex) : evR (.cpy sz x y) env hs = cpyQ hs sz (ev env x) (srcO hs sz (ev env y)) := by
  rw [evR_w rfl, evW_cpy]
  cases ev env x with
  | none => cases ev env y <;> rfl
  | some d =>
    cases ev env y with
    | none => cases d <;> rfl
    | some v =>
      simp only [srcO]
      cases d with
      | sl t off len cap => exact cpyB_eq sz t off len cap _
      | _ => cases srcC hs sz v <;> rfl
def s2bQ (hs : List SO) (ty : Nat) : Option SV → Res
  | some (.str s) => .ap (s.size ≤ 9223372036854775807) (s.size + 1) 0 .nils hs fun c => (.sl hs.length 0 s.size (c - 1), hs ++ [.cells [.run .u8 (c - 1) (s.data.toList.map (fun b => (b.toNat : Int)) ++ List.replicate (c - 1 - s.size) 0)] ty (c - 1) c])
  | _ => .no
theorem evR_s2b (ty : Nat) (x : Ex) : evR (.s2b ty x) env hs = s2bQ hs ty (ev env x) := by
  rw [evR_w rfl]; rfl
def b2sQ4 (p : Prop) : Option (List Int) → Res
  | some l => .v p (.str ⟨(l.map fun n => UInt8.ofNat n.toNat).toArray⟩)
  | none => .no
def b2sQ3 : Res → Res
  | .v p (.agg d) => b2sQ4 p (flatI .u8 d)
  | _ => .no
def b2sQ2 (off len : Nat) : Option SO → Res
  | some (.cells cs _ _ _) => b2sQ3 (ldaR cs off len)
  | some (.loop ..) => .no
  | some (.defd _) => .no
  | some (.map ..) => .no
  | none => .no
def b2sQ (hs : List SO) : Option SV → Res
  | some .nils => .v True (.str ByteArray.empty)
  | some (.sl t off len _) => b2sQ2 off len hs[t]?
  | _ => .no
theorem evR_b2s (x : Ex) : evR (.b2s x) env hs = b2sQ hs (ev env x) := by
  rw [evR_w rfl]
  simp only [evW]
  cases ev env x with
  | none => rfl
  | some v =>
    cases v with
    | sl t off len cap =>
      simp only [b2sQ]
      cases hs[t]? with
      | none => rfl
      | some o =>
        cases o with
        | cells cs ty a b =>
          simp only [b2sQ2]
          cases ldaR cs off len with
          | v p x =>
            cases x with
            | agg d =>
              simp only [b2sQ3]
              cases flatI .u8 d <;> rfl
            | _ => rfl
          | _ => rfl
        | _ => rfl
    | _ => rfl

section
variable {C : Ctx} {fn N : Nat} {ro : Option Nat} {rs : List RP} {env : Env} {k : List It} {defs : List Nat} {r : List FS} {hs : List SO} {op : IOp} {l : List IOp}

/-- A call by its contract; on by unfolding. -/
theorem ok_call {P : Program} (hP : C.P = P) (n : Nat) (σ : List Nat) {f : Nat} {asF : List SV} {hsF : List SO} {Q : SV → List SO → Prop} (hS : Spec P f asF hsF Q) {c : FnC} (hF : FnOk P f c) (hg : wantG op.g env = some true)
    (hev : evR op.o env hs = .call (.fn f []) (rens σ asF)) (hab : bnds hsF.length asF = true) (h : hsLe σ hs σ hsF) (hb : hsF.all (SO.bnd hsF.length) = true) (hnd : σ.Nodup)
    (K : ∀ x hs', Q x hs' → nextK (vc n C) fn ro N rs env l k defs r (x.ren (extS σ hs.length hs'.length)) (updO (extS σ hs.length hs'.length) σ hs' hs) op.d) :
    Ok C (⟨fn, ro, N, rs, env, .ops (op :: l) :: k, defs⟩ :: r) hs := by
  subst hP
  exact ok_spec hg hev hF σ hS (by simp) hab h hb hnd fun x hs' hq => nextK_ok (fun f h => vc_ok n f h) (K x hs' hq)

theorem ok_dcall {P : Program} (hP : C.P = P) (n : Nat) {T : List (Nat × Nat)} {i : Nat} {dr : List Nat} {d : DT} (σ : List Nat) {f : Nat} {asF : List SV} {hsF : List SO} {Q : SV → List SO → Prop} (hS : Spec P f asF hsF Q) {c : FnC} (hF : FnOk P f c) (hg : wantG op.g env = some true)
    (hev : evR op.o env hs = .call (.fn f []) (rens σ asF)) (hab : bnds hsF.length asF = true) (h : hsLe σ hs σ hsF) (hb : hsF.all (SO.bnd hsF.length) = true) (hnd : σ.Nodup)
    (K : ∀ x hs', Q x hs' → keepT hs (updO (extS σ hs.length hs'.length) σ hs' hs) (cutT dr T) ∧ dnx (dvc (vc n C) C fn ro N rs k defs r d) N env (updO (extS σ hs.length hs'.length) σ hs' hs) (cutT dr T) (x.ren (extS σ hs.length hs'.length)) op.d) :
    DOk C fn ro N rs env (.one i op dr d) k defs r hs T := by
  subst hP
  refine dok_one (stepD_spec hg hev hF σ hS (by simp) hab h hb hnd fun x hs' hq => ?_)
  obtain ⟨h1, h2⟩ := K x hs' hq
  exact ⟨h1, dnx_ok (fun e h T hh => dvc_ok (fun f h => vc_ok n f h) d e h T hh) h2⟩
end

theorem dok_head {C : Ctx} {fn N : Nat} {ro : Option Nat} {rs : List RP} {env : Env} {k : List It} {defs : List Nat} {r : List FS} {hs : List SO} {T : List (Nat × Nat)} {a b : DT} (h : a = b) (H : DOk C fn ro N rs env b k defs r hs T) : DOk C fn ro N rs env a k defs r hs T := h ▸ H

end Go.Pv
