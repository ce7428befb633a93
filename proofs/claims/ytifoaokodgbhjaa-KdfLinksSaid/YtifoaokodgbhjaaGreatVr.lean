/- The walk by tags, as a proposition that comes out by unfolding. -/
import Derived.Test.YtifoaokodgbhjaaGreatVs
namespace Go.Pv
open Go

def nextK (K : List FS → List SO → Prop) (fn : Nat) (ro : Option Nat) (N : Nat) (rs : List RP) (env : Env) (l : List IOp) (k : List It) (defs : List Nat) (r : List FS) (x : SV) (hs : List SO) : Option Nat → Prop
  | none => K (⟨fn, ro, N, rs, env, .ops l :: k, defs⟩ :: r) hs
  | some d => d < N ∧ K (⟨fn, ro, N, rs, (d, x) :: env, .ops l :: k, defs⟩ :: r) hs

/-- A round begins. -/
def yieldK2 (K : List FS → List SO → Prop) (stop : Prop) (t fn : Nat) (N : Nat) (x y : IC) (r : List FS) (hs : List SO) : Option Env → Prop
  | none => stop
  | some env => K (⟨fn, some t, N, [], env, [.c x, .br, .c y], []⟩ :: r) hs
def yieldK (K : List FS → List SO → Prop) (stop : Prop) (t : Nat) (as : List SV) (r : List FS) (hs : List SO) : Option SO → Prop
  | some (.loop _ _ fn env N ps x y _) => yieldK2 K stop t fn N x y r hs (roundE N ps as env)
  | some (.cells ..) => stop
  | some (.defd _) => stop
  | some (.map ..) => stop
  | none => stop
def isYld : SV → Option Nat
  | .yld t => some t
  | _ => none
def callK (K : List FS → List SO → Prop) (stop : Prop) (as : List SV) (r : List FS) (hs : List SO) : Option Nat → Prop
  | some t => yieldK K stop t as r hs hs[t]?
  | none => stop

def resK (K : List FS → List SO → Prop) (C : Ctx) (fn : Nat) (ro : Option Nat) (N : Nat) (rs : List RP) (env : Env) (op : IOp) (l : List IOp) (k : List It) (defs : List Nat) (r : List FS) (hs : List SO) : Res → Prop
  | .v p x => p ∧ nextK K fn ro N rs env l k defs r x hs op.d
  | .n p x hs' => p ∧ nextK K fn ro N rs env l k defs r x hs' op.d
  | .u p hs' => p ∧ nextK K fn ro N rs env l k defs r (.tup []) hs' op.d
  | .ap p need cap x hs' f => p ∧ (if need ≤ cap then nextK K fn ro N rs env l k defs r x hs' op.d else ∀ c, need ≤ c → nextK K fn ro N rs env l k defs r (f c).1 (f c).2 op.d)
  | .call f as => callK K (Ok C (⟨fn, ro, N, rs, env, .ops (op :: l) :: k, defs⟩ :: r) hs) as (⟨fn, ro, N, rs, env, .ops (op :: l) :: k, defs⟩ :: r) hs (isYld f)
  | .no => Ok C (⟨fn, ro, N, rs, env, .ops (op :: l) :: k, defs⟩ :: r) hs

def opK (K : List FS → List SO → Prop) (C : Ctx) (fn : Nat) (ro : Option Nat) (N : Nat) (rs : List RP) (env : Env) (op : IOp) (l : List IOp) (k : List It) (defs : List Nat) (r : List FS) (hs : List SO) : Option Bool → Prop
  | some true => resK K C fn ro N rs env op l k defs r hs (evR op.o env hs)
  | some false => nextK K fn ro N rs env l k defs r (.tup []) hs op.d
  | none => Ok C (⟨fn, ro, N, rs, env, .ops (op :: l) :: k, defs⟩ :: r) hs

def ret4 (K : List FS → List SO → Prop) (r : List FS) (hs : List SO) : Option FS → Prop
  | some c => K (c :: r) hs
  | none => False
def ret3 (K : List FS → List SO → Prop) (Q : SV → List SO → Prop) (f fn : Nat) (x : SV) (hs : List SO) : List FS → Prop
  | [] => fn = f ∧ Q x hs
  | c :: r => ret4 K r hs (finishS c x)
def ret2 (K : List FS → List SO → Prop) (Q : SV → List SO → Prop) (f fn : Nat) (r : List FS) (hs : List SO) : Option (Prop × List SV) → Prop
  | some (p, vs) => p ∧ ret3 K Q f fn (tupV vs) hs r
  | none => False
def ret1 (K : List FS → List SO → Prop) (Q : SV → List SO → Prop) (f fn : Nat) (rs : List RP) (env : Env) (r : List FS) : Option (List SO) → Prop
  | some hs => ret2 K Q f fn r hs (retVs env hs rs)
  | none => False

def roundK2 (K : List FS → List SO → Prop) (stop : Prop) (r : List FS) (hs : List SO) : Option FS → Prop
  | some c => K (c :: r) hs
  | none => stop
/-- A round ends. -/
def roundK (K : List FS → List SO → Prop) (stop : Prop) (t : Nat) (b : Bool) (jump : Option Jmp) (hs : List SO) : List FS → Option SO → Prop
  | c :: r, some (.loop _ _ fn env N ps x y D) => roundK2 K stop r (hs.set t (.loop (bif b then .ready else .done) jump fn env N ps x y D)) (finishS c (.bool b))
  | [], some (.loop ..) => stop
  | _, some (.cells ..) => stop
  | _, some (.defd _) => stop
  | _, some (.map ..) => stop
  | _, none => stop

def retK (K : List FS → List SO → Prop) (C : Ctx) (fn N : Nat) (rs : List RP) (env : Env) (todo : List It) (defs : List Nat) (r : List FS) (hs : List SO) (b : Bool) (jump : Option Jmp) : Option Nat → Prop
  | none => ret1 K C.Q C.f fn rs env r (unD defs hs)
  | some t => roundK K (Ok C (⟨fn, some t, N, rs, env, todo, defs⟩ :: r) hs) t b jump hs r hs[t]?

def erfK2 (K : List FS → List SO → Prop) (stop : Prop) (fn : Nat) (ro : Option Nat) (N : Nat) (rs : List RP) (env : Env) (k : List It) (defs : List Nat) (r : List FS) (hs : List SO) : Bool → Prop
  | true => K (⟨fn, ro, N, rs, env, k, defs⟩ :: r) hs
  | false => stop
def erfK (K : List FS → List SO → Prop) (C : Ctx) (fn : Nat) (ro : Option Nat) (N : Nat) (rs : List RP) (env : Env) (t : Nat) (k : List It) (defs : List Nat) (r : List FS) (hs : List SO) : Option SO → Prop
  | some (.loop st pend fn' env' N' ps x y D) => erfK2 K (Ok C (⟨fn, ro, N, rs, env, .erf t :: k, defs⟩ :: r) hs) fn ro N rs env (pendI pend k) defs r (hs.set t (.loop .exhausted pend fn' env' N' ps x y D)) (notBusy st)
  | some (.cells ..) => Ok C (⟨fn, ro, N, rs, env, .erf t :: k, defs⟩ :: r) hs
  | some (.defd _) => Ok C (⟨fn, ro, N, rs, env, .erf t :: k, defs⟩ :: r) hs
  | some (.map ..) => Ok C (⟨fn, ro, N, rs, env, .erf t :: k, defs⟩ :: r) hs
  | none => Ok C (⟨fn, ro, N, rs, env, .erf t :: k, defs⟩ :: r) hs

def isReady : LoopState → Bool
  | .ready => true
  | _ => false
def brK2 (K : List FS → List SO → Prop) (C : Ctx) (fn t : Nat) (N : Nat) (rs : List RP) (env : Env) (k : List It) (defs : List Nat) (r : List FS) (hs : List SO) : Option SO → Prop
  | some (.loop st pend fn' env' N' ps x y D) => erfK2 K (Ok C (⟨fn, some t, N, rs, env, .br :: k, defs⟩ :: r) hs) fn (some t) N rs env k defs r (hs.set t (.loop .busy pend fn' env' N' ps x y D)) (isReady st)
  | some (.cells ..) => Ok C (⟨fn, some t, N, rs, env, .br :: k, defs⟩ :: r) hs
  | some (.defd _) => Ok C (⟨fn, some t, N, rs, env, .br :: k, defs⟩ :: r) hs
  | some (.map ..) => Ok C (⟨fn, some t, N, rs, env, .br :: k, defs⟩ :: r) hs
  | none => Ok C (⟨fn, some t, N, rs, env, .br :: k, defs⟩ :: r) hs
def brK (K : List FS → List SO → Prop) (C : Ctx) (fn : Nat) (N : Nat) (rs : List RP) (env : Env) (k : List It) (defs : List Nat) (r : List FS) (hs : List SO) : Option Nat → Prop
  | none => Ok C (⟨fn, none, N, rs, env, .br :: k, defs⟩ :: r) hs
  | some t => brK2 K C fn t N rs env k defs r hs hs[t]?

def isBool : Option SV → Option Bool
  | some (.bool b) => some b
  | _ => none
def condK (K : List FS → List SO → Prop) (C : Ctx) (fn : Nat) (ro : Option Nat) (N : Nat) (rs : List RP) (env : Env) (e : Ex) (a b : IC) (k : List It) (defs : List Nat) (r : List FS) (hs : List SO) : Option Bool → Prop
  | some t => if t = true then K (⟨fn, ro, N, rs, env, .c a :: k, defs⟩ :: r) hs else K (⟨fn, ro, N, rs, env, .c b :: k, defs⟩ :: r) hs
  | none => Ok C (⟨fn, ro, N, rs, env, .c (.cond e a b) :: k, defs⟩ :: r) hs

def exitK2 (K : List FS → List SO → Prop) (C : Ctx) (fn : Nat) (N : Nat) (rs : List RP) (env : Env) (id : Nat) (k : List It) (defs : List Nat) (r : List FS) (hs : List SO) : Option Nat → Prop
  | some t => roundK K (Ok C (⟨fn, some t, N, rs, env, .c (.exit id) :: k, defs⟩ :: r) hs) t false (some (.exit id)) hs r hs[t]?
  | none => Ok C (⟨fn, none, N, rs, env, .c (.exit id) :: k, defs⟩ :: r) hs
def exitK (K : List FS → List SO → Prop) (C : Ctx) (fn : Nat) (ro : Option Nat) (N : Nat) (rs : List RP) (env : Env) (id : Nat) (k : List It) (defs : List Nat) (r : List FS) (hs : List SO) : Option (List It) → Prop
  | some k' => K (⟨fn, ro, N, rs, env, k', defs⟩ :: r) hs
  | none => exitK2 K C fn N rs env id k defs r hs ro
def gotoK (K : List FS → List SO → Prop) (C : Ctx) (fn : Nat) (ro : Option Nat) (N : Nat) (rs : List RP) (env : Env) (id : Nat) (k : List It) (defs : List Nat) (r : List FS) (hs : List SO) : Option (List It) → Prop
  | some k' => K (⟨fn, ro, N, rs, env, k', defs⟩ :: r) hs
  | none => Ok C (⟨fn, ro, N, rs, env, .c (.goto id) :: k, defs⟩ :: r) hs

def vcT (K : List FS → List SO → Prop) (C : Ctx) (fn : Nat) (ro : Option Nat) (N : Nat) (rs : List RP) (env : Env) (defs : List Nat) (r : List FS) (hs : List SO) : List It → Prop
  | [] => retK K C fn N rs env [] defs r hs true none ro
  | .blk _ :: k => K (⟨fn, ro, N, rs, env, k, defs⟩ :: r) hs
  | .sc _ :: k => K (⟨fn, ro, N, rs, env, k, defs⟩ :: r) hs
  | .lp x :: k => Ok C (⟨fn, ro, N, rs, env, .c x :: .lp x :: k, defs⟩ :: r) hs
  | .irf t :: k => Ok C (⟨fn, ro, N, rs, env, .irf t :: k, defs⟩ :: r) hs
  | .erf t :: k => erfK K C fn ro N rs env t k defs r hs hs[t]?
  | .br :: k => brK K C fn N rs env k defs r hs ro
  | .ops [] :: k => K (⟨fn, ro, N, rs, env, k, defs⟩ :: r) hs
  | .ops (op :: l) :: k => opK K C fn ro N rs env op l k defs r hs (wantG op.g env)
  | .c .skip :: k => K (⟨fn, ro, N, rs, env, k, defs⟩ :: r) hs
  | .c (.label _) :: k => K (⟨fn, ro, N, rs, env, k, defs⟩ :: r) hs
  | .c (.seq a b) :: k => K (⟨fn, ro, N, rs, env, .c a :: .c b :: k, defs⟩ :: r) hs
  | .c (.reg l) :: k => K (⟨fn, ro, N, rs, env, .ops l :: k, defs⟩ :: r) hs
  | .c (.block id a) :: k => K (⟨fn, ro, N, rs, env, .c a :: .blk id :: k, defs⟩ :: r) hs
  | .c (.scope a) :: k => K (⟨fn, ro, N, rs, env, .c a :: .sc a :: k, defs⟩ :: r) hs
  | .c (.loop a) :: k => Ok C (⟨fn, ro, N, rs, env, .c a :: .lp a :: k, defs⟩ :: r) hs
  | .c (.cond e a b) :: k => condK K C fn ro N rs env e a b k defs r hs (isBool (ev env e))
  | .c (.exit id) :: k => exitK K C fn ro N rs env id k defs r hs (exitS id k)
  | .c (.goto id) :: k => gotoK K C fn ro N rs env id k defs r hs (gotoS id k)
  | .c .ret :: k => retK K C fn N rs env (.c .ret :: k) defs r hs false (some .ret) ro
  | .c (.dreg d) :: k => dvc K C fn ro N rs k defs r d env hs []
  | .c (.rf g ps a b) :: k => Ok C (⟨fn, ro, N, rs, env, .c (.rf g ps a b) :: k, defs⟩ :: r) hs

def vc : Nat → Ctx → List FS → List SO → Prop
  | 0, C, fs, hs => Ok C fs hs
  | _ + 1, C, [], hs => Ok C [] hs
  | n + 1, C, ⟨fn, ro, N, rs, env, todo, defs⟩ :: r, hs => vcT (vc n C) C fn ro N rs env defs r hs todo

section
variable {C : Ctx} {fn N : Nat} {ro : Option Nat} {rs : List RP} {env : Env} {k : List It} {defs : List Nat} {r : List FS} {hs : List SO} {op : IOp} {l : List IOp}
variable {K : List FS → List SO → Prop}

theorem nextK_ok (hK : ∀ f h, K f h → Ok C f h) {d : Option Nat} {x : SV} {hs : List SO} (h : nextK K fn ro N rs env l k defs r x hs d) : NextOk C fn ro N rs env l k defs r d x hs := by
  unfold NextOk putE
  cases d with
  | none => exact hK _ _ h
  | some d =>
    simp only [nextK] at h
    simp only [h.1, if_true]
    exact hK _ _ h.2

theorem retK_ok (hK : ∀ f h, K f h → Ok C f h) (h : ret1 K C.Q C.f fn rs env r (unD defs hs)) : RetOk C fn rs env defs r hs := by
  unfold RetOk
  cases hu : unD defs hs with
  | none => rw [hu] at h; exact h.elim
  | some hs' =>
    rw [hu] at h
    simp only [ret1] at h
    cases hv : retVs env hs' rs with
    | none => rw [hv] at h; exact h.elim
    | some pv =>
      obtain ⟨p, vs⟩ := pv
      rw [hv] at h
      simp only [ret2] at h
      have h2 := h.2
      cases r with
      | nil => simp only [hv]; exact ⟨h.1, h2⟩
      | cons c r =>
        simp only [ret3] at h2
        cases hc : finishS c (tupV vs) with
        | none => rw [hc] at h2; exact h2.elim
        | some c' =>
          rw [hc] at h2
          simp only [hv, hc]
          exact ⟨h.1, hK _ _ h2⟩

theorem roundK_inv {stop : Prop} {t : Nat} {b : Bool} {jump : Option Jmp} {o : Option SO} (h : roundK K stop t b jump hs r o) :
    stop ∨ ∃ c r' st pend fn' envL N' ps x y D c', r = c :: r' ∧ o = some (.loop st pend fn' envL N' ps x y D) ∧ finishS c (.bool b) = some c' ∧ K (c' :: r') (hs.set t (.loop (bif b then .ready else .done) jump fn' envL N' ps x y D)) := by
  cases o with
  | none => left; cases r <;> exact h
  | some o =>
    cases o with
    | loop st pend fn' envL N' ps x y D =>
      cases r with
      | nil => left; exact h
      | cons c r' =>
        simp only [roundK] at h
        cases hc : finishS c (.bool b) with
        | none => rw [hc] at h; left; exact h
        | some c' => rw [hc] at h; right; exact ⟨c, r', st, pend, fn', envL, N', ps, x, y, D, c', rfl, rfl, hc, h⟩
    | _ => left; cases r <;> exact h

theorem ops_ok (hK : ∀ f h, K f h → Ok C f h) (h : opK K C fn ro N rs env op l k defs r hs (wantG op.g env)) : Ok C (⟨fn, ro, N, rs, env, .ops (op :: l) :: k, defs⟩ :: r) hs := by
  cases hg : wantG op.g env with
  | none => rw [hg] at h; exact h
  | some b =>
    rw [hg] at h
    cases b with
    | false => exact ok_op_skip hg (nextK_ok hK h)
    | true =>
      simp only [opK] at h
      cases hv : evR op.o env hs with
      | v p x =>
        rw [hv] at h
        exact ok_op hg (by rw [hv]; exact ⟨h.1, nextK_ok hK h.2⟩)
      | n p x hs' =>
        rw [hv] at h
        exact ok_op hg (by rw [hv]; exact ⟨h.1, nextK_ok hK h.2⟩)
      | u p hs' =>
        rw [hv] at h
        exact ok_op hg (by rw [hv]; exact ⟨h.1, nextK_ok hK h.2⟩)
      | ap p need cap x hs' f =>
        rw [hv] at h
        refine ok_op hg (by
          rw [hv]
          refine ⟨h.1, fun hle => ?_, fun hlt c hc => ?_⟩
          · have := h.2; rw [if_pos hle] at this; exact nextK_ok hK this
          · have := h.2; rw [if_neg (by omega)] at this; exact nextK_ok hK (this c hc))
      | call f as =>
        rw [hv] at h
        simp only [resK] at h
        cases f with
        | yld t =>
          simp only [isYld, callK] at h
          cases hl : hs[t]? with
          | none => rw [hl] at h; exact h
          | some o =>
            rw [hl] at h
            cases o with
            | loop st pend fn' envL N' ps x y D =>
              simp only [yieldK] at h
              cases hp : roundE N' ps as envL with
              | none => rw [hp] at h; exact h
              | some env' =>
                rw [hp] at h
                exact ok_yield hg hv hl hp (hK _ _ h)
            | _ => exact h
        | _ => exact h
      | no => rw [hv] at h; exact h

theorem vcT_ok (hK : ∀ f h, K f h → Ok C f h) : ∀ (todo : List It), vcT K C fn ro N rs env defs r hs todo → Ok C (⟨fn, ro, N, rs, env, todo, defs⟩ :: r) hs := by
  intro todo h
  unfold vcT at h
  split at h
  · cases ro with
    | none => exact ok_end (retK_ok hK h)
    | some t =>
      rcases roundK_inv h with h | ⟨c, r', st, pend, fn', envL, N', ps, x, y, D, c', rfl, hl, hc, h⟩
      · exact h
      · exact ok_round_end hl hc (hK _ _ h)
  · exact ok_blk (hK _ _ h)
  · exact ok_sc (hK _ _ h)
  · exact ok_lp h
  · exact h
  · rename_i t k
    cases hl : hs[t]? with
    | none => rw [hl] at h; exact h
    | some o =>
      rw [hl] at h
      cases o with
      | loop st pend fn' env' N' ps x y D =>
        simp only [erfK] at h
        cases hb : notBusy st with
        | false => rw [hb] at h; exact h
        | true => rw [hb] at h; exact ok_erf hl hb (hK _ _ h)
      | _ => exact h
  · cases ro with
    | none => exact h
    | some t =>
      simp only [brK] at h
      cases hl : hs[t]? with
      | none => rw [hl] at h; exact h
      | some o =>
        rw [hl] at h
        cases o with
        | loop st pend fn' env' N' ps x y D =>
          cases st with
          | ready => exact ok_br hl (hK _ _ h)
          | _ => exact h
        | _ => exact h
  · exact ok_ops_nil (hK _ _ h)
  · exact ops_ok hK h
  · exact ok_skip (hK _ _ h)
  · exact ok_label (hK _ _ h)
  · exact ok_seq (hK _ _ h)
  · exact ok_reg (hK _ _ h)
  · exact ok_block (hK _ _ h)
  · exact ok_scope (hK _ _ h)
  · exact ok_loop h
  · rename_i e a b k
    cases hb : isBool (ev env e) with
    | none => rw [hb] at h; exact h
    | some t =>
      rw [hb] at h
      have ht : ev env e = some (.bool t) := by
        unfold isBool at hb
        split at hb
        · rename_i b he; cases hb; exact he
        · cases hb
      refine ok_cond ht ?_
      simp only [condK] at h
      cases t with
      | true => exact hK _ _ h
      | false => exact hK _ _ h
  · rename_i id k
    cases he : exitS id k with
    | some k' => rw [he] at h; exact ok_exit he (hK _ _ h)
    | none =>
      rw [he] at h
      simp only [exitK] at h
      cases ro with
      | none => exact h
      | some t =>
        rcases roundK_inv h with h | ⟨c, r', st, pend, fn', envL, N', ps, x, y, D, c', rfl, hl, hc, h⟩
        · exact h
        · exact ok_round_exit he hl hc (hK _ _ h)
  · rename_i id k
    cases he : gotoS id k with
    | some k' => rw [he] at h; exact ok_goto he (hK _ _ h)
    | none => rw [he] at h; exact h
  · cases ro with
    | none => exact ok_ret (retK_ok hK h)
    | some t =>
      rcases roundK_inv h with h | ⟨c, r', st, pend, fn', envL, N', ps, x, y, D, c', rfl, hl, hc, h⟩
      · exact h
      · exact ok_round_ret hl hc (hK _ _ h)
  · exact ok_dreg (dvc_ok hK _ _ _ _ h)
  · exact h

theorem vc_ok : ∀ (n : Nat) (fs : List FS) (hs : List SO), vc n C fs hs → Ok C fs hs
  | 0, _, _, h => h
  | _ + 1, [], _, h => h
  | n + 1, ⟨_, _, _, _, _, todo, _⟩ :: _, _, h => vcT_ok (fun f h => vc_ok n f h) todo h
end
end Go.Pv
