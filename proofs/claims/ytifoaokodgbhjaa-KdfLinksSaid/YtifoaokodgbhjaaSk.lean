/- pursuivantlaw05.works. -/
import Derived.Test.YtifoaokodgbhjaaSj
namespace Go.Pv
open Go Go.Proofs
def clNum5 : FnC := ⟨4, [(.t 2)], (.seq (.reg [(.mk (some 2) none (.mv (.c (.int .i64 0))))]) (.seq (.reg [(.mk (some 3) none (.mv (.t 0))), (.mk (some 2) none (.mv (.t 3)))]) .ret))⟩
theorem oklNum5 : FnOk Try.prog 24 clNum5 := fnOk_mk Try.f24 (by kernel_rfl) (by kernel_rfl) (by kernel_rfl) (by kernel_rfl) (by kernel_rfl)
def dlWorks5n0 : DT := (.one 6 (.mk (some 38) none (.mv (.t 44))) [] (.tk 7 (.mk (some 45) none (.ext (.t 38) 0)) (.tk 8 (.mk (some 46) none (.ext (.t 38) 1)) (.one 9 (.mk (some 11) none (.mv (.t 45))) [] (.one 10 (.mk (some 12) none (.mv (.t 46))) [] .fin)))))
def dlWorks5n1 : DT := (.one 6 (.mk (some 38) none (.mv (.t 44))) [] (.tk 7 (.mk (some 45) none (.ext (.t 38) 0)) (.tk 8 (.mk (some 46) none (.ext (.t 38) 1)) (.one 9 (.mk (some 11) none (.mv (.t 45))) [] (.one 10 (.mk (some 12) none (.mv (.t 46))) [] .fin)))))
def dlWorks5n2 : DT := (.one 6 (.mk (some 38) none (.mv (.t 44))) [] (.tk 7 (.mk (some 45) none (.ext (.t 38) 0)) (.tk 8 (.mk (some 46) none (.ext (.t 38) 1)) (.one 9 (.mk (some 11) none (.mv (.t 45))) [] (.one 10 (.mk (some 12) none (.mv (.t 46))) [] .fin)))))
def dlWorks5n3 : DT := (.one 6 (.mk (some 38) none (.mv (.t 44))) [] (.tk 7 (.mk (some 45) none (.ext (.t 38) 0)) (.tk 8 (.mk (some 46) none (.ext (.t 38) 1)) (.one 9 (.mk (some 11) none (.mv (.t 45))) [] (.one 10 (.mk (some 12) none (.mv (.t 46))) [] .fin)))))
def clWorks5 : FnC := ⟨85, [(.t 0)], (.seq (.reg [(.mk (some 0) none (.mv (.c (.bool false))))]) (.seq (.reg [(.mk (some 14) none (.call (.c (.fn 20 [])) [(.c (.int .i64 1))])), (.mk (some 13) none (.mv (.t 14))), (.mk (some 15) none (.ext (.t 13) 0)), (.mk (some 16) none (.ext (.t 13) 1)), (.mk (some 1) none (.mv (.t 15))), (.mk (some 2) none (.mv (.t 16)))]) (.seq (.reg [(.mk (some 18) none (.call (.c (.fn 20 [])) [(.c (.int .i64 2))])), (.mk (some 17) none (.mv (.t 18))), (.mk (some 19) none (.ext (.t 17) 0)), (.mk (some 20) none (.ext (.t 17) 1)), (.mk (some 3) none (.mv (.t 19))), (.mk (some 4) none (.mv (.t 20)))]) (.seq (.reg [(.mk (some 22) none (.call (.c (.fn 20 [])) [(.c (.int .i64 0))])), (.mk (some 21) none (.mv (.t 22))), (.mk (some 23) none (.ext (.t 21) 0)), (.mk (some 24) none (.ext (.t 21) 1)), (.mk (some 5) none (.mv (.t 23))), (.mk (some 6) none (.mv (.t 24)))]) (.seq (.reg [(.mk (some 26) none (.mks 5 1 1 [(.int .u8 0)] (.c (.int .i64 20)) (.c (.int .i64 20)))), (.mk (some 27) none (.call (.c (.fn 22 [])) [(.c (.int .i64 2)), (.t 26), (.c .nils)])), (.mk (some 25) none (.mv (.t 27))), (.mk (some 28) none (.ext (.t 25) 0)), (.mk (some 29) none (.ext (.t 25) 1)), (.mk (some 7) none (.al 22 [(.run .u8 12 (List.replicate 12 0))])), (.mk none none (.sta (.t 7) (.t 28) 12)), (.mk (some 8) none (.mv (.t 29)))]) (.seq (.reg [(.mk (some 31) none (.mks 5 1 1 [(.int .u8 0)] (.c (.int .i64 20)) (.c (.int .i64 20)))), (.mk (some 32) none (.bsl 5 1 [(.run .u8 1 [0])] [(0, (1, (.c (.int .u8 120))))])), (.mk (some 33) none (.mark (.t 32))), (.mk (some 34) none (.bsl 27 1 [.nils] [(0, (1, (.t 33)))])), (.mk (some 35) none (.call (.c (.fn 22 [])) [(.c (.int .i64 1)), (.t 31), (.t 34)])), (.mk (some 30) none (.mv (.t 35))), (.mk (some 36) none (.ext (.t 30) 0)), (.mk (some 37) none (.ext (.t 30) 1)), (.mk (some 9) none (.al 22 [(.run .u8 12 (List.replicate 12 0))])), (.mk none none (.sta (.t 9) (.t 36) 12)), (.mk (some 10) none (.mv (.t 37)))]) (.seq (.dreg (.tk 1 (.mk (some 40) none (.lda (.t 9) 12)) (.two 0 (.mk (some 39) none (.mks 5 1 1 [(.int .u8 0)] (.c (.int .i64 20)) (.c (.int .i64 20)))) [] (.one 2 (.mk (some 41) none (.bsl 5 1 [(.run .u8 1 [0])] [(0, (1, (.c (.int .u8 120))))])) [] (.one 3 (.mk (some 42) none (.mark (.t 41))) [2] (.one 4 (.mk (some 43) none (.bsl 27 1 [.nils] [(0, (1, (.t 42)))])) [3, 2] (.one 5 (.mk (some 44) none (.call (.c (.fn 23 [])) [(.c (.int .i64 1)), (.t 39), (.t 40), (.t 43)])) [0, 1, 4, 3, 2] dlWorks5n0)))) 2 (.mk (some 41) none (.bsl 5 1 [(.run .u8 1 [0])] [(0, (1, (.c (.int .u8 120))))])) [] (.two 0 (.mk (some 39) none (.mks 5 1 1 [(.int .u8 0)] (.c (.int .i64 20)) (.c (.int .i64 20)))) [] (.one 3 (.mk (some 42) none (.mark (.t 41))) [2] (.one 4 (.mk (some 43) none (.bsl 27 1 [.nils] [(0, (1, (.t 42)))])) [3, 2] (.one 5 (.mk (some 44) none (.call (.c (.fn 23 [])) [(.c (.int .i64 1)), (.t 39), (.t 40), (.t 43)])) [0, 1, 4, 3, 2] dlWorks5n1))) 3 (.mk (some 42) none (.mark (.t 41))) [2] (.two 0 (.mk (some 39) none (.mks 5 1 1 [(.int .u8 0)] (.c (.int .i64 20)) (.c (.int .i64 20)))) [] (.one 4 (.mk (some 43) none (.bsl 27 1 [.nils] [(0, (1, (.t 42)))])) [3, 2] (.one 5 (.mk (some 44) none (.call (.c (.fn 23 [])) [(.c (.int .i64 1)), (.t 39), (.t 40), (.t 43)])) [0, 1, 4, 3, 2] dlWorks5n2)) 4 (.mk (some 43) none (.bsl 27 1 [.nils] [(0, (1, (.t 42)))])) [3, 2] (.one 0 (.mk (some 39) none (.mks 5 1 1 [(.int .u8 0)] (.c (.int .i64 20)) (.c (.int .i64 20)))) [] (.one 5 (.mk (some 44) none (.call (.c (.fn 23 [])) [(.c (.int .i64 1)), (.t 39), (.t 40), (.t 43)])) [0, 1, 4, 3, 2] dlWorks5n3))))))) (.seq (.reg [(.mk (some 47) none (.mv (.t 2))), (.mk (some 48) none (.call (.c (.fn 24 [])) [(.t 47)])), (.mk (some 49) none (.mv (.t 4))), (.mk (some 50) none (.call (.c (.fn 24 [])) [(.t 49)])), (.mk (some 51) none (.bin .add (.t 48) (.t 50))), (.mk (some 52) none (.mv (.t 10))), (.mk (some 53) none (.call (.c (.fn 24 [])) [(.t 52)])), (.mk (some 54) none (.bin .add (.t 51) (.t 53))), (.mk (some 55) none (.mv (.t 12))), (.mk (some 56) none (.call (.c (.fn 24 [])) [(.t 55)])), (.mk (some 57) none (.bin .add (.t 54) (.t 56))), (.mk (some 58) none (.bin .eql (.t 57) (.c (.int .i64 0)))), (.mk (some 59) none (.mv (.t 58))), (.mk (some 60) (some (59, true)) (.mv (.t 1))), (.mk (some 61) (some (59, true)) (.bin .eql (.t 60) (.c (.int .i64 20)))), (.mk (some 62) none (.pick (.t 59) (.t 61) (.c (.bool false)))), (.mk (some 63) none (.mv (.t 62))), (.mk (some 64) (some (63, true)) (.mv (.t 3))), (.mk (some 65) (some (63, true)) (.bin .eql (.t 64) (.c (.int .i64 16)))), (.mk (some 66) none (.pick (.t 63) (.t 65) (.c (.bool false)))), (.mk (some 67) none (.mv (.t 66))), (.mk (some 68) (some (67, true)) (.mv (.t 6))), (.mk (some 69) (some (67, true)) (.call (.c (.fn 24 [])) [(.t 68)])), (.mk (some 70) (some (67, true)) (.bin .eql (.t 69) (.c (.int .i64 2)))), (.mk (some 71) none (.pick (.t 67) (.t 70) (.c (.bool false)))), (.mk (some 72) none (.mv (.t 71))), (.mk (some 73) (some (72, true)) (.mv (.t 8))), (.mk (some 74) (some (72, true)) (.call (.c (.fn 24 [])) [(.t 73)])), (.mk (some 75) (some (72, true)) (.bin .eql (.t 74) (.c (.int .i64 2)))), (.mk (some 76) none (.pick (.t 72) (.t 75) (.c (.bool false)))), (.mk (some 77) none (.mv (.t 76))), (.mk (some 78) (some (77, true)) (.mv (.t 11))), (.mk (some 79) none (.pick (.t 77) (.t 78) (.c (.bool false)))), (.mk (some 80) none (.mv (.t 79))), (.mk (some 81) (some (80, true)) (.lda (.t 9) 12)), (.mk (some 82) (some (80, true)) (.bld [(.run .u8 12 (List.replicate 12 0))] [])), (.mk (some 83) (some (80, true)) (.eqa true [(.run .u8 12 (List.replicate 12 0))] (.t 81) (.t 82))), (.mk (some 84) none (.pick (.t 80) (.t 83) (.c (.bool false)))), (.mk (some 0) none (.mv (.t 84)))]) .ret))))))))⟩
theorem oklWorks5 : FnOk Try.prog 8 clWorks5 := fnOk_mk Try.f8 (by kernel_rfl) (by kernel_rfl) (by kernel_rfl) (by kernel_rfl) (by kernel_rfl)
def ccShort : FnC := ⟨20, [(.a 4 12), (.t 5)], (.seq (.reg [(.mk (some 4) none (.al 22 [(.run .u8 12 (List.replicate 12 0))])), (.mk (some 5) none (.mv (.c (.int .i64 0))))]) (.seq (.reg [(.mk (some 8) none (.mv (.t 0))), (.mk (some 9) none (.mv (.t 1))), (.mk (some 10) none (.call (.c (.fn 41 [])) [(.t 8), (.t 9)])), (.mk (some 7) none (.mv (.t 10))), (.mk (some 11) none (.ext (.t 7) 0)), (.mk (some 12) none (.ext (.t 7) 1)), (.mk (some 6) none (.al 91 [(.run .u8 16 (List.replicate 16 0))])), (.mk none none (.sta (.t 6) (.t 11) 16)), (.mk (some 5) none (.mv (.t 12)))]) (.seq (.seq (.reg [(.mk (some 13) none (.mv (.t 5))), (.mk (some 14) none (.bin .eql (.t 13) (.c (.int .i64 0))))]) (.cond (.t 14) (.dreg (.tk 0 (.mk (some 15) none (.sla 12 1 (.t 4) none none)) (.one 1 (.mk (some 16) none (.sla 16 1 (.t 6) none none)) [] (.one 2 (.mk (some 17) none (.cpy 1 (.t 15) (.t 16))) [0, 1] .fin)))) .skip)) (.seq (.reg [(.mk (some 18) none (.lda (.t 4) 12)), (.mk (some 19) none (.mv (.t 5))), (.mk none none (.sta (.t 4) (.t 18) 12)), (.mk (some 5) none (.mv (.t 19)))]) .ret))))⟩
theorem okcShort : FnOk Try.prog 55 ccShort := fnOk_mk Try.f55 (by kernel_rfl) (by kernel_rfl) (by kernel_rfl) (by kernel_rfl) (by kernel_rfl)


theorem splNum5 (H : List SO) (n : Int) : Spec Try.prog 24 [.int .i64 n] H fun v hs => v = .int .i64 n ∧ hs = H := by
  refine spec_h oklNum5 rfl (of_ble rfl) fun C hP hf hQ hn hw hbd => ?_
  apply vc_ok 100
  simp only [FS.start, clNum5, paramsE, go_sem, reduceCtorEq, Nat.reduceLT, ↓reduceIte]
  exact fin00 hf hQ hw rfl ⟨rfl, rfl⟩

theorem opq_nils : Opq .nils := ⟨rfl, rfl, fun _ _ _ => by simp, fun _ => by simp⟩
theorem opq_sl (t off len cap : Nat) : Opq (.sl t off len cap) := ⟨rfl, rfl, fun _ _ _ => by simp, fun _ => by simp⟩

/-- The tag of the chapter's row. -/
def w5 : List Int := [98, 68, 230, 100, 81, 161, 200, 105, 93, 185, 115, 28]
theorem w5_eq : hshF (List.replicate 20 0) [120] = w5 := by kernel_rfl

theorem w5_spec (X : List SO) (x : SV) (hx : Byt X x (List.replicate 20 0)) (t u ty a b : Nat) (ht : X[t]? = some (.cells [.sl u 0 1 1] ty 0 0)) (hu : X[u]? = some (.cells [.run .u8 1 [120]] 5 a b)) (l : List SO) :
    Spec Try.prog 54 [x, .sl t 0 1 1] (X ++ l) fun v hs => v = .tup [.agg [.run .u8 12 w5], .int .i64 0] ∧ hs = X ++ l := by
  have hp : Parts (X ++ l) [.sl u 0 1 1] [[120]] := ⟨.inr ⟨u, 0, 1, _, _, _, _, rfl, by decide, at_old hu _, rowB_run rfl (by decide) rfl⟩, trivial⟩
  have := sphShort (X ++ l) x (List.replicate 20 0) t [.sl u 0 1 1] [[120]] ty 0 0 (hx.app l) (by rw [List.length_replicate]; decide) (at_old ht _) hp (by simp) (by decide)
  rw [show ([[120]] : List (List Int)).flatten = [120] from rfl, w5_eq] at this
  exact this

theorem byt_z20 (X : List SO) (kz ty a b : Nat) (hz : X[kz]? = some (.cells [.run .u8 20 (List.replicate 20 0)] ty a b)) : Byt X (.sl kz 0 20 20) (List.replicate 20 0) := by
  have zl : (List.replicate 20 (0 : Int)).length = 20 := List.length_replicate
  exact .inr ⟨_, _, _, _, ty, a, b, rfl, by omega, hz, rowB_run zl (by omega) rfl⟩

theorem sameF_w5 : sameF w5 w5 = true := by kernel_rfl
theorem w5_check (X : List SO) (kz t : Nat) (hz : ∃ tz az bz, X[kz]? = some (.cells [.run .u8 20 (List.replicate 20 0)] tz az bz)) (ht : ∃ u ty a b, X[t]? = some (.cells [.sl u 0 1 1] ty 0 0) ∧ X[u]? = some (.cells [.run .u8 1 [120]] 5 a b)) :
    Spec Try.prog 23 [.int .i64 1, .sl kz 0 20 20, .agg [.run .u8 12 w5], .sl t 0 1 1] X fun v hs => v = .tup [.bool true, .int .i64 0] ∧ hs = X := by
  have zl : (List.replicate 20 (0 : Int)).length = 20 := List.length_replicate
  have s7 : tagE 1 (List.replicate 20 0) = 0 := by unfold tagE; rw [zl]; rfl
  have s8 : ∀ a b, tagF 1 (List.replicate 20 0) a b = a := by intro a b; unfold tagF; rw [zl]; rfl
  obtain ⟨tz, az, bz, hz⟩ := hz
  obtain ⟨u, ty, a, b, ht, hu⟩ := ht
  have hb := byt_z20 X kz _ _ _ hz
  have := spmCheck X 1 (.sl kz 0 20 20) (.sl t 0 1 1) (List.replicate 20 0) w5 (List.replicate 12 0) w5 okcShort rfl rfl hb (opq_sl _ _ _ _) (fun _ _ l => w5_spec X _ hb t u _ _ _ ht hu l) (fun h => by cases h)
  rw [s7, s8, sameF_w5] at this
  exact this

theorem splWorks5 (H : List SO) : Spec Try.prog 8 [] H fun v hs => v = .bool true ∧ hs = H := by
  refine spec_h oklWorks5 rfl (of_ble rfl) fun C hP hf hQ hn hw hbd => ?_
  apply vc_ok 100
  simp only [FS.start, clWorks5, paramsE, go_sem, Nat.reduceLT, ↓reduceIte]
  refine ok_ch hP 100 (spmSize H 1) okmSize rfl rfl fun v hs' hq => ?_
  obtain ⟨rfl, rfl⟩ := hq
  simp only [go_sem, Nat.reduceEqDiff, Nat.reduceLT, ↓reduceIte]
  refine ok_ch hP 100 (spmSize hs' 2) okmSize rfl rfl fun v hs2 hq => ?_
  obtain ⟨rfl, rfl⟩ := hq
  simp only [go_sem, Nat.reduceEqDiff, Nat.reduceLT, ↓reduceIte]
  refine ok_ch hP 100 (spmSize hs2 0) okmSize rfl rfl fun v hs' hq => ?_
  obtain ⟨rfl, rfl⟩ := hq
  simp only [go_sem, Nat.reduceEqDiff, Nat.reduceLT, Int.reduceToNat, Int.reduceLE, ↓reduceIte]
  refine ⟨by decide, ?_⟩
  have zl : (List.replicate 20 (0 : Int)).length = 20 := List.length_replicate
  have bz : ∀ (H : List SO) (l m : List SO) , Byt (H ++ (l ++ .cells [.run .u8 20 (List.replicate 20 0)] 5 0 0 :: m)) (.sl (H.length + l.length) 0 20 20) (List.replicate 20 0) := by
    intro H l m
    refine .inr ⟨_, _, _, _, 5, 0, 0, rfl, by omega, ?_, rowB_run zl (by omega) rfl⟩
    rw [get_app]; simp
  refine ok_ch hP 100 (spmTag _ 2 _ .nils (List.replicate 20 0) (List.replicate 12 0) (List.replicate 12 0) okcShort rfl rfl (bz hs' [] []) opq_nils (fun h => by cases h) (fun _ h => by rw [zl] at h; cases h)) okmTag rfl rfl fun v hs' hq => ?_
  obtain ⟨rfl, rfl⟩ := hq
  have s1 : sizeF 1 = 20 := rfl
  have s2 : sizeF 2 = 16 := rfl
  have s3 : errF 0 = 2 := rfl
  have s4 : errF 1 = 0 := rfl
  have s5 : errF 2 = 0 := rfl
  have s6 : tagE 2 (List.replicate 20 0) = 2 := by unfold tagE; rw [zl]; rfl
  have s7 : tagE 1 (List.replicate 20 0) = 0 := by unfold tagE; rw [zl]; rfl
  have s8 : ∀ a b, tagF 1 (List.replicate 20 0) a b = a := by intro a b; unfold tagF; rw [zl]; rfl
  simp only [s1, s2, s3, s4, s5, s6, go_sem, Nat.reduceEqDiff, Nat.reduceLT, Nat.reduceAdd, Int.reduceToNat, Int.reduceLE, ↓reduceIte]
  refine ⟨by decide, ?_⟩
  refine ok_ch hP 100 (spmTag _ 1 _ _ (List.replicate 20 0) w5 (List.replicate 12 0) okcShort rfl rfl (bz hs' [_, _] [_, _]) (opq_sl _ _ _ _) (fun _ _ l => w5_spec _ _ (bz hs' [_, _] [_, _]) (hs'.length + 4) (hs'.length + 3) _ _ _ (get_app _ _ _) (get_app _ _ _) l) (fun h => by cases h)) okmTag rfl rfl fun v hs2 hq => ?_
  obtain ⟨rfl, rfl⟩ := hq
  simp only [s7, s8, go_sem, Nat.reduceEqDiff, Nat.reduceLT, Nat.reduceAdd, Nat.reduceBEq, Int.reduceToNat, Int.reduceLE, ↓reduceIte]
  refine ⟨⟨by decide, ?_⟩, ⟨by decide, ?_⟩, ⟨by decide, ?_⟩, by decide, ?_⟩
  all_goals
    refine ok_dch hP 100 (w5_check _ _ _ ?_ ?_) okmCheck rfl rfl fun v hs2 hq => ?_
    · exact ⟨_, _, _, get_app _ _ _⟩
    · exact ⟨_, _, _, _, get_app _ _ _, get_app _ _ _⟩
  all_goals
    obtain ⟨rfl, rfl⟩ := hq
    simp only [hdd dlWorks5n0.eq_1, hdd dlWorks5n1.eq_1, hdd dlWorks5n2.eq_1, hdd dlWorks5n3.eq_1, go_sem, Nat.reduceEqDiff, Nat.reduceLT, Nat.reduceBEq, ↓reduceIte]
    refine ok_less (env' := [(47, .int .i64 0), (4, .int .i64 0), (10, .int .i64 0), (12, .int .i64 0), (1, .int .i64 20), (3, .int .i64 16), (6, .int .i64 2), (8, .int .i64 2), (11, .bool true), (9, .ptr (hs'.length + 5) 0)]) ?_ (by simp only [envSub, go_sem, Nat.reduceEqDiff, ↓reduceIte] <;> rfl)
    have a0 : IntKind.i64.wrap (0 + 0) = 0 := rfl
    have a1 : ((20 : Int) == 20) = true := rfl
    have a2 : ((16 : Int) == 16) = true := rfl
    have nz : (w5 == List.replicate 12 0) = false := rfl
    apply vc_ok 100
    simp only [go_sem, ↓reduceIte]
    refine ok_ch hP 100 (splNum5 _ _) oklNum5 rfl rfl fun v hs3 hq => ?_
    obtain ⟨h1, h2⟩ := hq
    subst h1 h2
    simp only [go_sem, Nat.reduceEqDiff, Nat.reduceLT, ↓reduceIte]
    refine ok_ch hP 100 (splNum5 _ _) oklNum5 rfl rfl fun v hs3 hq => ?_
    obtain ⟨h1, h2⟩ := hq
    subst h1 h2
    simp only [a0, go_sem, Nat.reduceEqDiff, Nat.reduceLT, ↓reduceIte]
    refine ok_ch hP 100 (splNum5 _ _) oklNum5 rfl rfl fun v hs3 hq => ?_
    obtain ⟨h1, h2⟩ := hq
    subst h1 h2
    simp only [a0, go_sem, Nat.reduceEqDiff, Nat.reduceLT, ↓reduceIte]
    refine ok_ch hP 100 (splNum5 _ _) oklNum5 rfl rfl fun v hs3 hq => ?_
    obtain ⟨h1, h2⟩ := hq
    subst h1 h2
    simp only [a0, a1, a2, go_sem, Nat.reduceEqDiff, Nat.reduceLT, ↓reduceIte, Int.reduceBEq]
    refine ok_ch hP 100 (splNum5 _ _) oklNum5 rfl rfl fun v hs3 hq => ?_
    obtain ⟨h1, h2⟩ := hq
    subst h1 h2
    simp only [go_sem, Nat.reduceEqDiff, Nat.reduceLT, ↓reduceIte, Int.reduceBEq]
    refine ok_ch hP 100 (splNum5 _ _) oklNum5 rfl rfl fun v hs3 hq => ?_
    obtain ⟨h1, h2⟩ := hq
    subst h1 h2
    simp only [nz, go_sem, Nat.reduceEqDiff, Nat.reduceLT, ↓reduceIte, Int.reduceBEq]
    exact fin0 hf hQ hw rfl ⟨rfl, rfl⟩
#print axioms splWorks5
end Go.Pv
