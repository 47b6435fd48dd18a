/- Texts of this claim, joined: what the others lean on. -/
import Derived.Test.YtncokgdfkbgflaaAllM2
import Derived.Test.YtncokgdfkbgflaaAllM4
import Derived.Test.YtncokgdfkbgflaaAllM1
import Derived.Test.YtncokgdfkbgflaaAllM3
namespace Go.Proofs.Ytncokgdfkbgflaa.P
open Go.RowKit Go.Proofs.YtncokgdfkbgflaaW.PrintWords Go.Proofs.YtncokgdfkbgflaaW.PrintLast Go.Proofs.YtncokgdfkbgflaaW.PrintMore
attribute [local go_sem] max2_int min2_int max_two min_two max_three min_three max_four min_four   -- for this text's walks alone
set_option linter.unusedVariables false
set_option linter.unusedSimpArgs false
noncomputable section
def shelfmarklaw10_awake.f (k : Nat)  : Option (Bool) := (nar_Pack.f (([(⟨(⟨#[]⟩ : ByteArray), 1, (⟨#[120]⟩ : ByteArray)⟩ : S37)] : List (S37)))).bind fun bt110 => ((nar_Str.f k (⟨#[40]⟩ : ByteArray)).bind fun t112 => (if (t112.size : Int) = 16 then ((shelfmarklaw1_Err.f bt110.2).bind fun t113 => (if t113 = 0 then (if (bt110.1.size : Int) > 100 then (if 0 ≤ 24 then (if 24 ≤ (bt110.1.size : Int) then ((nar_Str.f k (⟨#[110, 105, 120, 45, 97, 114, 99, 104, 105, 118, 101, 45, 49]⟩ : ByteArray)).bind fun t114 => (some ((bt110.1.extract 0 24).toList == t114.toList))) else (none)) else (none)) else (some false)) else (some false))) else (some false)))
theorem shelfmarklaw10_awake.mono : ∀ k, LeO (shelfmarklaw10_awake.f k ) (shelfmarklaw10_awake.f (k + 1) ) := by
  intro  k
  unfold shelfmarklaw10_awake.f
  repeat' first
      | (with_reducible exact nar_Str.mono _ _)
      | (with_reducible exact LeO.refl _)
      | (with_reducible exact LeO.none _)
      | (with_reducible refine LeO.ite ?_ ?_)
      | (with_reducible refine LeO.bind ?_ (fun _ => ?_))
      | exact nar_Str.mono _ _
      | exact LeO.none _
      | refine LeO.ite ?_ ?_
      | refine LeO.bind ?_ (fun _ => ?_)
def shelfmarklaw10_awake.T2 : Bool × List (List Nat × List Nat) := (true, [([], []), ([0], [0]), ([1], [1]), ([2, 0], [2]), ([3], [3]), ([4, 3, 3], [3, 4]), ([5, 3], [3, 5]), ([3, 6], [3, 6]), ([7, 5], [7]), ([8], [8]), ([9, 8], [8, 9]), ([10, 8], [8, 10]), ([8, 11], [8, 11]), ([12, 8], [12]), ([13], [13]), ([14, 13], [13, 14]), ([13, 13], [13]), ([15, 16, 13], [13, 15, 16]), ([13, 17], [13, 17]), ([18, 16, 0, 1, 2, 3, 4, 5, 6, 7, 8, 9, 10, 11, 12, 13, 14, 15, 16, 17, 18], [18])])
def shelfmarklaw10_awake.B2 : List Nat := [0, 1, 3, 7, 15, 31, 63, 127, 255, 511, 1023, 2047, 4095, 8191, 16383, 32767, 16383, 131071, 262143, 524287]
theorem shelfmarklaw10_awake.tab2 : rtab .any (opsOf Try.f11 2) = shelfmarklaw10_awake.T2 := by kernel_rfl
theorem shelfmarklaw10_awake.bits2 : waitsOk shelfmarklaw10_awake.T2.2 shelfmarklaw10_awake.B2 = true := by kernel_rfl
set_option maxHeartbeats 8000000 in
set_option maxRecDepth 100000 in
theorem shelfmarklaw10_awake.calls (k : Nat)  (r : Bool) (w : World) (h : shelfmarklaw10_awake.f k  = some r) :
    Calls Try.prog 11 #[] w fun e w' => e = .returned (.bool r) ∧ Below w.heap.size w w' := by
  have hu37 := Try.underlying37
  have HB := Aside0.mk (Below.refl w.heap.size w)
  have H : ((nar_Pack.f (([(⟨(⟨#[]⟩ : ByteArray), 1, (⟨#[120]⟩ : ByteArray)⟩ : S37)] : List (S37)))).bind fun bt110 => ((nar_Str.f k (⟨#[40]⟩ : ByteArray)).bind fun t112 => (if (t112.size : Int) = 16 then ((shelfmarklaw1_Err.f bt110.2).bind fun t113 => (if t113 = 0 then (if (bt110.1.size : Int) > 100 then (if 0 ≤ 24 then (if 24 ≤ (bt110.1.size : Int) then ((nar_Str.f k (⟨#[110, 105, 120, 45, 97, 114, 99, 104, 105, 118, 101, 45, 49]⟩ : ByteArray)).bind fun t114 => (some ((bt110.1.extract 0 24).toList == t114.toList))) else (none)) else (none)) else (some false)) else (some false))) else (some false)))) = some r := h
  clear h
  obtain ⟨y107, hy107⟩ : ∃ y_ : List (S37), y_ = (([(⟨(⟨#[]⟩ : ByteArray), 1, (⟨#[120]⟩ : ByteArray)⟩ : S37)] : List (S37))) := ⟨_, rfl⟩
  replace H : ((nar_Pack.f y107).bind fun bt110 => ((nar_Str.f k (⟨#[40]⟩ : ByteArray)).bind fun t112 => (if (t112.size : Int) = 16 then ((shelfmarklaw1_Err.f bt110.2).bind fun t113 => (if t113 = 0 then (if (bt110.1.size : Int) > 100 then (if 0 ≤ 24 then (if 24 ≤ (bt110.1.size : Int) then ((nar_Str.f k (⟨#[110, 105, 120, 45, 97, 114, 99, 104, 105, 118, 101, 45, 49]⟩ : ByteArray)).bind fun t114 => (some ((bt110.1.extract 0 24).toList == t114.toList))) else (none)) else (none)) else (some false)) else (some false))) else (some false)))) = some r := by first | (rw [hy107]; with_reducible exact H) | (have H2_ := (Option.bind_some _ _).symm.trans H; rw [hy107]; with_reducible exact H2_) | (have H2_ := (Option.bind_some _ _).symm.trans H; with_reducible exact H2_) | with_reducible exact H | (rw [hy107]; exact H) | exact H
  have Ny107 := Aside0.mk hy107
  clear hy107
  replace H := Option.bind_eq_some_iff.mp H
  obtain ⟨⟨t110, t111⟩, A10, H⟩ := H
  replace H : ((nar_Str.f k (⟨#[40]⟩ : ByteArray)).bind fun t112 => (if (t112.size : Int) = 16 then ((shelfmarklaw1_Err.f t111).bind fun t113 => (if t113 = 0 then (if (t110.size : Int) > 100 then (if 0 ≤ 24 then (if 24 ≤ (t110.size : Int) then ((nar_Str.f k (⟨#[110, 105, 120, 45, 97, 114, 99, 104, 105, 118, 101, 45, 49]⟩ : ByteArray)).bind fun t114 => (some ((t110.extract 0 24).toList == t114.toList))) else (none)) else (none)) else (some false)) else (some false))) else (some false))) = some r := H
  have A1 := Aside0.mk A10
  clear A10
  replace H := Option.bind_eq_some_iff.mp H
  obtain ⟨t112, A20, H⟩ := H
  replace H : (if (t112.size : Int) = 16 then ((shelfmarklaw1_Err.f t111).bind fun t113 => (if t113 = 0 then (if (t110.size : Int) > 100 then (if 0 ≤ 24 then (if 24 ≤ (t110.size : Int) then ((nar_Str.f k (⟨#[110, 105, 120, 45, 97, 114, 99, 104, 105, 118, 101, 45, 49]⟩ : ByteArray)).bind fun t114 => (some ((t110.extract 0 24).toList == t114.toList))) else (none)) else (none)) else (some false)) else (some false))) else (some false)) = some r := H
  have A2 := Aside0.mk A20
  clear A20
  by_cases c3 : (t112.size : Int) = 16
  · rw [if_pos c3] at H
    have c3b0 : ((t112.size : Int) == 16) = true := beq_iff_eq.mpr c3
    have c3b1 : ((t112.size : Int) != 16) = false := bne_eq_false_iff_eq.mpr c3
    clear c3
    replace H := Option.bind_eq_some_iff.mp H
    obtain ⟨t113, A40, H⟩ := H
    replace H : (if t113 = 0 then (if (t110.size : Int) > 100 then (if 0 ≤ 24 then (if 24 ≤ (t110.size : Int) then ((nar_Str.f k (⟨#[110, 105, 120, 45, 97, 114, 99, 104, 105, 118, 101, 45, 49]⟩ : ByteArray)).bind fun t114 => (some ((t110.extract 0 24).toList == t114.toList))) else (none)) else (none)) else (some false)) else (some false)) = some r := H
    have A4 := Aside0.mk A40
    clear A40
    by_cases c5 : t113 = 0
    · rw [if_pos c5] at H
      have c5b0 : (t113 == 0) = true := beq_iff_eq.mpr c5
      have c5b1 : (t113 != 0) = false := bne_eq_false_iff_eq.mpr c5
      clear c5
      by_cases c6 : (t110.size : Int) > 100
      · rw [if_pos c6] at H
        have c6b0 : decide (100 < (t110.size : Int)) = true := decide_eq_true c6
        have c6b1 : decide (100 < t110.size) = true := decide_eq_true (by omega)
        clear c6
        by_cases c7 : 0 ≤ 24
        · rw [if_pos c7] at H
          have c7b0 := eq_true c7
          have c7b1 : decide (0 ≤ 24) = true := decide_eq_true c7
          clear c7
          by_cases c8 : 24 ≤ (t110.size : Int)
          · rw [if_pos c8] at H
            have c8b0 := eq_true c8
            have c8b1 : decide (24 ≤ (t110.size : Int)) = true := decide_eq_true c8
            clear c8
            replace H := Option.bind_eq_some_iff.mp H
            obtain ⟨t114, A90, H⟩ := H
            replace H : (some ((t110.extract 0 24).toList == t114.toList)) = some r := H
            have A9 := Aside0.mk A90
            clear A90
            obtain rfl := Option.some.inj H
            go_enter Try.func11, Try.ntmps11
            try go_wp2_with (first | ((with_reducible refine gate_dst (N := 5) rfl ?_); (try (refine gate_guard (by rfl) ?_; dsimp only)); refine Kd.R_lit k37 _ 37 ?hg (N := 5) ?hd (xs := ([(⟨(⟨#[]⟩ : ByteArray), 1, (⟨#[120]⟩ : ByteArray)⟩ : S37)] : List (S37))) (inner := [.string (⟨#[]⟩ : ByteArray), .int .i64 1, .string (⟨#[120]⟩ : ByteArray)]) (ok := fun _ => True) (okp := fun _ => True) ?hr ?hp (fun _ hk => hk) trivial (Below.refl _ _) (Nat.le_refl _) (by simp) ?_; (case hd => rfl); (case hg => rfl); (case hr => first | (go_simp; done) | (go_simp; rfl)); (case hp => exact (Reps.c3 (show Kd.M k37 _ _ _ (⟨(⟨#[]⟩ : ByteArray), 1, (⟨#[120]⟩ : ByteArray)⟩ : S37) [.string (⟨#[]⟩ : ByteArray), .int .i64 1, .string (⟨#[120]⟩ : ByteArray)] from (k37_mkM _ _ _ (⟨(⟨#[]⟩ : ByteArray), 1, (⟨#[120]⟩ : ByteArray)⟩ : S37) )) (Reps.none _ _))); intro v108 w10 ho11 hb hg_ hnew_; clear hg_ hnew_; (first | rw [← Ny107.out] at ho11 | (simp only [Int.reduceToNat] at ho11; rw [← Ny107.out] at ho11)); have n0_ := Aside0.mk (Kd.R_lower ho11 (below_size (by repeat (first | (with_reducible first | exact HB.out | apply below_alloc | apply pw_below_drewN | apply below_drew1) | exact HB.out)))); have n1_ := Aside0.mk (below_step (by repeat (first | (with_reducible first | exact HB.out | apply below_alloc | apply pw_below_drewN | apply below_drew1) | exact HB.out)) hb); clear HB; have HO109 := n0_; have HB := n1_; clear n0_ n1_; clear hb ho11; obtain ⟨Ao12, co12, eo12⟩ := Kd.R_slice HO109.out; subst eo12) | ((with_reducible refine gate_callee (f := 13) rfl ?_); refine goesL_ (some 6) rfl rfl Try.func13 (by kernel_rfl) rfl #[.slice Ao12 y107.length co12] rfl (by (try simp only [List.map_toArray, List.map_cons, List.map_nil]); first | done | rfl | (simp only [List.length_drop, List.length_take]; rfl)) ?_; (with_reducible refine (nar_Pack.calls _ _ y107 t110 t111 _ ?side1 ?side2 A1.out).mono ?_); (case side1 => repeat (first | exact (Kd.R_reads' HO109.out).2.2 | (with_reducible refine Kd.C_alloc ?_ _) | (with_reducible refine Kd.C_drewN ?_ _) | (with_reducible refine Kd.C_drew ?_))); (case side2 => exact (Kd.R_reads' HO109.out).2.1); rintro e w13 ⟨rfl, hb⟩; refine ⟨_, rfl, ?_⟩; have n0_ := Aside0.mk (Kd.R_below (by (with_reducible repeat (first | apply Kd.R_alloc | apply Kd.R_drewN | apply Kd.R_drew)); exact HO109.out) hb); have n1_ := Aside0.mk (below_step (by repeat (first | (with_reducible first | exact HB.out | apply below_alloc | apply pw_below_drewN | apply below_drew1) | exact HB.out)) hb); clear HO109; clear HB; have HO109 := n0_; have HB := n1_; clear n0_ n1_; (try clear hb); (try clear hb2); (try clear hk); (try clear hi)))
            have n0_ := Aside0.mk (Kd.R_drew HO109.out)
            have n1_ := Aside0.mk (below_drew1 HB.out)
            clear HO109
            clear HB
            have HO109 := n0_
            have HB := n1_
            clear n0_ n1_
            refine start_ (n := 20) (S := fun w' => True) (ds := []) #[false, false, false, false, false, false, false, false, false, false, false, false, false, false, false, false, false, false, false, false] (by kernel_rfl) rfl rfl trivial (fun hHeld => ?_); refine with_tabW shelfmarklaw10_awake.tab2 shelfmarklaw10_awake.bits2 (fun HT_ HW_ => ?_)
            generalize w13.drew = w14 at HO109 HB hHeld ⊢
            refine one_ (i := 0) (N := some 9) #[true, false, false, false, false, false, false, false, false, false, false, false, false, false, false, false, false, false, false, false] rfl rfl (one_of HT_.out (by kernel_rfl)) (by decide) (fun K hK => ?_)
            refine goes_ Try.func18 (by kernel_rfl) rfl #[.string (⟨#[40]⟩ : ByteArray)] (by rfl) rfl rfl (by (try simp only [List.map_toArray, List.map_cons, List.map_nil]); first | done | rfl | (simp only [List.length_drop, List.length_take]; rfl)) ?_
            with_reducible refine (nar_Str.calls k (⟨#[40]⟩ : ByteArray) t112 _ A2.out).mono ?_
            rintro e w15 ⟨rfl, hb⟩
            refine ⟨_, rfl, ?_⟩
            have n0_ := Aside0.mk (Kd.R_below (by (with_reducible repeat (first | apply Kd.R_alloc | apply Kd.R_drewN | apply Kd.R_drew)); exact HO109.out) hb)
            have n1_ := Aside0.mk (below_step (by repeat (first | (with_reducible first | exact HB.out | apply below_alloc | apply pw_below_drewN | apply below_drew1) | exact HB.out)) hb)
            clear HO109
            clear HB
            have HO109 := n0_
            have HB := n1_
            clear n0_ n1_
            (try clear hb)
            (try clear hb2)
            (try clear hk)
            (try clear hi)
            refine hK.out _ _ trivial (fun hHeld => ?_)
            clear hK K
            refine norm_ (a' := ?_) ?_ ?_
            rotate_left
            · show Act.put _ (some 9) _ = _
              simp only [Act.put, List.setIfInBounds_toArray, List.set_cons_zero, List.set_cons_succ, i64_w, i32_w]
              rfl
            refine pure_ (i := 1) (N := some 10) (v := ?_) (a' := ?_) #[true, true, false, false, false, false, false, false, false, false, false, false, false, false, false, false, false, false, false, false] rfl rfl (any_of HT_.out (by kernel_rfl)) (fun _ _ _ h => h) (Or.inl ⟨by rfl, ?_⟩) ?_ ?_
            rotate_left
            · intro w'
              go_simp
              with_reducible rfl
            rotate_left
            · simp only [Act.put, List.setIfInBounds_toArray, List.set_cons_zero, List.set_cons_succ, i64_w, i32_w]
              rfl
            refine pure_ (i := 2) (N := some 11) (v := ?_) (a' := ?_) #[true, true, true, false, false, false, false, false, false, false, false, false, false, false, false, false, false, false, false, false] rfl rfl (any_of HT_.out (by kernel_rfl)) (fun _ _ _ h => h) (Or.inl ⟨by rfl, ?_⟩) ?_ ?_
            rotate_left
            · intro w'
              go_simp
              with_reducible rfl
            rotate_left
            · simp only [Act.put, List.setIfInBounds_toArray, List.set_cons_zero, List.set_cons_succ, i64_w, i32_w]
              rfl
            refine pure_ (i := 3) (N := some 12) (v := ?_) (a' := ?_) #[true, true, true, true, false, false, false, false, false, false, false, false, false, false, false, false, false, false, false, false] rfl rfl (any_of HT_.out (by kernel_rfl)) (fun _ _ _ h => h) (Or.inl ⟨by rfl, ?_⟩) ?_ ?_
            rotate_left
            · intro w'
              go_simp
              with_reducible rfl
            rotate_left
            · simp only [Act.put, List.setIfInBounds_toArray, List.set_cons_zero, List.set_cons_succ, i64_w, i32_w]
              rfl
            refine pure_ (i := 4) (N := some 13) (v := ?_) (a' := ?_) #[true, true, true, true, true, false, false, false, false, false, false, false, false, false, false, false, false, false, false, false] rfl rfl (any_of HT_.out (by kernel_rfl)) (fun _ _ _ h => h) (Or.inl ⟨by rfl, ?_⟩) ?_ ?_
            rotate_left
            · intro w'
              go_simp
              with_reducible rfl
            rotate_left
            · simp only [Act.put, List.setIfInBounds_toArray, List.set_cons_zero, List.set_cons_succ, i64_w, i32_w]
              rfl
            refine one_ (i := 5) (N := some 14) #[true, true, true, true, true, true, false, false, false, false, false, false, false, false, false, false, false, false, false, false] rfl rfl (one_of HT_.out (by kernel_rfl)) (by decide) (fun K hK => ?_)
            refine goes_ Try.func15 (by kernel_rfl) rfl #[.int .i64 t111] (by rfl) rfl rfl (by (try simp only [List.map_toArray, List.map_cons, List.map_nil]); first | done | rfl | (simp only [List.length_drop, List.length_take]; rfl)) ?_
            with_reducible refine (shelfmarklaw1_Err.calls t111 t113 _ A4.out).mono ?_
            rintro e w' ⟨rfl, ⟨nd, rfl⟩⟩
            refine ⟨_, rfl, ?_⟩
            refine hK.out _ _ trivial (fun hHeld => ?_)
            clear hK K
            refine norm_ (a' := ?_) ?_ ?_
            rotate_left
            · show Act.put _ (some 14) _ = _
              simp only [Act.put, List.setIfInBounds_toArray, List.set_cons_zero, List.set_cons_succ, i64_w, i32_w]
              rfl
            refine pure_ (i := 6) (N := some 15) (v := ?_) (a' := ?_) #[true, true, true, true, true, true, true, false, false, false, false, false, false, false, false, false, false, false, false, false] rfl rfl (any_of HT_.out (by kernel_rfl)) (fun _ _ _ h => h) (Or.inl ⟨by rfl, ?_⟩) ?_ ?_
            rotate_left
            · intro w'
              go_simp
              with_reducible rfl
            rotate_left
            · simp only [Act.put, List.setIfInBounds_toArray, List.set_cons_zero, List.set_cons_succ, i64_w, i32_w]
              rfl
            refine pure_ (i := 7) (N := some 16) (v := ?_) (a' := ?_) #[true, true, true, true, true, true, true, true, false, false, false, false, false, false, false, false, false, false, false, false] rfl rfl (any_of HT_.out (by kernel_rfl)) (fun _ _ _ h => h) (Or.inl ⟨by rfl, ?_⟩) ?_ ?_
            rotate_left
            · intro w'
              go_simp
              with_reducible rfl
            rotate_left
            · simp only [Act.put, List.setIfInBounds_toArray, List.set_cons_zero, List.set_cons_succ, i64_w, i32_w]
              rfl
            refine pure_ (i := 8) (N := some 17) (v := ?_) (a' := ?_) #[true, true, true, true, true, true, true, true, true, false, false, false, false, false, false, false, false, false, false, false] rfl rfl (any_of HT_.out (by kernel_rfl)) (fun _ _ _ h => h) (Or.inl ⟨by rfl, ?_⟩) ?_ ?_
            rotate_left
            · intro w'
              go_simp
              with_reducible rfl
            rotate_left
            · simp only [Act.put, List.setIfInBounds_toArray, List.set_cons_zero, List.set_cons_succ, i64_w, i32_w]
              rfl
            refine pure_ (i := 9) (N := some 18) (v := ?_) (a' := ?_) #[true, true, true, true, true, true, true, true, true, true, false, false, false, false, false, false, false, false, false, false] rfl rfl (any_of HT_.out (by kernel_rfl)) (fun _ _ _ h => h) (Or.inl ⟨by rfl, ?_⟩) ?_ ?_
            rotate_left
            · intro w'
              go_simp
              with_reducible rfl
            rotate_left
            · simp only [Act.put, List.setIfInBounds_toArray, List.set_cons_zero, List.set_cons_succ, i64_w, i32_w]
              rfl
            refine pure_ (i := 10) (N := some 19) (v := ?_) (a' := ?_) #[true, true, true, true, true, true, true, true, true, true, true, false, false, false, false, false, false, false, false, false] rfl rfl (any_of HT_.out (by kernel_rfl)) (fun _ _ _ h => h) (Or.inl ⟨by rfl, ?_⟩) ?_ ?_
            rotate_left
            · intro w'
              go_simp
              with_reducible rfl
            rotate_left
            · simp only [Act.put, List.setIfInBounds_toArray, List.set_cons_zero, List.set_cons_succ, i64_w, i32_w]
              rfl
            refine pure_ (i := 11) (N := some 20) (v := ?_) (a' := ?_) #[true, true, true, true, true, true, true, true, true, true, true, true, false, false, false, false, false, false, false, false] rfl rfl (any_of HT_.out (by kernel_rfl)) (fun _ _ _ h => h) (Or.inl ⟨by rfl, ?_⟩) ?_ ?_
            rotate_left
            · intro w'
              go_simp
              with_reducible rfl
            rotate_left
            · simp only [Act.put, List.setIfInBounds_toArray, List.set_cons_zero, List.set_cons_succ, i64_w, i32_w]
              rfl
            refine pure_ (i := 12) (N := some 21) (v := ?_) (a' := ?_) #[true, true, true, true, true, true, true, true, true, true, true, true, true, false, false, false, false, false, false, false] rfl rfl (any_of HT_.out (by kernel_rfl)) (fun _ _ _ h => h) (Or.inl ⟨by rfl, ?_⟩) ?_ ?_
            rotate_left
            · intro w'
              go_simp
              with_reducible rfl
            rotate_left
            · simp only [Act.put, List.setIfInBounds_toArray, List.set_cons_zero, List.set_cons_succ, i64_w, i32_w]
              rfl
            refine pure_ (i := 13) (N := some 22) (v := ?_) (a' := ?_) #[true, true, true, true, true, true, true, true, true, true, true, true, true, true, false, false, false, false, false, false] rfl rfl (any_of HT_.out (by kernel_rfl)) (fun _ _ _ h => h) (Or.inl ⟨by rfl, ?_⟩) ?_ ?_
            rotate_left
            · intro w'
              go_simp
              with_reducible rfl
            rotate_left
            · simp only [Act.put, List.setIfInBounds_toArray, List.set_cons_zero, List.set_cons_succ, i64_w, i32_w]
              rfl
            refine pure_ (i := 14) (N := some 23) (v := ?_) (a' := ?_) #[true, true, true, true, true, true, true, true, true, true, true, true, true, true, true, false, false, false, false, false] rfl rfl (any_of HT_.out (by kernel_rfl)) (fun _ _ _ h => h) (Or.inl ⟨by rfl, ?_⟩) ?_ ?_
            rotate_left
            · intro w'
              go_simp
              with_reducible rfl
            rotate_left
            · simp only [Act.put, List.setIfInBounds_toArray, List.set_cons_zero, List.set_cons_succ, i64_w, i32_w]
              rfl
            refine pure_ (i := 15) (N := some 24) (v := ?_) (a' := ?_) #[true, true, true, true, true, true, true, true, true, true, true, true, true, true, true, true, false, false, false, false] rfl rfl (any_of HT_.out (by kernel_rfl)) (fun _ _ _ h => h) (Or.inl ⟨by rfl, ?_⟩) ?_ ?_
            rotate_left
            · intro w'
              go_simp
              with_reducible rfl
            rotate_left
            · simp only [Act.put, List.setIfInBounds_toArray, List.set_cons_zero, List.set_cons_succ, i64_w, i32_w]
              rfl
            refine one_ (i := 16) (N := some 25) #[true, true, true, true, true, true, true, true, true, true, true, true, true, true, true, true, true, false, false, false] rfl rfl (one_of HT_.out (by kernel_rfl)) (by decide) (fun K hK => ?_)
            refine goes_ Try.func18 (by kernel_rfl) rfl #[.string (⟨#[110, 105, 120, 45, 97, 114, 99, 104, 105, 118, 101, 45, 49]⟩ : ByteArray)] (by rfl) rfl rfl (by (try simp only [List.map_toArray, List.map_cons, List.map_nil]); first | done | rfl | (simp only [List.length_drop, List.length_take]; rfl)) ?_
            with_reducible refine (nar_Str.calls k (⟨#[110, 105, 120, 45, 97, 114, 99, 104, 105, 118, 101, 45, 49]⟩ : ByteArray) t114 _ A9.out).mono ?_
            rintro e w16 ⟨rfl, hb⟩
            refine ⟨_, rfl, ?_⟩
            have n0_ := Aside0.mk (Kd.R_below (by (with_reducible repeat (first | apply Kd.R_alloc | apply Kd.R_drewN | apply Kd.R_drew)); exact HO109.out) hb)
            have n1_ := Aside0.mk (below_step (by repeat (first | (with_reducible first | exact HB.out | apply below_alloc | apply pw_below_drewN | apply below_drew1) | exact HB.out)) hb)
            clear HO109
            clear HB
            have HO109 := n0_
            have HB := n1_
            clear n0_ n1_
            (try clear hb)
            (try clear hb2)
            (try clear hk)
            (try clear hi)
            refine hK.out _ _ trivial (fun hHeld => ?_)
            clear hK K
            refine norm_ (a' := ?_) ?_ ?_
            rotate_left
            · show Act.put _ (some 25) _ = _
              simp only [Act.put, List.setIfInBounds_toArray, List.set_cons_zero, List.set_cons_succ, i64_w, i32_w]
              rfl
            refine pure_ (i := 17) (N := some 26) (v := ?_) (a' := ?_) #[true, true, true, true, true, true, true, true, true, true, true, true, true, true, true, true, true, true, false, false] rfl rfl (any_of HT_.out (by kernel_rfl)) (fun _ _ _ h => h) (Or.inl ⟨by rfl, ?_⟩) ?_ ?_
            rotate_left
            · intro w'
              go_simp
              with_reducible rfl
            rotate_left
            · simp only [Act.put, List.setIfInBounds_toArray, List.set_cons_zero, List.set_cons_succ, i64_w, i32_w]
              rfl
            refine pure_ (i := 18) (N := some 27) (v := ?_) (a' := ?_) #[true, true, true, true, true, true, true, true, true, true, true, true, true, true, true, true, true, true, true, false] rfl rfl (any_of HT_.out (by kernel_rfl)) (fun _ _ _ h => h) (Or.inl ⟨by rfl, ?_⟩) ?_ ?_
            rotate_left
            · intro w'
              go_simp
              with_reducible rfl
            rotate_left
            · simp only [Act.put, List.setIfInBounds_toArray, List.set_cons_zero, List.set_cons_succ, i64_w, i32_w]
              rfl
            refine pure_ (i := 19) (N := some 0) (v := ?_) (a' := ?_) #[true, true, true, true, true, true, true, true, true, true, true, true, true, true, true, true, true, true, true, true] rfl rfl (any_of HT_.out (by kernel_rfl)) (fun _ _ _ h => h) (Or.inl ⟨by rfl, ?_⟩) ?_ ?_
            rotate_left
            · intro w'
              go_simp
              with_reducible rfl
            rotate_left
            · simp only [Act.put, List.setIfInBounds_toArray, List.set_cons_zero, List.set_cons_succ, i64_w, i32_w]
              rfl
            refine done_ (done_of HT_.out (by kernel_rfl)) ?_
            try go_wp2
            go_ret
            exact ⟨by first | rfl | (simp [errW_none, errW_some] <;> rfl) | (simp [*, errW_none, errW_some] <;> rfl), by repeat (first | (with_reducible first | exact HB.out | apply below_alloc | apply pw_below_drewN | apply below_drew1) | exact HB.out)⟩
          · rw [if_neg c8] at H
            exact absurd H (by simp)
        · rw [if_neg c7] at H
          exact absurd H (by simp)
      · rw [if_neg c6] at H
        have c6b0 : decide (100 < (t110.size : Int)) = false := decide_eq_false c6
        have c6b1 : decide (100 < t110.size) = false := decide_eq_false (by omega)
        clear c6
        obtain rfl := Option.some.inj H
        go_enter Try.func11, Try.ntmps11
        try go_wp2_with (first | ((with_reducible refine gate_dst (N := 5) rfl ?_); (try (refine gate_guard (by rfl) ?_; dsimp only)); refine Kd.R_lit k37 _ 37 ?hg (N := 5) ?hd (xs := ([(⟨(⟨#[]⟩ : ByteArray), 1, (⟨#[120]⟩ : ByteArray)⟩ : S37)] : List (S37))) (inner := [.string (⟨#[]⟩ : ByteArray), .int .i64 1, .string (⟨#[120]⟩ : ByteArray)]) (ok := fun _ => True) (okp := fun _ => True) ?hr ?hp (fun _ hk => hk) trivial (Below.refl _ _) (Nat.le_refl _) (by simp) ?_; (case hd => rfl); (case hg => rfl); (case hr => first | (go_simp; done) | (go_simp; rfl)); (case hp => exact (Reps.c3 (show Kd.M k37 _ _ _ (⟨(⟨#[]⟩ : ByteArray), 1, (⟨#[120]⟩ : ByteArray)⟩ : S37) [.string (⟨#[]⟩ : ByteArray), .int .i64 1, .string (⟨#[120]⟩ : ByteArray)] from (k37_mkM _ _ _ (⟨(⟨#[]⟩ : ByteArray), 1, (⟨#[120]⟩ : ByteArray)⟩ : S37) )) (Reps.none _ _))); intro v108 w17 ho18 hb hg_ hnew_; clear hg_ hnew_; (first | rw [← Ny107.out] at ho18 | (simp only [Int.reduceToNat] at ho18; rw [← Ny107.out] at ho18)); have n0_ := Aside0.mk (Kd.R_lower ho18 (below_size (by repeat (first | (with_reducible first | exact HB.out | apply below_alloc | apply pw_below_drewN | apply below_drew1) | exact HB.out)))); have n1_ := Aside0.mk (below_step (by repeat (first | (with_reducible first | exact HB.out | apply below_alloc | apply pw_below_drewN | apply below_drew1) | exact HB.out)) hb); clear HB; have HO109 := n0_; have HB := n1_; clear n0_ n1_; clear hb ho18; obtain ⟨Ao19, co19, eo19⟩ := Kd.R_slice HO109.out; subst eo19) | ((with_reducible refine gate_callee (f := 13) rfl ?_); refine goesL_ (some 6) rfl rfl Try.func13 (by kernel_rfl) rfl #[.slice Ao19 y107.length co19] rfl (by (try simp only [List.map_toArray, List.map_cons, List.map_nil]); first | done | rfl | (simp only [List.length_drop, List.length_take]; rfl)) ?_; (with_reducible refine (nar_Pack.calls _ _ y107 t110 t111 _ ?side1 ?side2 A1.out).mono ?_); (case side1 => repeat (first | exact (Kd.R_reads' HO109.out).2.2 | (with_reducible refine Kd.C_alloc ?_ _) | (with_reducible refine Kd.C_drewN ?_ _) | (with_reducible refine Kd.C_drew ?_))); (case side2 => exact (Kd.R_reads' HO109.out).2.1); rintro e w20 ⟨rfl, hb⟩; refine ⟨_, rfl, ?_⟩; have n0_ := Aside0.mk (Kd.R_below (by (with_reducible repeat (first | apply Kd.R_alloc | apply Kd.R_drewN | apply Kd.R_drew)); exact HO109.out) hb); have n1_ := Aside0.mk (below_step (by repeat (first | (with_reducible first | exact HB.out | apply below_alloc | apply pw_below_drewN | apply below_drew1) | exact HB.out)) hb); clear HO109; clear HB; have HO109 := n0_; have HB := n1_; clear n0_ n1_; (try clear hb); (try clear hb2); (try clear hk); (try clear hi)))
        have n0_ := Aside0.mk (Kd.R_drew HO109.out)
        have n1_ := Aside0.mk (below_drew1 HB.out)
        clear HO109
        clear HB
        have HO109 := n0_
        have HB := n1_
        clear n0_ n1_
        refine start_ (n := 20) (S := fun w' => True) (ds := []) #[false, false, false, false, false, false, false, false, false, false, false, false, false, false, false, false, false, false, false, false] (by kernel_rfl) rfl rfl trivial (fun hHeld => ?_); refine with_tabW shelfmarklaw10_awake.tab2 shelfmarklaw10_awake.bits2 (fun HT_ HW_ => ?_)
        generalize w20.drew = w21 at HO109 HB hHeld ⊢
        refine one_ (i := 0) (N := some 9) #[true, false, false, false, false, false, false, false, false, false, false, false, false, false, false, false, false, false, false, false] rfl rfl (one_of HT_.out (by kernel_rfl)) (by decide) (fun K hK => ?_)
        refine goes_ Try.func18 (by kernel_rfl) rfl #[.string (⟨#[40]⟩ : ByteArray)] (by rfl) rfl rfl (by (try simp only [List.map_toArray, List.map_cons, List.map_nil]); first | done | rfl | (simp only [List.length_drop, List.length_take]; rfl)) ?_
        with_reducible refine (nar_Str.calls k (⟨#[40]⟩ : ByteArray) t112 _ A2.out).mono ?_
        rintro e w22 ⟨rfl, hb⟩
        refine ⟨_, rfl, ?_⟩
        have n0_ := Aside0.mk (Kd.R_below (by (with_reducible repeat (first | apply Kd.R_alloc | apply Kd.R_drewN | apply Kd.R_drew)); exact HO109.out) hb)
        have n1_ := Aside0.mk (below_step (by repeat (first | (with_reducible first | exact HB.out | apply below_alloc | apply pw_below_drewN | apply below_drew1) | exact HB.out)) hb)
        clear HO109
        clear HB
        have HO109 := n0_
        have HB := n1_
        clear n0_ n1_
        (try clear hb)
        (try clear hb2)
        (try clear hk)
        (try clear hi)
        refine hK.out _ _ trivial (fun hHeld => ?_)
        clear hK K
        refine norm_ (a' := ?_) ?_ ?_
        rotate_left
        · show Act.put _ (some 9) _ = _
          simp only [Act.put, List.setIfInBounds_toArray, List.set_cons_zero, List.set_cons_succ, i64_w, i32_w]
          rfl
        refine pure_ (i := 1) (N := some 10) (v := ?_) (a' := ?_) #[true, true, false, false, false, false, false, false, false, false, false, false, false, false, false, false, false, false, false, false] rfl rfl (any_of HT_.out (by kernel_rfl)) (fun _ _ _ h => h) (Or.inl ⟨by rfl, ?_⟩) ?_ ?_
        rotate_left
        · intro w'
          go_simp
          with_reducible rfl
        rotate_left
        · simp only [Act.put, List.setIfInBounds_toArray, List.set_cons_zero, List.set_cons_succ, i64_w, i32_w]
          rfl
        refine pure_ (i := 2) (N := some 11) (v := ?_) (a' := ?_) #[true, true, true, false, false, false, false, false, false, false, false, false, false, false, false, false, false, false, false, false] rfl rfl (any_of HT_.out (by kernel_rfl)) (fun _ _ _ h => h) (Or.inl ⟨by rfl, ?_⟩) ?_ ?_
        rotate_left
        · intro w'
          go_simp
          with_reducible rfl
        rotate_left
        · simp only [Act.put, List.setIfInBounds_toArray, List.set_cons_zero, List.set_cons_succ, i64_w, i32_w]
          rfl
        refine pure_ (i := 3) (N := some 12) (v := ?_) (a' := ?_) #[true, true, true, true, false, false, false, false, false, false, false, false, false, false, false, false, false, false, false, false] rfl rfl (any_of HT_.out (by kernel_rfl)) (fun _ _ _ h => h) (Or.inl ⟨by rfl, ?_⟩) ?_ ?_
        rotate_left
        · intro w'
          go_simp
          with_reducible rfl
        rotate_left
        · simp only [Act.put, List.setIfInBounds_toArray, List.set_cons_zero, List.set_cons_succ, i64_w, i32_w]
          rfl
        refine pure_ (i := 4) (N := some 13) (v := ?_) (a' := ?_) #[true, true, true, true, true, false, false, false, false, false, false, false, false, false, false, false, false, false, false, false] rfl rfl (any_of HT_.out (by kernel_rfl)) (fun _ _ _ h => h) (Or.inl ⟨by rfl, ?_⟩) ?_ ?_
        rotate_left
        · intro w'
          go_simp
          with_reducible rfl
        rotate_left
        · simp only [Act.put, List.setIfInBounds_toArray, List.set_cons_zero, List.set_cons_succ, i64_w, i32_w]
          rfl
        refine one_ (i := 5) (N := some 14) #[true, true, true, true, true, true, false, false, false, false, false, false, false, false, false, false, false, false, false, false] rfl rfl (one_of HT_.out (by kernel_rfl)) (by decide) (fun K hK => ?_)
        refine goes_ Try.func15 (by kernel_rfl) rfl #[.int .i64 t111] (by rfl) rfl rfl (by (try simp only [List.map_toArray, List.map_cons, List.map_nil]); first | done | rfl | (simp only [List.length_drop, List.length_take]; rfl)) ?_
        with_reducible refine (shelfmarklaw1_Err.calls t111 t113 _ A4.out).mono ?_
        rintro e w' ⟨rfl, ⟨nd, rfl⟩⟩
        refine ⟨_, rfl, ?_⟩
        refine hK.out _ _ trivial (fun hHeld => ?_)
        clear hK K
        refine norm_ (a' := ?_) ?_ ?_
        rotate_left
        · show Act.put _ (some 14) _ = _
          simp only [Act.put, List.setIfInBounds_toArray, List.set_cons_zero, List.set_cons_succ, i64_w, i32_w]
          rfl
        refine pure_ (i := 6) (N := some 15) (v := ?_) (a' := ?_) #[true, true, true, true, true, true, true, false, false, false, false, false, false, false, false, false, false, false, false, false] rfl rfl (any_of HT_.out (by kernel_rfl)) (fun _ _ _ h => h) (Or.inl ⟨by rfl, ?_⟩) ?_ ?_
        rotate_left
        · intro w'
          go_simp
          with_reducible rfl
        rotate_left
        · simp only [Act.put, List.setIfInBounds_toArray, List.set_cons_zero, List.set_cons_succ, i64_w, i32_w]
          rfl
        refine pure_ (i := 7) (N := some 16) (v := ?_) (a' := ?_) #[true, true, true, true, true, true, true, true, false, false, false, false, false, false, false, false, false, false, false, false] rfl rfl (any_of HT_.out (by kernel_rfl)) (fun _ _ _ h => h) (Or.inl ⟨by rfl, ?_⟩) ?_ ?_
        rotate_left
        · intro w'
          go_simp
          with_reducible rfl
        rotate_left
        · simp only [Act.put, List.setIfInBounds_toArray, List.set_cons_zero, List.set_cons_succ, i64_w, i32_w]
          rfl
        refine pure_ (i := 8) (N := some 17) (v := ?_) (a' := ?_) #[true, true, true, true, true, true, true, true, true, false, false, false, false, false, false, false, false, false, false, false] rfl rfl (any_of HT_.out (by kernel_rfl)) (fun _ _ _ h => h) (Or.inl ⟨by rfl, ?_⟩) ?_ ?_
        rotate_left
        · intro w'
          go_simp
          with_reducible rfl
        rotate_left
        · simp only [Act.put, List.setIfInBounds_toArray, List.set_cons_zero, List.set_cons_succ, i64_w, i32_w]
          rfl
        refine pure_ (i := 9) (N := some 18) (v := ?_) (a' := ?_) #[true, true, true, true, true, true, true, true, true, true, false, false, false, false, false, false, false, false, false, false] rfl rfl (any_of HT_.out (by kernel_rfl)) (fun _ _ _ h => h) (Or.inl ⟨by rfl, ?_⟩) ?_ ?_
        rotate_left
        · intro w'
          go_simp
          with_reducible rfl
        rotate_left
        · simp only [Act.put, List.setIfInBounds_toArray, List.set_cons_zero, List.set_cons_succ, i64_w, i32_w]
          rfl
        refine pure_ (i := 10) (N := some 19) (v := ?_) (a' := ?_) #[true, true, true, true, true, true, true, true, true, true, true, false, false, false, false, false, false, false, false, false] rfl rfl (any_of HT_.out (by kernel_rfl)) (fun _ _ _ h => h) (Or.inl ⟨by rfl, ?_⟩) ?_ ?_
        rotate_left
        · intro w'
          go_simp
          with_reducible rfl
        rotate_left
        · simp only [Act.put, List.setIfInBounds_toArray, List.set_cons_zero, List.set_cons_succ, i64_w, i32_w]
          rfl
        refine pure_ (i := 11) (N := some 20) (v := ?_) (a' := ?_) #[true, true, true, true, true, true, true, true, true, true, true, true, false, false, false, false, false, false, false, false] rfl rfl (any_of HT_.out (by kernel_rfl)) (fun _ _ _ h => h) (Or.inl ⟨by rfl, ?_⟩) ?_ ?_
        rotate_left
        · intro w'
          go_simp
          with_reducible rfl
        rotate_left
        · simp only [Act.put, List.setIfInBounds_toArray, List.set_cons_zero, List.set_cons_succ, i64_w, i32_w]
          rfl
        refine pure_ (i := 12) (N := some 21) (v := ?_) (a' := ?_) #[true, true, true, true, true, true, true, true, true, true, true, true, true, false, false, false, false, false, false, false] rfl rfl (any_of HT_.out (by kernel_rfl)) (fun _ _ _ h => h) (Or.inl ⟨by rfl, ?_⟩) ?_ ?_
        rotate_left
        · intro w'
          go_simp
          with_reducible rfl
        rotate_left
        · simp only [Act.put, List.setIfInBounds_toArray, List.set_cons_zero, List.set_cons_succ, i64_w, i32_w]
          rfl
        refine pure_ (i := 13) (N := some 22) (v := ?_) (a' := ?_) #[true, true, true, true, true, true, true, true, true, true, true, true, true, true, false, false, false, false, false, false] rfl rfl (any_of HT_.out (by kernel_rfl)) (fun _ _ _ h => h) (Or.inl ⟨by rfl, ?_⟩) ?_ ?_
        rotate_left
        · intro w'
          go_simp
          with_reducible rfl
        rotate_left
        · simp only [Act.put, List.setIfInBounds_toArray, List.set_cons_zero, List.set_cons_succ, i64_w, i32_w]
          rfl
        refine pure_ (i := 14) (N := some 23) (v := undef) (a' := ?_) #[true, true, true, true, true, true, true, true, true, true, true, true, true, true, true, false, false, false, false, false] rfl rfl (any_of HT_.out (by kernel_rfl)) (fun _ _ _ h => h) (Or.inr ⟨by rfl, rfl⟩) ?_ ?_
        rotate_left
        · simp only [Act.put, List.setIfInBounds_toArray, List.set_cons_zero, List.set_cons_succ, i64_w, i32_w]
          rfl
        refine pure_ (i := 15) (N := some 24) (v := undef) (a' := ?_) #[true, true, true, true, true, true, true, true, true, true, true, true, true, true, true, true, false, false, false, false] rfl rfl (any_of HT_.out (by kernel_rfl)) (fun _ _ _ h => h) (Or.inr ⟨by rfl, rfl⟩) ?_ ?_
        rotate_left
        · simp only [Act.put, List.setIfInBounds_toArray, List.set_cons_zero, List.set_cons_succ, i64_w, i32_w]
          rfl
        refine pure_ (i := 16) (N := some 25) (v := undef) (a' := ?_) #[true, true, true, true, true, true, true, true, true, true, true, true, true, true, true, true, true, false, false, false] rfl rfl (any_of HT_.out (by kernel_rfl)) (fun _ _ _ h => h) (Or.inr ⟨by rfl, rfl⟩) ?_ ?_
        rotate_left
        · simp only [Act.put, List.setIfInBounds_toArray, List.set_cons_zero, List.set_cons_succ, i64_w, i32_w]
          rfl
        refine pure_ (i := 17) (N := some 26) (v := undef) (a' := ?_) #[true, true, true, true, true, true, true, true, true, true, true, true, true, true, true, true, true, true, false, false] rfl rfl (any_of HT_.out (by kernel_rfl)) (fun _ _ _ h => h) (Or.inr ⟨by rfl, rfl⟩) ?_ ?_
        rotate_left
        · simp only [Act.put, List.setIfInBounds_toArray, List.set_cons_zero, List.set_cons_succ, i64_w, i32_w]
          rfl
        refine pure_ (i := 18) (N := some 27) (v := ?_) (a' := ?_) #[true, true, true, true, true, true, true, true, true, true, true, true, true, true, true, true, true, true, true, false] rfl rfl (any_of HT_.out (by kernel_rfl)) (fun _ _ _ h => h) (Or.inl ⟨by rfl, ?_⟩) ?_ ?_
        rotate_left
        · intro w'
          go_simp
          with_reducible rfl
        rotate_left
        · simp only [Act.put, List.setIfInBounds_toArray, List.set_cons_zero, List.set_cons_succ, i64_w, i32_w]
          rfl
        refine pure_ (i := 19) (N := some 0) (v := ?_) (a' := ?_) #[true, true, true, true, true, true, true, true, true, true, true, true, true, true, true, true, true, true, true, true] rfl rfl (any_of HT_.out (by kernel_rfl)) (fun _ _ _ h => h) (Or.inl ⟨by rfl, ?_⟩) ?_ ?_
        rotate_left
        · intro w'
          go_simp
          with_reducible rfl
        rotate_left
        · simp only [Act.put, List.setIfInBounds_toArray, List.set_cons_zero, List.set_cons_succ, i64_w, i32_w]
          rfl
        refine done_ (done_of HT_.out (by kernel_rfl)) ?_
        try go_wp2
        go_ret
        exact ⟨by first | rfl | (simp [errW_none, errW_some] <;> rfl) | (simp [*, errW_none, errW_some] <;> rfl), by repeat (first | (with_reducible first | exact HB.out | apply below_alloc | apply pw_below_drewN | apply below_drew1) | exact HB.out)⟩
    · rw [if_neg c5] at H
      have c5b0 : (t113 == 0) = false := beq_eq_false_iff_ne.mpr c5
      have c5b1 : (t113 != 0) = true := bne_iff_ne.mpr c5
      obtain rfl := Option.some.inj H
      go_enter Try.func11, Try.ntmps11
      try go_wp2_with (first | ((with_reducible refine gate_dst (N := 5) rfl ?_); (try (refine gate_guard (by rfl) ?_; dsimp only)); refine Kd.R_lit k37 _ 37 ?hg (N := 5) ?hd (xs := ([(⟨(⟨#[]⟩ : ByteArray), 1, (⟨#[120]⟩ : ByteArray)⟩ : S37)] : List (S37))) (inner := [.string (⟨#[]⟩ : ByteArray), .int .i64 1, .string (⟨#[120]⟩ : ByteArray)]) (ok := fun _ => True) (okp := fun _ => True) ?hr ?hp (fun _ hk => hk) trivial (Below.refl _ _) (Nat.le_refl _) (by simp) ?_; (case hd => rfl); (case hg => rfl); (case hr => first | (go_simp; done) | (go_simp; rfl)); (case hp => exact (Reps.c3 (show Kd.M k37 _ _ _ (⟨(⟨#[]⟩ : ByteArray), 1, (⟨#[120]⟩ : ByteArray)⟩ : S37) [.string (⟨#[]⟩ : ByteArray), .int .i64 1, .string (⟨#[120]⟩ : ByteArray)] from (k37_mkM _ _ _ (⟨(⟨#[]⟩ : ByteArray), 1, (⟨#[120]⟩ : ByteArray)⟩ : S37) )) (Reps.none _ _))); intro v108 w23 ho24 hb hg_ hnew_; clear hg_ hnew_; (first | rw [← Ny107.out] at ho24 | (simp only [Int.reduceToNat] at ho24; rw [← Ny107.out] at ho24)); have n0_ := Aside0.mk (Kd.R_lower ho24 (below_size (by repeat (first | (with_reducible first | exact HB.out | apply below_alloc | apply pw_below_drewN | apply below_drew1) | exact HB.out)))); have n1_ := Aside0.mk (below_step (by repeat (first | (with_reducible first | exact HB.out | apply below_alloc | apply pw_below_drewN | apply below_drew1) | exact HB.out)) hb); clear HB; have HO109 := n0_; have HB := n1_; clear n0_ n1_; clear hb ho24; obtain ⟨Ao25, co25, eo25⟩ := Kd.R_slice HO109.out; subst eo25) | ((with_reducible refine gate_callee (f := 13) rfl ?_); refine goesL_ (some 6) rfl rfl Try.func13 (by kernel_rfl) rfl #[.slice Ao25 y107.length co25] rfl (by (try simp only [List.map_toArray, List.map_cons, List.map_nil]); first | done | rfl | (simp only [List.length_drop, List.length_take]; rfl)) ?_; (with_reducible refine (nar_Pack.calls _ _ y107 t110 t111 _ ?side1 ?side2 A1.out).mono ?_); (case side1 => repeat (first | exact (Kd.R_reads' HO109.out).2.2 | (with_reducible refine Kd.C_alloc ?_ _) | (with_reducible refine Kd.C_drewN ?_ _) | (with_reducible refine Kd.C_drew ?_))); (case side2 => exact (Kd.R_reads' HO109.out).2.1); rintro e w26 ⟨rfl, hb⟩; refine ⟨_, rfl, ?_⟩; have n0_ := Aside0.mk (Kd.R_below (by (with_reducible repeat (first | apply Kd.R_alloc | apply Kd.R_drewN | apply Kd.R_drew)); exact HO109.out) hb); have n1_ := Aside0.mk (below_step (by repeat (first | (with_reducible first | exact HB.out | apply below_alloc | apply pw_below_drewN | apply below_drew1) | exact HB.out)) hb); clear HO109; clear HB; have HO109 := n0_; have HB := n1_; clear n0_ n1_; (try clear hb); (try clear hb2); (try clear hk); (try clear hi)))
      have n0_ := Aside0.mk (Kd.R_drew HO109.out)
      have n1_ := Aside0.mk (below_drew1 HB.out)
      clear HO109
      clear HB
      have HO109 := n0_
      have HB := n1_
      clear n0_ n1_
      refine start_ (n := 20) (S := fun w' => True) (ds := []) #[false, false, false, false, false, false, false, false, false, false, false, false, false, false, false, false, false, false, false, false] (by kernel_rfl) rfl rfl trivial (fun hHeld => ?_); refine with_tabW shelfmarklaw10_awake.tab2 shelfmarklaw10_awake.bits2 (fun HT_ HW_ => ?_)
      generalize w26.drew = w27 at HO109 HB hHeld ⊢
      refine one_ (i := 0) (N := some 9) #[true, false, false, false, false, false, false, false, false, false, false, false, false, false, false, false, false, false, false, false] rfl rfl (one_of HT_.out (by kernel_rfl)) (by decide) (fun K hK => ?_)
      refine goes_ Try.func18 (by kernel_rfl) rfl #[.string (⟨#[40]⟩ : ByteArray)] (by rfl) rfl rfl (by (try simp only [List.map_toArray, List.map_cons, List.map_nil]); first | done | rfl | (simp only [List.length_drop, List.length_take]; rfl)) ?_
      with_reducible refine (nar_Str.calls k (⟨#[40]⟩ : ByteArray) t112 _ A2.out).mono ?_
      rintro e w28 ⟨rfl, hb⟩
      refine ⟨_, rfl, ?_⟩
      have n0_ := Aside0.mk (Kd.R_below (by (with_reducible repeat (first | apply Kd.R_alloc | apply Kd.R_drewN | apply Kd.R_drew)); exact HO109.out) hb)
      have n1_ := Aside0.mk (below_step (by repeat (first | (with_reducible first | exact HB.out | apply below_alloc | apply pw_below_drewN | apply below_drew1) | exact HB.out)) hb)
      clear HO109
      clear HB
      have HO109 := n0_
      have HB := n1_
      clear n0_ n1_
      (try clear hb)
      (try clear hb2)
      (try clear hk)
      (try clear hi)
      refine hK.out _ _ trivial (fun hHeld => ?_)
      clear hK K
      refine norm_ (a' := ?_) ?_ ?_
      rotate_left
      · show Act.put _ (some 9) _ = _
        simp only [Act.put, List.setIfInBounds_toArray, List.set_cons_zero, List.set_cons_succ, i64_w, i32_w]
        rfl
      refine pure_ (i := 1) (N := some 10) (v := ?_) (a' := ?_) #[true, true, false, false, false, false, false, false, false, false, false, false, false, false, false, false, false, false, false, false] rfl rfl (any_of HT_.out (by kernel_rfl)) (fun _ _ _ h => h) (Or.inl ⟨by rfl, ?_⟩) ?_ ?_
      rotate_left
      · intro w'
        go_simp
        with_reducible rfl
      rotate_left
      · simp only [Act.put, List.setIfInBounds_toArray, List.set_cons_zero, List.set_cons_succ, i64_w, i32_w]
        rfl
      refine pure_ (i := 2) (N := some 11) (v := ?_) (a' := ?_) #[true, true, true, false, false, false, false, false, false, false, false, false, false, false, false, false, false, false, false, false] rfl rfl (any_of HT_.out (by kernel_rfl)) (fun _ _ _ h => h) (Or.inl ⟨by rfl, ?_⟩) ?_ ?_
      rotate_left
      · intro w'
        go_simp
        with_reducible rfl
      rotate_left
      · simp only [Act.put, List.setIfInBounds_toArray, List.set_cons_zero, List.set_cons_succ, i64_w, i32_w]
        rfl
      refine pure_ (i := 3) (N := some 12) (v := ?_) (a' := ?_) #[true, true, true, true, false, false, false, false, false, false, false, false, false, false, false, false, false, false, false, false] rfl rfl (any_of HT_.out (by kernel_rfl)) (fun _ _ _ h => h) (Or.inl ⟨by rfl, ?_⟩) ?_ ?_
      rotate_left
      · intro w'
        go_simp
        with_reducible rfl
      rotate_left
      · simp only [Act.put, List.setIfInBounds_toArray, List.set_cons_zero, List.set_cons_succ, i64_w, i32_w]
        rfl
      refine pure_ (i := 4) (N := some 13) (v := ?_) (a' := ?_) #[true, true, true, true, true, false, false, false, false, false, false, false, false, false, false, false, false, false, false, false] rfl rfl (any_of HT_.out (by kernel_rfl)) (fun _ _ _ h => h) (Or.inl ⟨by rfl, ?_⟩) ?_ ?_
      rotate_left
      · intro w'
        go_simp
        with_reducible rfl
      rotate_left
      · simp only [Act.put, List.setIfInBounds_toArray, List.set_cons_zero, List.set_cons_succ, i64_w, i32_w]
        rfl
      refine one_ (i := 5) (N := some 14) #[true, true, true, true, true, true, false, false, false, false, false, false, false, false, false, false, false, false, false, false] rfl rfl (one_of HT_.out (by kernel_rfl)) (by decide) (fun K hK => ?_)
      refine goes_ Try.func15 (by kernel_rfl) rfl #[.int .i64 t111] (by rfl) rfl rfl (by (try simp only [List.map_toArray, List.map_cons, List.map_nil]); first | done | rfl | (simp only [List.length_drop, List.length_take]; rfl)) ?_
      with_reducible refine (shelfmarklaw1_Err.calls t111 t113 _ A4.out).mono ?_
      rintro e w' ⟨rfl, ⟨nd, rfl⟩⟩
      refine ⟨_, rfl, ?_⟩
      refine hK.out _ _ trivial (fun hHeld => ?_)
      clear hK K
      refine norm_ (a' := ?_) ?_ ?_
      rotate_left
      · show Act.put _ (some 14) _ = _
        simp only [Act.put, List.setIfInBounds_toArray, List.set_cons_zero, List.set_cons_succ, i64_w, i32_w]
        rfl
      refine pure_ (i := 6) (N := some 15) (v := ?_) (a' := ?_) #[true, true, true, true, true, true, true, false, false, false, false, false, false, false, false, false, false, false, false, false] rfl rfl (any_of HT_.out (by kernel_rfl)) (fun _ _ _ h => h) (Or.inl ⟨by rfl, ?_⟩) ?_ ?_
      rotate_left
      · intro w'
        go_simp
        with_reducible rfl
      rotate_left
      · simp only [Act.put, List.setIfInBounds_toArray, List.set_cons_zero, List.set_cons_succ, i64_w, i32_w]
        rfl
      refine pure_ (i := 7) (N := some 16) (v := ?_) (a' := ?_) #[true, true, true, true, true, true, true, true, false, false, false, false, false, false, false, false, false, false, false, false] rfl rfl (any_of HT_.out (by kernel_rfl)) (fun _ _ _ h => h) (Or.inl ⟨by rfl, ?_⟩) ?_ ?_
      rotate_left
      · intro w'
        go_simp
        with_reducible rfl
      rotate_left
      · simp only [Act.put, List.setIfInBounds_toArray, List.set_cons_zero, List.set_cons_succ, i64_w, i32_w]
        rfl
      refine pure_ (i := 8) (N := some 17) (v := ?_) (a' := ?_) #[true, true, true, true, true, true, true, true, true, false, false, false, false, false, false, false, false, false, false, false] rfl rfl (any_of HT_.out (by kernel_rfl)) (fun _ _ _ h => h) (Or.inl ⟨by rfl, ?_⟩) ?_ ?_
      rotate_left
      · intro w'
        go_simp
        with_reducible rfl
      rotate_left
      · simp only [Act.put, List.setIfInBounds_toArray, List.set_cons_zero, List.set_cons_succ, i64_w, i32_w]
        rfl
      refine pure_ (i := 9) (N := some 18) (v := undef) (a' := ?_) #[true, true, true, true, true, true, true, true, true, true, false, false, false, false, false, false, false, false, false, false] rfl rfl (any_of HT_.out (by kernel_rfl)) (fun _ _ _ h => h) (Or.inr ⟨by rfl, rfl⟩) ?_ ?_
      rotate_left
      · simp only [Act.put, List.setIfInBounds_toArray, List.set_cons_zero, List.set_cons_succ, i64_w, i32_w]
        rfl
      refine pure_ (i := 10) (N := some 19) (v := undef) (a' := ?_) #[true, true, true, true, true, true, true, true, true, true, true, false, false, false, false, false, false, false, false, false] rfl rfl (any_of HT_.out (by kernel_rfl)) (fun _ _ _ h => h) (Or.inr ⟨by rfl, rfl⟩) ?_ ?_
      rotate_left
      · simp only [Act.put, List.setIfInBounds_toArray, List.set_cons_zero, List.set_cons_succ, i64_w, i32_w]
        rfl
      refine pure_ (i := 11) (N := some 20) (v := undef) (a' := ?_) #[true, true, true, true, true, true, true, true, true, true, true, true, false, false, false, false, false, false, false, false] rfl rfl (any_of HT_.out (by kernel_rfl)) (fun _ _ _ h => h) (Or.inr ⟨by rfl, rfl⟩) ?_ ?_
      rotate_left
      · simp only [Act.put, List.setIfInBounds_toArray, List.set_cons_zero, List.set_cons_succ, i64_w, i32_w]
        rfl
      refine pure_ (i := 12) (N := some 21) (v := ?_) (a' := ?_) #[true, true, true, true, true, true, true, true, true, true, true, true, true, false, false, false, false, false, false, false] rfl rfl (any_of HT_.out (by kernel_rfl)) (fun _ _ _ h => h) (Or.inl ⟨by rfl, ?_⟩) ?_ ?_
      rotate_left
      · intro w'
        go_simp
        with_reducible rfl
      rotate_left
      · simp only [Act.put, List.setIfInBounds_toArray, List.set_cons_zero, List.set_cons_succ, i64_w, i32_w]
        rfl
      refine pure_ (i := 13) (N := some 22) (v := ?_) (a' := ?_) #[true, true, true, true, true, true, true, true, true, true, true, true, true, true, false, false, false, false, false, false] rfl rfl (any_of HT_.out (by kernel_rfl)) (fun _ _ _ h => h) (Or.inl ⟨by rfl, ?_⟩) ?_ ?_
      rotate_left
      · intro w'
        go_simp
        with_reducible rfl
      rotate_left
      · simp only [Act.put, List.setIfInBounds_toArray, List.set_cons_zero, List.set_cons_succ, i64_w, i32_w]
        rfl
      refine pure_ (i := 14) (N := some 23) (v := undef) (a' := ?_) #[true, true, true, true, true, true, true, true, true, true, true, true, true, true, true, false, false, false, false, false] rfl rfl (any_of HT_.out (by kernel_rfl)) (fun _ _ _ h => h) (Or.inr ⟨by rfl, rfl⟩) ?_ ?_
      rotate_left
      · simp only [Act.put, List.setIfInBounds_toArray, List.set_cons_zero, List.set_cons_succ, i64_w, i32_w]
        rfl
      refine pure_ (i := 15) (N := some 24) (v := undef) (a' := ?_) #[true, true, true, true, true, true, true, true, true, true, true, true, true, true, true, true, false, false, false, false] rfl rfl (any_of HT_.out (by kernel_rfl)) (fun _ _ _ h => h) (Or.inr ⟨by rfl, rfl⟩) ?_ ?_
      rotate_left
      · simp only [Act.put, List.setIfInBounds_toArray, List.set_cons_zero, List.set_cons_succ, i64_w, i32_w]
        rfl
      refine pure_ (i := 16) (N := some 25) (v := undef) (a' := ?_) #[true, true, true, true, true, true, true, true, true, true, true, true, true, true, true, true, true, false, false, false] rfl rfl (any_of HT_.out (by kernel_rfl)) (fun _ _ _ h => h) (Or.inr ⟨by rfl, rfl⟩) ?_ ?_
      rotate_left
      · simp only [Act.put, List.setIfInBounds_toArray, List.set_cons_zero, List.set_cons_succ, i64_w, i32_w]
        rfl
      refine pure_ (i := 17) (N := some 26) (v := undef) (a' := ?_) #[true, true, true, true, true, true, true, true, true, true, true, true, true, true, true, true, true, true, false, false] rfl rfl (any_of HT_.out (by kernel_rfl)) (fun _ _ _ h => h) (Or.inr ⟨by rfl, rfl⟩) ?_ ?_
      rotate_left
      · simp only [Act.put, List.setIfInBounds_toArray, List.set_cons_zero, List.set_cons_succ, i64_w, i32_w]
        rfl
      refine pure_ (i := 18) (N := some 27) (v := ?_) (a' := ?_) #[true, true, true, true, true, true, true, true, true, true, true, true, true, true, true, true, true, true, true, false] rfl rfl (any_of HT_.out (by kernel_rfl)) (fun _ _ _ h => h) (Or.inl ⟨by rfl, ?_⟩) ?_ ?_
      rotate_left
      · intro w'
        go_simp
        with_reducible rfl
      rotate_left
      · simp only [Act.put, List.setIfInBounds_toArray, List.set_cons_zero, List.set_cons_succ, i64_w, i32_w]
        rfl
      refine pure_ (i := 19) (N := some 0) (v := ?_) (a' := ?_) #[true, true, true, true, true, true, true, true, true, true, true, true, true, true, true, true, true, true, true, true] rfl rfl (any_of HT_.out (by kernel_rfl)) (fun _ _ _ h => h) (Or.inl ⟨by rfl, ?_⟩) ?_ ?_
      rotate_left
      · intro w'
        go_simp
        with_reducible rfl
      rotate_left
      · simp only [Act.put, List.setIfInBounds_toArray, List.set_cons_zero, List.set_cons_succ, i64_w, i32_w]
        rfl
      refine done_ (done_of HT_.out (by kernel_rfl)) ?_
      try go_wp2
      go_ret
      exact ⟨by first | rfl | (simp [errW_none, errW_some] <;> rfl) | (simp [*, errW_none, errW_some] <;> rfl), by repeat (first | (with_reducible first | exact HB.out | apply below_alloc | apply pw_below_drewN | apply below_drew1) | exact HB.out)⟩
  · rw [if_neg c3] at H
    have c3b0 : ((t112.size : Int) == 16) = false := beq_eq_false_iff_ne.mpr c3
    have c3b1 : ((t112.size : Int) != 16) = true := bne_iff_ne.mpr c3
    obtain rfl := Option.some.inj H
    go_enter Try.func11, Try.ntmps11
    try go_wp2_with (first | ((with_reducible refine gate_dst (N := 5) rfl ?_); (try (refine gate_guard (by rfl) ?_; dsimp only)); refine Kd.R_lit k37 _ 37 ?hg (N := 5) ?hd (xs := ([(⟨(⟨#[]⟩ : ByteArray), 1, (⟨#[120]⟩ : ByteArray)⟩ : S37)] : List (S37))) (inner := [.string (⟨#[]⟩ : ByteArray), .int .i64 1, .string (⟨#[120]⟩ : ByteArray)]) (ok := fun _ => True) (okp := fun _ => True) ?hr ?hp (fun _ hk => hk) trivial (Below.refl _ _) (Nat.le_refl _) (by simp) ?_; (case hd => rfl); (case hg => rfl); (case hr => first | (go_simp; done) | (go_simp; rfl)); (case hp => exact (Reps.c3 (show Kd.M k37 _ _ _ (⟨(⟨#[]⟩ : ByteArray), 1, (⟨#[120]⟩ : ByteArray)⟩ : S37) [.string (⟨#[]⟩ : ByteArray), .int .i64 1, .string (⟨#[120]⟩ : ByteArray)] from (k37_mkM _ _ _ (⟨(⟨#[]⟩ : ByteArray), 1, (⟨#[120]⟩ : ByteArray)⟩ : S37) )) (Reps.none _ _))); intro v108 w29 ho30 hb hg_ hnew_; clear hg_ hnew_; (first | rw [← Ny107.out] at ho30 | (simp only [Int.reduceToNat] at ho30; rw [← Ny107.out] at ho30)); have n0_ := Aside0.mk (Kd.R_lower ho30 (below_size (by repeat (first | (with_reducible first | exact HB.out | apply below_alloc | apply pw_below_drewN | apply below_drew1) | exact HB.out)))); have n1_ := Aside0.mk (below_step (by repeat (first | (with_reducible first | exact HB.out | apply below_alloc | apply pw_below_drewN | apply below_drew1) | exact HB.out)) hb); clear HB; have HO109 := n0_; have HB := n1_; clear n0_ n1_; clear hb ho30; obtain ⟨Ao31, co31, eo31⟩ := Kd.R_slice HO109.out; subst eo31) | ((with_reducible refine gate_callee (f := 13) rfl ?_); refine goesL_ (some 6) rfl rfl Try.func13 (by kernel_rfl) rfl #[.slice Ao31 y107.length co31] rfl (by (try simp only [List.map_toArray, List.map_cons, List.map_nil]); first | done | rfl | (simp only [List.length_drop, List.length_take]; rfl)) ?_; (with_reducible refine (nar_Pack.calls _ _ y107 t110 t111 _ ?side1 ?side2 A1.out).mono ?_); (case side1 => repeat (first | exact (Kd.R_reads' HO109.out).2.2 | (with_reducible refine Kd.C_alloc ?_ _) | (with_reducible refine Kd.C_drewN ?_ _) | (with_reducible refine Kd.C_drew ?_))); (case side2 => exact (Kd.R_reads' HO109.out).2.1); rintro e w32 ⟨rfl, hb⟩; refine ⟨_, rfl, ?_⟩; have n0_ := Aside0.mk (Kd.R_below (by (with_reducible repeat (first | apply Kd.R_alloc | apply Kd.R_drewN | apply Kd.R_drew)); exact HO109.out) hb); have n1_ := Aside0.mk (below_step (by repeat (first | (with_reducible first | exact HB.out | apply below_alloc | apply pw_below_drewN | apply below_drew1) | exact HB.out)) hb); clear HO109; clear HB; have HO109 := n0_; have HB := n1_; clear n0_ n1_; (try clear hb); (try clear hb2); (try clear hk); (try clear hi)))
    have n0_ := Aside0.mk (Kd.R_drew HO109.out)
    have n1_ := Aside0.mk (below_drew1 HB.out)
    clear HO109
    clear HB
    have HO109 := n0_
    have HB := n1_
    clear n0_ n1_
    refine start_ (n := 20) (S := fun w' => True) (ds := []) #[false, false, false, false, false, false, false, false, false, false, false, false, false, false, false, false, false, false, false, false] (by kernel_rfl) rfl rfl trivial (fun hHeld => ?_); refine with_tabW shelfmarklaw10_awake.tab2 shelfmarklaw10_awake.bits2 (fun HT_ HW_ => ?_)
    generalize w32.drew = w33 at HO109 HB hHeld ⊢
    refine one_ (i := 0) (N := some 9) #[true, false, false, false, false, false, false, false, false, false, false, false, false, false, false, false, false, false, false, false] rfl rfl (one_of HT_.out (by kernel_rfl)) (by decide) (fun K hK => ?_)
    refine goes_ Try.func18 (by kernel_rfl) rfl #[.string (⟨#[40]⟩ : ByteArray)] (by rfl) rfl rfl (by (try simp only [List.map_toArray, List.map_cons, List.map_nil]); first | done | rfl | (simp only [List.length_drop, List.length_take]; rfl)) ?_
    with_reducible refine (nar_Str.calls k (⟨#[40]⟩ : ByteArray) t112 _ A2.out).mono ?_
    rintro e w34 ⟨rfl, hb⟩
    refine ⟨_, rfl, ?_⟩
    have n0_ := Aside0.mk (Kd.R_below (by (with_reducible repeat (first | apply Kd.R_alloc | apply Kd.R_drewN | apply Kd.R_drew)); exact HO109.out) hb)
    have n1_ := Aside0.mk (below_step (by repeat (first | (with_reducible first | exact HB.out | apply below_alloc | apply pw_below_drewN | apply below_drew1) | exact HB.out)) hb)
    clear HO109
    clear HB
    have HO109 := n0_
    have HB := n1_
    clear n0_ n1_
    (try clear hb)
    (try clear hb2)
    (try clear hk)
    (try clear hi)
    refine hK.out _ _ trivial (fun hHeld => ?_)
    clear hK K
    refine norm_ (a' := ?_) ?_ ?_
    rotate_left
    · show Act.put _ (some 9) _ = _
      simp only [Act.put, List.setIfInBounds_toArray, List.set_cons_zero, List.set_cons_succ, i64_w, i32_w]
      rfl
    refine pure_ (i := 1) (N := some 10) (v := ?_) (a' := ?_) #[true, true, false, false, false, false, false, false, false, false, false, false, false, false, false, false, false, false, false, false] rfl rfl (any_of HT_.out (by kernel_rfl)) (fun _ _ _ h => h) (Or.inl ⟨by rfl, ?_⟩) ?_ ?_
    rotate_left
    · intro w'
      go_simp
      with_reducible rfl
    rotate_left
    · simp only [Act.put, List.setIfInBounds_toArray, List.set_cons_zero, List.set_cons_succ, i64_w, i32_w]
      rfl
    refine pure_ (i := 2) (N := some 11) (v := ?_) (a' := ?_) #[true, true, true, false, false, false, false, false, false, false, false, false, false, false, false, false, false, false, false, false] rfl rfl (any_of HT_.out (by kernel_rfl)) (fun _ _ _ h => h) (Or.inl ⟨by rfl, ?_⟩) ?_ ?_
    rotate_left
    · intro w'
      go_simp
      with_reducible rfl
    rotate_left
    · simp only [Act.put, List.setIfInBounds_toArray, List.set_cons_zero, List.set_cons_succ, i64_w, i32_w]
      rfl
    refine pure_ (i := 3) (N := some 12) (v := ?_) (a' := ?_) #[true, true, true, true, false, false, false, false, false, false, false, false, false, false, false, false, false, false, false, false] rfl rfl (any_of HT_.out (by kernel_rfl)) (fun _ _ _ h => h) (Or.inl ⟨by rfl, ?_⟩) ?_ ?_
    rotate_left
    · intro w'
      go_simp
      with_reducible rfl
    rotate_left
    · simp only [Act.put, List.setIfInBounds_toArray, List.set_cons_zero, List.set_cons_succ, i64_w, i32_w]
      rfl
    refine pure_ (i := 4) (N := some 13) (v := undef) (a' := ?_) #[true, true, true, true, true, false, false, false, false, false, false, false, false, false, false, false, false, false, false, false] rfl rfl (any_of HT_.out (by kernel_rfl)) (fun _ _ _ h => h) (Or.inr ⟨by rfl, rfl⟩) ?_ ?_
    rotate_left
    · simp only [Act.put, List.setIfInBounds_toArray, List.set_cons_zero, List.set_cons_succ, i64_w, i32_w]
      rfl
    refine pure_ (i := 5) (N := some 14) (v := undef) (a' := ?_) #[true, true, true, true, true, true, false, false, false, false, false, false, false, false, false, false, false, false, false, false] rfl rfl (any_of HT_.out (by kernel_rfl)) (fun _ _ _ h => h) (Or.inr ⟨by rfl, rfl⟩) ?_ ?_
    rotate_left
    · simp only [Act.put, List.setIfInBounds_toArray, List.set_cons_zero, List.set_cons_succ, i64_w, i32_w]
      rfl
    refine pure_ (i := 6) (N := some 15) (v := undef) (a' := ?_) #[true, true, true, true, true, true, true, false, false, false, false, false, false, false, false, false, false, false, false, false] rfl rfl (any_of HT_.out (by kernel_rfl)) (fun _ _ _ h => h) (Or.inr ⟨by rfl, rfl⟩) ?_ ?_
    rotate_left
    · simp only [Act.put, List.setIfInBounds_toArray, List.set_cons_zero, List.set_cons_succ, i64_w, i32_w]
      rfl
    refine pure_ (i := 7) (N := some 16) (v := ?_) (a' := ?_) #[true, true, true, true, true, true, true, true, false, false, false, false, false, false, false, false, false, false, false, false] rfl rfl (any_of HT_.out (by kernel_rfl)) (fun _ _ _ h => h) (Or.inl ⟨by rfl, ?_⟩) ?_ ?_
    rotate_left
    · intro w'
      go_simp
      with_reducible rfl
    rotate_left
    · simp only [Act.put, List.setIfInBounds_toArray, List.set_cons_zero, List.set_cons_succ, i64_w, i32_w]
      rfl
    refine pure_ (i := 8) (N := some 17) (v := ?_) (a' := ?_) #[true, true, true, true, true, true, true, true, true, false, false, false, false, false, false, false, false, false, false, false] rfl rfl (any_of HT_.out (by kernel_rfl)) (fun _ _ _ h => h) (Or.inl ⟨by rfl, ?_⟩) ?_ ?_
    rotate_left
    · intro w'
      go_simp
      with_reducible rfl
    rotate_left
    · simp only [Act.put, List.setIfInBounds_toArray, List.set_cons_zero, List.set_cons_succ, i64_w, i32_w]
      rfl
    refine pure_ (i := 9) (N := some 18) (v := undef) (a' := ?_) #[true, true, true, true, true, true, true, true, true, true, false, false, false, false, false, false, false, false, false, false] rfl rfl (any_of HT_.out (by kernel_rfl)) (fun _ _ _ h => h) (Or.inr ⟨by rfl, rfl⟩) ?_ ?_
    rotate_left
    · simp only [Act.put, List.setIfInBounds_toArray, List.set_cons_zero, List.set_cons_succ, i64_w, i32_w]
      rfl
    refine pure_ (i := 10) (N := some 19) (v := undef) (a' := ?_) #[true, true, true, true, true, true, true, true, true, true, true, false, false, false, false, false, false, false, false, false] rfl rfl (any_of HT_.out (by kernel_rfl)) (fun _ _ _ h => h) (Or.inr ⟨by rfl, rfl⟩) ?_ ?_
    rotate_left
    · simp only [Act.put, List.setIfInBounds_toArray, List.set_cons_zero, List.set_cons_succ, i64_w, i32_w]
      rfl
    refine pure_ (i := 11) (N := some 20) (v := undef) (a' := ?_) #[true, true, true, true, true, true, true, true, true, true, true, true, false, false, false, false, false, false, false, false] rfl rfl (any_of HT_.out (by kernel_rfl)) (fun _ _ _ h => h) (Or.inr ⟨by rfl, rfl⟩) ?_ ?_
    rotate_left
    · simp only [Act.put, List.setIfInBounds_toArray, List.set_cons_zero, List.set_cons_succ, i64_w, i32_w]
      rfl
    refine pure_ (i := 12) (N := some 21) (v := ?_) (a' := ?_) #[true, true, true, true, true, true, true, true, true, true, true, true, true, false, false, false, false, false, false, false] rfl rfl (any_of HT_.out (by kernel_rfl)) (fun _ _ _ h => h) (Or.inl ⟨by rfl, ?_⟩) ?_ ?_
    rotate_left
    · intro w'
      go_simp
      with_reducible rfl
    rotate_left
    · simp only [Act.put, List.setIfInBounds_toArray, List.set_cons_zero, List.set_cons_succ, i64_w, i32_w]
      rfl
    refine pure_ (i := 13) (N := some 22) (v := ?_) (a' := ?_) #[true, true, true, true, true, true, true, true, true, true, true, true, true, true, false, false, false, false, false, false] rfl rfl (any_of HT_.out (by kernel_rfl)) (fun _ _ _ h => h) (Or.inl ⟨by rfl, ?_⟩) ?_ ?_
    rotate_left
    · intro w'
      go_simp
      with_reducible rfl
    rotate_left
    · simp only [Act.put, List.setIfInBounds_toArray, List.set_cons_zero, List.set_cons_succ, i64_w, i32_w]
      rfl
    refine pure_ (i := 14) (N := some 23) (v := undef) (a' := ?_) #[true, true, true, true, true, true, true, true, true, true, true, true, true, true, true, false, false, false, false, false] rfl rfl (any_of HT_.out (by kernel_rfl)) (fun _ _ _ h => h) (Or.inr ⟨by rfl, rfl⟩) ?_ ?_
    rotate_left
    · simp only [Act.put, List.setIfInBounds_toArray, List.set_cons_zero, List.set_cons_succ, i64_w, i32_w]
      rfl
    refine pure_ (i := 15) (N := some 24) (v := undef) (a' := ?_) #[true, true, true, true, true, true, true, true, true, true, true, true, true, true, true, true, false, false, false, false] rfl rfl (any_of HT_.out (by kernel_rfl)) (fun _ _ _ h => h) (Or.inr ⟨by rfl, rfl⟩) ?_ ?_
    rotate_left
    · simp only [Act.put, List.setIfInBounds_toArray, List.set_cons_zero, List.set_cons_succ, i64_w, i32_w]
      rfl
    refine pure_ (i := 16) (N := some 25) (v := undef) (a' := ?_) #[true, true, true, true, true, true, true, true, true, true, true, true, true, true, true, true, true, false, false, false] rfl rfl (any_of HT_.out (by kernel_rfl)) (fun _ _ _ h => h) (Or.inr ⟨by rfl, rfl⟩) ?_ ?_
    rotate_left
    · simp only [Act.put, List.setIfInBounds_toArray, List.set_cons_zero, List.set_cons_succ, i64_w, i32_w]
      rfl
    refine pure_ (i := 17) (N := some 26) (v := undef) (a' := ?_) #[true, true, true, true, true, true, true, true, true, true, true, true, true, true, true, true, true, true, false, false] rfl rfl (any_of HT_.out (by kernel_rfl)) (fun _ _ _ h => h) (Or.inr ⟨by rfl, rfl⟩) ?_ ?_
    rotate_left
    · simp only [Act.put, List.setIfInBounds_toArray, List.set_cons_zero, List.set_cons_succ, i64_w, i32_w]
      rfl
    refine pure_ (i := 18) (N := some 27) (v := ?_) (a' := ?_) #[true, true, true, true, true, true, true, true, true, true, true, true, true, true, true, true, true, true, true, false] rfl rfl (any_of HT_.out (by kernel_rfl)) (fun _ _ _ h => h) (Or.inl ⟨by rfl, ?_⟩) ?_ ?_
    rotate_left
    · intro w'
      go_simp
      with_reducible rfl
    rotate_left
    · simp only [Act.put, List.setIfInBounds_toArray, List.set_cons_zero, List.set_cons_succ, i64_w, i32_w]
      rfl
    refine pure_ (i := 19) (N := some 0) (v := ?_) (a' := ?_) #[true, true, true, true, true, true, true, true, true, true, true, true, true, true, true, true, true, true, true, true] rfl rfl (any_of HT_.out (by kernel_rfl)) (fun _ _ _ h => h) (Or.inl ⟨by rfl, ?_⟩) ?_ ?_
    rotate_left
    · intro w'
      go_simp
      with_reducible rfl
    rotate_left
    · simp only [Act.put, List.setIfInBounds_toArray, List.set_cons_zero, List.set_cons_succ, i64_w, i32_w]
      rfl
    refine done_ (done_of HT_.out (by kernel_rfl)) ?_
    try go_wp2
    go_ret
    exact ⟨by first | rfl | (simp [errW_none, errW_some] <;> rfl) | (simp [*, errW_none, errW_some] <;> rfl), by repeat (first | (with_reducible first | exact HB.out | apply below_alloc | apply pw_below_drewN | apply below_drew1) | exact HB.out)⟩
end
end Go.Proofs.Ytncokgdfkbgflaa.P

namespace Go.Proofs.Ytncokgdfkbgflaa.P
open Go.RowKit Go.Proofs.YtncokgdfkbgflaaW.PrintWords
end Go.Proofs.Ytncokgdfkbgflaa.P

namespace Go.Proofs.Ytncokgdfkbgflaa.P
open Go.RowKit Go.Proofs.YtncokgdfkbgflaaW.PrintWords Go.Proofs.YtncokgdfkbgflaaW.PrintLast Go.Proofs.YtncokgdfkbgflaaW.PrintMore
attribute [local go_sem] max2_int min2_int max_two min_two max_three min_three max_four min_four   -- for this text's walks alone
set_option linter.unusedVariables false
set_option linter.unusedSimpArgs false
noncomputable section
def shelfmarklaw10_NarAll.j0 : Nat → List (S37) → List (S37) → ByteArray → Int → Bool → Option (Bool)
  | 0, _, _, _, _, _ => none
  | k + 1, x0, x1, x2, x3, x22 => if x22 = true then ((shelfmarklaw10_awake.f k).bind fun t242 => (some t242)) else ((nar_Pack.f x0).bind fun bt243 => ((shelfmarkref10_Pack.f k x0).bind fun bt245 => ((nar_May.f k x0).bind fun t248 => ((shelfmarkref10_May.f k x0).bind fun t249 => (if (t248 == t249) = true then (if bt243.1.toList = bt245.1.toList then ((shelfmarklaw1_Err.f bt243.2).bind fun t250 => (if t250 = bt245.2 then ((nar_MayName.f x2).bind fun t251 => ((shelfmarkref10_MayName.f k x2).bind fun t252 => (if (t251 == t252) = true then ((nar_Word.f k x3).bind fun t253 => ((shelfmarkref10_Word.f k x3).bind fun t254 => (if t253.toList = t254.toList then ((nar_Str.f k x2).bind fun t255 => ((shelfmarkref10_Str.f k x2).bind fun t256 => (if t255.toList = t256.toList then ((nar_Same.f k x0 x1).bind fun t257 => ((shelfmarkref10_Same.f k x0 x1).bind fun t258 => (if (t257 == t258) = true then ((shelfmarklaw10_awake.f k).bind fun t259 => (some t259)) else (some false)))) else (some false)))) else (some false)))) else (some false)))) else (some false))) else (some false)) else (some false))))))
def shelfmarklaw10_NarAll.f (k : Nat) (l0 : List (S37)) (l1 : List (S37)) (a2 : ByteArray) (a3 : Int) : Option (Bool) := (shelfmarklaw10_Heavy.f k l0).bind fun t240 => (if t240 = true then (shelfmarklaw10_NarAll.j0 k l0 l1 a2 a3 true) else ((shelfmarklaw10_Heavy.f k l1).bind fun t241 => (if t241 = true then (shelfmarklaw10_NarAll.j0 k l0 l1 a2 a3 true) else (shelfmarklaw10_NarAll.j0 k l0 l1 a2 a3 (decide ((a2.size : Int) > 400))))))
theorem shelfmarklaw10_NarAll.mono_l : ∀ k, (∀ y0 y1 y2 y3 y4, LeO (shelfmarklaw10_NarAll.j0 k y0 y1 y2 y3 y4) (shelfmarklaw10_NarAll.j0 (k + 1) y0 y1 y2 y3 y4))
  | 0 => fun _ _ _ _ _ r h => by simp [shelfmarklaw10_NarAll.j0] at h
  | k + 1 => by
    have ih0 := shelfmarklaw10_NarAll.mono_l k
    · intro y0 y1 y2 y3 y4
      unfold shelfmarklaw10_NarAll.j0
      repeat' first
      | (with_reducible exact ih0 _ _ _ _ _)
      | (with_reducible exact nar_May.mono _ _)
      | (with_reducible exact nar_Same.mono _ _ _)
      | (with_reducible exact nar_Str.mono _ _)
      | (with_reducible exact nar_Word.mono _ _)
      | (with_reducible exact shelfmarklaw10_Heavy.mono _ _)
      | (with_reducible exact shelfmarklaw10_awake.mono _)
      | (with_reducible exact shelfmarkref10_May.mono _ _)
      | (with_reducible exact shelfmarkref10_MayName.mono _ _)
      | (with_reducible exact shelfmarkref10_Pack.mono _ _)
      | (with_reducible exact shelfmarkref10_Same.mono _ _ _)
      | (with_reducible exact shelfmarkref10_Str.mono _ _)
      | (with_reducible exact shelfmarkref10_Word.mono _ _)
      | (with_reducible exact LeO.refl _)
      | (with_reducible exact LeO.none _)
      | (with_reducible refine LeO.ite ?_ ?_)
      | (with_reducible refine LeO.bind ?_ (fun _ => ?_))
      | exact ih0 _ _ _ _ _
      | exact nar_May.mono _ _
      | exact nar_Same.mono _ _ _
      | exact nar_Str.mono _ _
      | exact nar_Word.mono _ _
      | exact shelfmarklaw10_Heavy.mono _ _
      | exact shelfmarklaw10_awake.mono _
      | exact shelfmarkref10_May.mono _ _
      | exact shelfmarkref10_MayName.mono _ _
      | exact shelfmarkref10_Pack.mono _ _
      | exact shelfmarkref10_Same.mono _ _ _
      | exact shelfmarkref10_Str.mono _ _
      | exact shelfmarkref10_Word.mono _ _
      | exact LeO.none _
      | refine LeO.ite ?_ ?_
      | refine LeO.bind ?_ (fun _ => ?_)
theorem shelfmarklaw10_NarAll.mono : ∀ a0 a1 a2 a3 k, LeO (shelfmarklaw10_NarAll.f k a0 a1 a2 a3) (shelfmarklaw10_NarAll.f (k + 1) a0 a1 a2 a3) := by
  intro a0 a1 a2 a3 k
  have ih0 := shelfmarklaw10_NarAll.mono_l k
  unfold shelfmarklaw10_NarAll.f
  repeat' first
      | (with_reducible exact ih0 _ _ _ _ _)
      | (with_reducible exact nar_May.mono _ _)
      | (with_reducible exact nar_Same.mono _ _ _)
      | (with_reducible exact nar_Str.mono _ _)
      | (with_reducible exact nar_Word.mono _ _)
      | (with_reducible exact shelfmarklaw10_Heavy.mono _ _)
      | (with_reducible exact shelfmarklaw10_awake.mono _)
      | (with_reducible exact shelfmarkref10_May.mono _ _)
      | (with_reducible exact shelfmarkref10_MayName.mono _ _)
      | (with_reducible exact shelfmarkref10_Pack.mono _ _)
      | (with_reducible exact shelfmarkref10_Same.mono _ _ _)
      | (with_reducible exact shelfmarkref10_Str.mono _ _)
      | (with_reducible exact shelfmarkref10_Word.mono _ _)
      | (with_reducible exact LeO.refl _)
      | (with_reducible exact LeO.none _)
      | (with_reducible refine LeO.ite ?_ ?_)
      | (with_reducible refine LeO.bind ?_ (fun _ => ?_))
      | exact ih0 _ _ _ _ _
      | exact nar_May.mono _ _
      | exact nar_Same.mono _ _ _
      | exact nar_Str.mono _ _
      | exact nar_Word.mono _ _
      | exact shelfmarklaw10_Heavy.mono _ _
      | exact shelfmarklaw10_awake.mono _
      | exact shelfmarkref10_May.mono _ _
      | exact shelfmarkref10_MayName.mono _ _
      | exact shelfmarkref10_Pack.mono _ _
      | exact shelfmarkref10_Same.mono _ _ _
      | exact shelfmarkref10_Str.mono _ _
      | exact shelfmarkref10_Word.mono _ _
      | exact LeO.none _
      | refine LeO.ite ?_ ?_
      | refine LeO.bind ?_ (fun _ => ?_)
def shelfmarklaw10_NarAll.T5 : Bool × List (List Nat × List Nat) := (true, [([], []), ([0], [0]), ([], []), ([2, 1], [2]), ([1, 3], [1, 3]), ([4, 3], [4]), ([5], [5]), ([5], [5]), ([7, 5], [5, 7]), ([6, 8, 5], [5, 6, 8]), ([5, 9], [5, 9]), ([10, 5], [10]), ([11], [11]), ([12, 11, 11], [11, 12]), ([11], [11]), ([14, 11], [11, 14]), ([13, 15, 11], [11, 13, 15]), ([11, 16], [11, 16]), ([17, 13], [17]), ([18], [18]), ([19, 18, 18], [18, 19]), ([18], [18]), ([21, 20, 18], [18, 21]), ([20, 22, 18], [18, 20, 22]), ([18, 23], [18, 23]), ([24, 22], [24]), ([25], [25]), ([26, 25, 25], [25, 26]), ([25], [25]), ([28, 27, 25], [25, 28]), ([27, 29, 25], [25, 27, 29]), ([25, 30], [25, 30]), ([31, 29], [31]), ([32], [32]), ([33, 32, 32], [32, 33]), ([32], [32]), ([35, 34, 32], [32, 35]), ([34, 36, 32], [32, 34, 36]), ([32, 37], [32, 37]), ([38, 36], [38]), ([39], [39]), ([39], [39]), ([40, 41, 39, 39], [39, 40, 41]), ([39], [39]), ([39], [39]), ([43, 44, 42, 39], [39, 43, 44]), ([42, 45, 39], [39, 42, 45]), ([39, 46], [39, 46]), ([47, 45], [47]), ([48, 48], [48]), ([48, 49], [48, 49]), ([50, 49, 0, 1, 2, 3, 4, 5, 6, 7, 8, 9, 10, 11, 12, 13, 14, 15, 16, 17, 18, 19, 20, 21, 22, 23, 24, 25, 26, 27, 28, 29, 30, 31, 32, 33, 34, 35, 36, 37, 38, 39, 40, 41, 42, 43, 44, 45, 46, 47, 48, 49, 50], [50])])
def shelfmarklaw10_NarAll.B5 : List Nat := [0, 1, 0, 7, 15, 31, 63, 63, 191, 511, 1023, 2047, 4095, 8191, 4095, 20479, 65535, 131071, 262143, 524287, 1048575, 524287, 4194303, 8388607, 16777215, 33554431, 67108863, 134217727, 67108863, 536870911, 1073741823, 2147483647, 4294967295, 8589934591, 17179869183, 8589934591, 68719476735, 137438953471, 274877906943, 549755813887, 1099511627775, 1099511627775, 4398046511103, 1099511627775, 1099511627775, 35184372088831, 70368744177663, 140737488355327, 281474976710655, 562949953421311, 1125899906842623, 2251799813685247]
theorem shelfmarklaw10_NarAll.tab5 : rtab .any (opsOf Try.f7 5) = shelfmarklaw10_NarAll.T5 := by kernel_rfl
theorem shelfmarklaw10_NarAll.bits5 : waitsOk shelfmarklaw10_NarAll.T5.2 shelfmarklaw10_NarAll.B5 = true := by kernel_rfl
set_option maxHeartbeats 8000000 in
set_option maxRecDepth 100000 in
theorem shelfmarklaw10_NarAll.calls (k : Nat) (A0 : Option Addr) (c0 : Nat) (l0 : List (S37)) (A1 : Option Addr) (c1 : Nat) (l1 : List (S37)) (a2 : ByteArray) (a3 : Int) (r : Bool) (w : World) (hr0 : Kd.C k37 w A0 l0.length l0) (hc0 : l0.length ≤ c0) (hr1 : Kd.C k37 w A1 l1.length l1) (hc1 : l1.length ≤ c1) (h : shelfmarklaw10_NarAll.f k l0 l1 a2 a3 = some r) (hr : r = true := by rfl) :
    Calls Try.prog 7 #[.slice A0 l0.length c0, .slice A1 l1.length c1, .string a2, .int .i64 a3] w fun e w' => e = .returned (.bool r) ∧ Below w.heap.size w w' := by
  have hfd33_0 : ∀ (w : World) (fa0 : ByteArray) (fa1 : Int), (Instr.field 33 (.agg #[.string fa0, .int .i64 fa1]) 0).run Try.prog w = .ok (.string fa0) w := fun _ _ _ => by kernel_rfl
  have hfd33_1 : ∀ (w : World) (fa0 : ByteArray) (fa1 : Int), (Instr.field 33 (.agg #[.string fa0, .int .i64 fa1]) 1).run Try.prog w = .ok (.int .i64 fa1) w := fun _ _ _ => by kernel_rfl
  have hu33 := Try.underlying33
  have HR0 := Aside0.mk hr0
  have HC0 := Aside0.mk hc0
  clear hr0 hc0
  have HR1 := Aside0.mk hr1
  have HC1 := Aside0.mk hc1
  clear hr1 hc1
  have HB := Aside0.mk (Below.refl w.heap.size w)
  have H : ((shelfmarklaw10_Heavy.f k l0).bind fun t240 => (if t240 = true then (shelfmarklaw10_NarAll.j0 k l0 l1 a2 a3 true) else ((shelfmarklaw10_Heavy.f k l1).bind fun t241 => (if t241 = true then (shelfmarklaw10_NarAll.j0 k l0 l1 a2 a3 true) else (shelfmarklaw10_NarAll.j0 k l0 l1 a2 a3 (decide ((a2.size : Int) > 400))))))) = some r := h
  clear h
  have HC5 := Aside0.mk H
  clear H
  go_enter Try.func7, Try.ntmps7
  go_upto_region 1 with (fail)
  go_cut [22] (fun v22 wc => ∃ (kq : Nat) (x22_4 : Bool), v22 = .bool x22_4 ∧ Aside0 (shelfmarklaw10_NarAll.j0 kq l0 l1 a2 a3 x22_4 = some r) ∧ Aside0 (kq ≤ k) ∧ Aside0 (Below w.heap.size w wc))
  case first =>
    have H := HC5.out
    clear HC5
    replace H := Option.bind_eq_some_iff.mp H
    obtain ⟨t240, A60, H⟩ := H
    replace H : (if t240 = true then (shelfmarklaw10_NarAll.j0 k l0 l1 a2 a3 true) else ((shelfmarklaw10_Heavy.f k l1).bind fun t241 => (if t241 = true then (shelfmarklaw10_NarAll.j0 k l0 l1 a2 a3 true) else (shelfmarklaw10_NarAll.j0 k l0 l1 a2 a3 (decide ((a2.size : Int) > 400)))))) = some r := H
    have A6 := Aside0.mk A60
    clear A60
    by_cases c7 : t240 = true
    · subst c7
      have H1 : (shelfmarklaw10_NarAll.j0 k l0 l1 a2 a3 true) = some r := by rw [if_pos rfl] at H; exact H
      clear H
      have H := H1
      clear H1
      have H' := Aside0.mk H
      clear H
      go_wp2_with (first | ((with_reducible refine gate_callee (f := 19) rfl ?_); refine goesL_ (some 13) rfl rfl Try.func19 (by kernel_rfl) rfl #[.slice A0 l0.length c0] rfl (by (try simp only [List.map_toArray, List.map_cons, List.map_nil]); first | done | rfl | (simp only [List.length_drop, List.length_take]; rfl)) ?_; (with_reducible refine (shelfmarklaw10_Heavy.calls k _ _ l0 true _ ?side1 ?side2 A6.out).mono ?_); (case side1 => repeat (first | exact (Kd.C_below HR0.out HB.out) | (with_reducible refine Kd.C_alloc ?_ _) | (with_reducible refine Kd.C_drewN ?_ _) | (with_reducible refine Kd.C_drew ?_))); (case side2 => exact HC0.out); rintro e w' ⟨rfl, ⟨nd, rfl⟩⟩; refine ⟨_, rfl, ?_⟩))
      go_meet
      case rel => exact ⟨_, (true), (by first | rfl | (simp; done) | (simp [*]; done) | (congr 1; rw [Bool.eq_iff_iff]; simp [bne]; done) | (rw [Bool.eq_iff_iff]; simp [bne]; done)), H', ⟨by first | omega | exact Nat.le_refl _⟩, ⟨by repeat (first | (with_reducible first | exact HB.out | apply below_alloc | apply pw_below_drewN | apply below_drew1) | exact HB.out)⟩⟩
    · replace c7 := Bool.eq_false_iff.mpr c7
      subst c7
      have H1 : ((shelfmarklaw10_Heavy.f k l1).bind fun t241 => (if t241 = true then (shelfmarklaw10_NarAll.j0 k l0 l1 a2 a3 true) else (shelfmarklaw10_NarAll.j0 k l0 l1 a2 a3 (decide ((a2.size : Int) > 400))))) = some r := by rw [if_neg (show ¬ (false = true) by decide)] at H; exact H
      clear H
      have H := H1
      clear H1
      replace H := Option.bind_eq_some_iff.mp H
      obtain ⟨t241, A80, H⟩ := H
      replace H : (if t241 = true then (shelfmarklaw10_NarAll.j0 k l0 l1 a2 a3 true) else (shelfmarklaw10_NarAll.j0 k l0 l1 a2 a3 (decide ((a2.size : Int) > 400)))) = some r := H
      have A8 := Aside0.mk A80
      clear A80
      by_cases c9 : t241 = true
      · subst c9
        have H1 : (shelfmarklaw10_NarAll.j0 k l0 l1 a2 a3 true) = some r := by rw [if_pos rfl] at H; exact H
        clear H
        have H := H1
        clear H1
        have H' := Aside0.mk H
        clear H
        go_wp2_with (first | ((with_reducible refine gate_callee (f := 19) rfl ?_); refine goesL_ (some 13) rfl rfl Try.func19 (by kernel_rfl) rfl #[.slice A0 l0.length c0] rfl (by (try simp only [List.map_toArray, List.map_cons, List.map_nil]); first | done | rfl | (simp only [List.length_drop, List.length_take]; rfl)) ?_; (with_reducible refine (shelfmarklaw10_Heavy.calls k _ _ l0 false _ ?side1 ?side2 A6.out).mono ?_); (case side1 => repeat (first | exact (Kd.C_below HR0.out HB.out) | (with_reducible refine Kd.C_alloc ?_ _) | (with_reducible refine Kd.C_drewN ?_ _) | (with_reducible refine Kd.C_drew ?_))); (case side2 => exact HC0.out); rintro e w' ⟨rfl, ⟨nd, rfl⟩⟩; refine ⟨_, rfl, ?_⟩) | (go_at_call 19; (with_reducible refine (shelfmarklaw10_Heavy.calls k _ _ l1 true _ ?side1 ?side2 A8.out).mono ?_); (case side1 => repeat (first | exact (Kd.C_below HR1.out (by repeat (first | (with_reducible first | exact HB.out | apply below_alloc | apply pw_below_drewN | apply below_drew1) | exact HB.out))) | (with_reducible refine Kd.C_alloc ?_ _) | (with_reducible refine Kd.C_drewN ?_ _) | (with_reducible refine Kd.C_drew ?_))); (case side2 => exact HC1.out); rintro e w' ⟨rfl, ⟨nd, rfl⟩⟩))
        go_meet
        case rel => exact ⟨_, (true), (by first | rfl | (simp; done) | (simp [*]; done) | (congr 1; rw [Bool.eq_iff_iff]; simp [bne]; done) | (rw [Bool.eq_iff_iff]; simp [bne]; done)), H', ⟨by first | omega | exact Nat.le_refl _⟩, ⟨by repeat (first | (with_reducible first | exact HB.out | apply below_alloc | apply pw_below_drewN | apply below_drew1) | exact HB.out)⟩⟩
      · replace c9 := Bool.eq_false_iff.mpr c9
        subst c9
        have H1 : (shelfmarklaw10_NarAll.j0 k l0 l1 a2 a3 (decide ((a2.size : Int) > 400))) = some r := by rw [if_neg (show ¬ (false = true) by decide)] at H; exact H
        clear H
        have H := H1
        clear H1
        have H' := Aside0.mk H
        clear H
        go_wp2_with (first | ((with_reducible refine gate_callee (f := 19) rfl ?_); refine goesL_ (some 13) rfl rfl Try.func19 (by kernel_rfl) rfl #[.slice A0 l0.length c0] rfl (by (try simp only [List.map_toArray, List.map_cons, List.map_nil]); first | done | rfl | (simp only [List.length_drop, List.length_take]; rfl)) ?_; (with_reducible refine (shelfmarklaw10_Heavy.calls k _ _ l0 false _ ?side1 ?side2 A6.out).mono ?_); (case side1 => repeat (first | exact (Kd.C_below HR0.out HB.out) | (with_reducible refine Kd.C_alloc ?_ _) | (with_reducible refine Kd.C_drewN ?_ _) | (with_reducible refine Kd.C_drew ?_))); (case side2 => exact HC0.out); rintro e w' ⟨rfl, ⟨nd, rfl⟩⟩; refine ⟨_, rfl, ?_⟩) | (go_at_call 19; (with_reducible refine (shelfmarklaw10_Heavy.calls k _ _ l1 false _ ?side1 ?side2 A8.out).mono ?_); (case side1 => repeat (first | exact (Kd.C_below HR1.out (by repeat (first | (with_reducible first | exact HB.out | apply below_alloc | apply pw_below_drewN | apply below_drew1) | exact HB.out))) | (with_reducible refine Kd.C_alloc ?_ _) | (with_reducible refine Kd.C_drewN ?_ _) | (with_reducible refine Kd.C_drew ?_))); (case side2 => exact HC1.out); rintro e w' ⟨rfl, ⟨nd, rfl⟩⟩))
        go_meet
        case rel => exact ⟨_, (decide ((a2.size : Int) > 400)), (by first | rfl | (simp; done) | (simp [*]; done) | (congr 1; rw [Bool.eq_iff_iff]; simp [bne]; done) | (rw [Bool.eq_iff_iff]; simp [bne]; done)), H', ⟨by first | omega | exact Nat.le_refl _⟩, ⟨by repeat (first | (with_reducible first | exact HB.out | apply below_alloc | apply pw_below_drewN | apply below_drew1) | exact HB.out)⟩⟩
  case rest =>
    clear HC5
    try clear c1
    try clear p2
    try clear c7
    try clear c9
    obtain ⟨kq, x22_4, rfl, HA, HJ4, HB⟩ := hcut
    cases kq with
    | zero => exact absurd HA.out (by simp [shelfmarklaw10_NarAll.j0])
    | succ kj4 =>
      have H := HA.out
      clear HA
      simp only [shelfmarklaw10_NarAll.j0] at H
      by_cases c10 : x22_4 = true
      · subst c10
        have H1 : ((shelfmarklaw10_awake.f kj4).bind fun t242 => (some t242)) = some r := by rw [if_pos rfl] at H; exact H
        clear H
        have H := H1
        clear H1
        replace H := Option.bind_eq_some_iff.mp H
        obtain ⟨t242, A110, H⟩ := H
        replace H : (some t242) = some r := H
        have A11 := Aside0.mk A110
        clear A110
        obtain rfl := Option.some.inj H
        go_wp2_with (first | ((with_reducible refine gate_callee (f := 11) rfl ?_); refine goesL_ (some 23) rfl rfl Try.func11 (by kernel_rfl) rfl #[] rfl (by (try simp only [List.map_toArray, List.map_cons, List.map_nil]); first | done | rfl | (simp only [List.length_drop, List.length_take]; rfl)) ?_; (with_reducible refine (shelfmarklaw10_awake.calls kj4  t242 _ A11.out).mono ?_); rintro e w12 ⟨rfl, hb⟩; refine ⟨_, rfl, ?_⟩; have n0_ := Aside0.mk (below_step (by repeat (first | (with_reducible first | exact HB.out | apply below_alloc | apply pw_below_drewN | apply below_drew1) | exact HB.out)) hb); clear HB; have HB := n0_; clear n0_; (try clear hb); (try clear hb2); (try clear hk); (try clear hi)))
        go_ret
        exact ⟨by first | rfl | (simp [errW_none, errW_some] <;> rfl) | (simp [*, errW_none, errW_some] <;> rfl), by repeat (first | (with_reducible first | exact HB.out | apply below_alloc | apply pw_below_drewN | apply below_drew1) | exact HB.out)⟩
      · replace c10 := Bool.eq_false_iff.mpr c10
        subst c10
        have H1 : ((nar_Pack.f l0).bind fun bt243 => ((shelfmarkref10_Pack.f kj4 l0).bind fun bt245 => ((nar_May.f kj4 l0).bind fun t248 => ((shelfmarkref10_May.f kj4 l0).bind fun t249 => (if (t248 == t249) = true then (if bt243.1.toList = bt245.1.toList then ((shelfmarklaw1_Err.f bt243.2).bind fun t250 => (if t250 = bt245.2 then ((nar_MayName.f a2).bind fun t251 => ((shelfmarkref10_MayName.f kj4 a2).bind fun t252 => (if (t251 == t252) = true then ((nar_Word.f kj4 a3).bind fun t253 => ((shelfmarkref10_Word.f kj4 a3).bind fun t254 => (if t253.toList = t254.toList then ((nar_Str.f kj4 a2).bind fun t255 => ((shelfmarkref10_Str.f kj4 a2).bind fun t256 => (if t255.toList = t256.toList then ((nar_Same.f kj4 l0 l1).bind fun t257 => ((shelfmarkref10_Same.f kj4 l0 l1).bind fun t258 => (if (t257 == t258) = true then ((shelfmarklaw10_awake.f kj4).bind fun t259 => (some t259)) else (some false)))) else (some false)))) else (some false)))) else (some false)))) else (some false))) else (some false)) else (some false)))))) = some r := by rw [if_neg (show ¬ (false = true) by decide)] at H; exact H
        clear H
        have H := H1
        clear H1
        replace H := Option.bind_eq_some_iff.mp H
        obtain ⟨⟨t243, t244⟩, A130, H⟩ := H
        (try dsimp only at H)
        have A13 := Aside0.mk A130
        clear A130
        replace H := Option.bind_eq_some_iff.mp H
        obtain ⟨⟨t245, t246⟩, A140, H⟩ := H
        (try dsimp only at H)
        have A14 := Aside0.mk A140
        clear A140
        replace H := Option.bind_eq_some_iff.mp H
        obtain ⟨t248, A150, H⟩ := H
        (try dsimp only at H)
        have A15 := Aside0.mk A150
        clear A150
        replace H := Option.bind_eq_some_iff.mp H
        obtain ⟨t249, A160, H⟩ := H
        (try dsimp only at H)
        have A16 := Aside0.mk A160
        clear A160
        by_cases c17 : (t248 == t249) = true
        · rw [if_pos c17] at H
          have c17b0 : (t248 == t249) = true := c17
          (try (have c17b1 : decide (t248 = t249) = true := by simpa using c17))
          (try (have c17b2 : (t248 == t249) = true := by simpa using c17))
          clear c17
          by_cases c18 : t243.toList = t245.toList
          · rw [if_pos c18] at H
            have c18b0 : (t243.toList == t245.toList) = true := beq_iff_eq.mpr c18
            have c18b1 : (t243.toList != t245.toList) = false := bne_eq_false_iff_eq.mpr c18
            clear c18
            replace H := Option.bind_eq_some_iff.mp H
            obtain ⟨t250, A190, H⟩ := H
            (try dsimp only at H)
            have A19 := Aside0.mk A190
            clear A190
            by_cases c20 : t250 = t246
            · rw [if_pos c20] at H
              have c20b0 : (t250 == t246) = true := beq_iff_eq.mpr c20
              have c20b1 : (t250 != t246) = false := bne_eq_false_iff_eq.mpr c20
              clear c20
              replace H := Option.bind_eq_some_iff.mp H
              obtain ⟨t251, A210, H⟩ := H
              (try dsimp only at H)
              have A21 := Aside0.mk A210
              clear A210
              replace H := Option.bind_eq_some_iff.mp H
              obtain ⟨t252, A220, H⟩ := H
              (try dsimp only at H)
              have A22 := Aside0.mk A220
              clear A220
              by_cases c23 : (t251 == t252) = true
              · rw [if_pos c23] at H
                have c23b0 : (t251 == t252) = true := c23
                (try (have c23b1 : decide (t251 = t252) = true := by simpa using c23))
                (try (have c23b2 : (t251 == t252) = true := by simpa using c23))
                clear c23
                replace H := Option.bind_eq_some_iff.mp H
                obtain ⟨t253, A240, H⟩ := H
                (try dsimp only at H)
                have A24 := Aside0.mk A240
                clear A240
                replace H := Option.bind_eq_some_iff.mp H
                obtain ⟨t254, A250, H⟩ := H
                (try dsimp only at H)
                have A25 := Aside0.mk A250
                clear A250
                by_cases c26 : t253.toList = t254.toList
                · rw [if_pos c26] at H
                  have c26b0 : (t253.toList == t254.toList) = true := beq_iff_eq.mpr c26
                  have c26b1 : (t253.toList != t254.toList) = false := bne_eq_false_iff_eq.mpr c26
                  clear c26
                  replace H := Option.bind_eq_some_iff.mp H
                  obtain ⟨t255, A270, H⟩ := H
                  replace H : ((shelfmarkref10_Str.f kj4 a2).bind fun t256 => (if t255.toList = t256.toList then ((nar_Same.f kj4 l0 l1).bind fun t257 => ((shelfmarkref10_Same.f kj4 l0 l1).bind fun t258 => (if (t257 == t258) = true then ((shelfmarklaw10_awake.f kj4).bind fun t259 => (some t259)) else (some false)))) else (some false))) = some r := H
                  have A27 := Aside0.mk A270
                  clear A270
                  replace H := Option.bind_eq_some_iff.mp H
                  obtain ⟨t256, A280, H⟩ := H
                  replace H : (if t255.toList = t256.toList then ((nar_Same.f kj4 l0 l1).bind fun t257 => ((shelfmarkref10_Same.f kj4 l0 l1).bind fun t258 => (if (t257 == t258) = true then ((shelfmarklaw10_awake.f kj4).bind fun t259 => (some t259)) else (some false)))) else (some false)) = some r := H
                  have A28 := Aside0.mk A280
                  clear A280
                  by_cases c29 : t255.toList = t256.toList
                  · rw [if_pos c29] at H
                    have c29b0 : (t255.toList == t256.toList) = true := beq_iff_eq.mpr c29
                    have c29b1 : (t255.toList != t256.toList) = false := bne_eq_false_iff_eq.mpr c29
                    clear c29
                    replace H := Option.bind_eq_some_iff.mp H
                    obtain ⟨t257, A300, H⟩ := H
                    replace H : ((shelfmarkref10_Same.f kj4 l0 l1).bind fun t258 => (if (t257 == t258) = true then ((shelfmarklaw10_awake.f kj4).bind fun t259 => (some t259)) else (some false))) = some r := H
                    have A30 := Aside0.mk A300
                    clear A300
                    replace H := Option.bind_eq_some_iff.mp H
                    obtain ⟨t258, A310, H⟩ := H
                    replace H : (if (t257 == t258) = true then ((shelfmarklaw10_awake.f kj4).bind fun t259 => (some t259)) else (some false)) = some r := H
                    have A31 := Aside0.mk A310
                    clear A310
                    by_cases c32 : (t257 == t258) = true
                    · rw [if_pos c32] at H
                      have c32b0 : (t257 == t258) = true := c32
                      (try (have c32b1 : decide (t257 = t258) = true := by simpa using c32))
                      (try (have c32b2 : (t257 == t258) = true := by simpa using c32))
                      clear c32
                      replace H := Option.bind_eq_some_iff.mp H
                      obtain ⟨t259, A330, H⟩ := H
                      replace H : (some t259) = some r := H
                      have A33 := Aside0.mk A330
                      clear A330
                      obtain rfl := Option.some.inj H
                      try go_wp2_with (first | ((with_reducible refine gate_callee (f := 13) rfl ?_); refine goesL_ (some 26) rfl rfl Try.func13 (by kernel_rfl) rfl #[.slice A0 l0.length c0] rfl (by (try simp only [List.map_toArray, List.map_cons, List.map_nil]); first | done | rfl | (simp only [List.length_drop, List.length_take]; rfl)) ?_; (with_reducible refine (nar_Pack.calls _ _ l0 t243 t244 _ ?side1 ?side2 A13.out).mono ?_); (case side1 => repeat (first | exact (Kd.C_below HR0.out HB.out) | (with_reducible refine Kd.C_alloc ?_ _) | (with_reducible refine Kd.C_drewN ?_ _) | (with_reducible refine Kd.C_drew ?_))); (case side2 => exact HC0.out); rintro e w34 ⟨rfl, hb⟩; refine ⟨_, rfl, ?_⟩; have n0_ := Aside0.mk (below_step (by repeat (first | (with_reducible first | exact HB.out | apply below_alloc | apply pw_below_drewN | apply below_drew1) | exact HB.out)) hb); clear HB; have HB := n0_; clear n0_; (try clear hb); (try clear hb2); (try clear hk); (try clear hi)) | ((with_reducible refine gate_callee (f := 16) rfl ?_); refine goesL_ (some 30) rfl rfl Try.func16 (by kernel_rfl) rfl #[.slice A0 l0.length c0] rfl (by (try simp only [List.map_toArray, List.map_cons, List.map_nil]); first | done | rfl | (simp only [List.length_drop, List.length_take]; rfl)) ?_; (with_reducible refine (shelfmarkref10_Pack.calls kj4 _ _ l0 t245 t246 _ ?side1 ?side2 A14.out).mono ?_); (case side1 => repeat (first | exact (Kd.C_below HR0.out HB.out) | (with_reducible refine Kd.C_alloc ?_ _) | (with_reducible refine Kd.C_drewN ?_ _) | (with_reducible refine Kd.C_drew ?_))); (case side2 => exact HC0.out); rintro e w35 ⟨rfl, hb⟩; refine ⟨_, rfl, ?_⟩; have n0_ := Aside0.mk (below_step (by repeat (first | (with_reducible first | exact HB.out | apply below_alloc | apply pw_below_drewN | apply below_drew1) | exact HB.out)) hb); clear HB; have HB := n0_; clear n0_; (try clear hb); (try clear hb2); (try clear hk); (try clear hi)) | ((with_reducible refine gate_dst (N := 11) rfl ?_); (try (refine gate_guard (by rfl) ?_; dsimp only)); refine box_event ?hg (N := 11) ?hd (cs := #[.string (⟨#[]⟩ : ByteArray), .int .i64 0]) (t := 33) ?hr ?_; (case hd => rfl); (case hg => rfl); (case hr => first | (go_simp; done) | (go_simp; rfl)); intro gb247 hg w36 hbox hb; have n0_ := Aside0.mk (below_step (by repeat (first | (with_reducible first | exact HB.out | apply below_alloc | apply pw_below_drewN | apply below_drew1) | exact HB.out)) hb); have n1_ := Aside0.mk (hbox); have n2_ := Aside0.mk ((by rw [hg]; exact (below_size (by repeat (first | (with_reducible first | exact HB.out | apply below_alloc | apply pw_below_drewN | apply below_drew1) | exact HB.out))) : w.heap.size ≤ gb247)); have n3_ := Aside0.mk ((by rw [hg]; exact (below_size (by repeat (first | (with_reducible first | exact HB.out | apply below_alloc | apply pw_below_drewN | apply below_drew1) | exact HB.out))) : w.heap.size ≤ gb247)); clear HB; have HB := n0_; have BK247 := n1_; have GW247 := n2_; have GE247 := n3_; clear n0_ n1_ n2_ n3_; clear hb hbox hg; have hcz37_0 : w36.cell? ⟨gb247, 0, none⟩ = some (.string (⟨#[]⟩ : ByteArray)) := (blk_cell BK247.out 0).trans rfl; have hcz37_1 : w36.cell? ⟨gb247, 1, none⟩ = some (.int .i64 0) := (blk_cell BK247.out 1).trans rfl; have hfz37_0 := blk_frozen BK247.out 0; have hfz37_1 := blk_frozen BK247.out 1))
                      have n0_ : Aside0 (((w36.setCell ⟨gb247, 0, none⟩ (.string t245)).setCell ⟨gb247, 1, none⟩ (.int .i64 t246)).heap[gb247]? = some (.cells #[.string t245, .int .i64 t246] 33 (0, 0))) := ⟨by (with_reducible repeat (first | refine blk_drewN ?_ _ | refine blk_drew ?_ | refine blk_alloc ?_ _)); refine blk_put (cs := #[.string t245, .int .i64 0]) ?_ 1 _ rfl; (with_reducible repeat (first | refine blk_drewN ?_ _ | refine blk_drew ?_ | refine blk_alloc ?_ _)); refine blk_put (cs := #[.string (⟨#[]⟩ : ByteArray), .int .i64 0]) ?_ 0 _ rfl; (with_reducible repeat (first | refine blk_drewN ?_ _ | refine blk_drew ?_ | refine blk_alloc ?_ _)); exact BK247.out⟩
                      have n1_ : Aside0 (Below w.heap.size w ((w36.setCell ⟨gb247, 0, none⟩ (.string t245)).setCell ⟨gb247, 1, none⟩ (.int .i64 t246))) := ⟨by repeat (first | (with_reducible first | exact HB.out | apply below_alloc | apply pw_below_drewN | apply below_drew1 | refine below_set ?_ GE247.out) | exact HB.out)⟩
                      (try clear BK247)
                      (try clear HB)
                      generalize ((w36.setCell ⟨gb247, 0, none⟩ (.string t245)).setCell ⟨gb247, 1, none⟩ (.int .i64 t246)) = w38 at n0_ n1_ ⊢
                      have BK247 := n0_
                      have HB := n1_
                      clear n0_ n1_
                      have n0_ := Aside0.mk (blk_drew BK247.out)
                      have n1_ := Aside0.mk (below_drew1 HB.out)
                      clear BK247
                      clear HB
                      have BK247 := n0_
                      have HB := n1_
                      clear n0_ n1_
                      refine start_ (n := 52) (S := fun w' => w'.cell? ⟨gb247, 0, none⟩ = some (.string t245) ∧ w'.cell? ⟨gb247, 1, none⟩ = some (.int .i64 t246)) (ds := []) #[false, false, false, false, false, false, false, false, false, false, false, false, false, false, false, false, false, false, false, false, false, false, false, false, false, false, false, false, false, false, false, false, false, false, false, false, false, false, false, false, false, false, false, false, false, false, false, false, false, false, false, false] (by kernel_rfl) rfl rfl ⟨(blk_cell BK247.out 0).trans rfl, (blk_cell BK247.out 1).trans rfl⟩ (fun hHeld => ?_); refine with_tabW shelfmarklaw10_NarAll.tab5 shelfmarklaw10_NarAll.bits5 (fun HT_ HW_ => ?_)
                      generalize w38.drew = w39 at BK247 HB hHeld ⊢
                      refine pure_ (i := 0) (N := some 31) (v := ?_) (a' := ?_) #[true, false, false, false, false, false, false, false, false, false, false, false, false, false, false, false, false, false, false, false, false, false, false, false, false, false, false, false, false, false, false, false, false, false, false, false, false, false, false, false, false, false, false, false, false, false, false, false, false, false, false, false] rfl rfl (any_of HT_.out (by kernel_rfl)) (fun _ _ _ h => h) (Or.inl ⟨by rfl, ?_⟩) ?_ ?_
                      rotate_left
                      · intro w'
                        go_simp
                        with_reducible rfl
                      rotate_left
                      · simp only [Act.put, List.setIfInBounds_toArray, List.set_cons_zero, List.set_cons_succ, i64_w, i32_w]
                        rfl
                      refine pure_ (i := 2) (N := some 33) (v := ?_) (a' := ?_) #[true, false, true, false, false, false, false, false, false, false, false, false, false, false, false, false, false, false, false, false, false, false, false, false, false, false, false, false, false, false, false, false, false, false, false, false, false, false, false, false, false, false, false, false, false, false, false, false, false, false, false, false] rfl rfl (any_of HT_.out (by kernel_rfl)) (fun _ _ _ h => h) (Or.inl ⟨by rfl, ?_⟩) ?_ ?_
                      rotate_left
                      · intro w'
                        go_simp
                        with_reducible rfl
                      rotate_left
                      · simp only [Act.put, List.setIfInBounds_toArray, List.set_cons_zero, List.set_cons_succ, i64_w, i32_w]
                        rfl
                      refine one_ (i := 1) (N := some 32) #[true, true, true, false, false, false, false, false, false, false, false, false, false, false, false, false, false, false, false, false, false, false, false, false, false, false, false, false, false, false, false, false, false, false, false, false, false, false, false, false, false, false, false, false, false, false, false, false, false, false, false, false] rfl rfl (one_of HT_.out (by kernel_rfl)) (by decide) (fun K hK => ?_)
                      refine goes_ Try.func14 (by kernel_rfl) rfl #[.slice A0 l0.length c0] (by rfl) rfl rfl (by (try simp only [List.map_toArray, List.map_cons, List.map_nil]); first | done | rfl | (simp only [List.length_drop, List.length_take]; rfl)) ?_
                      with_reducible refine (nar_May.calls kj4 _ _ l0 t248 _ ?side1 ?side2 A15.out).mono ?_
                      (case side1 => repeat (first | exact (Kd.C_below HR0.out HB.out) | (with_reducible refine Kd.C_alloc ?_ _) | (with_reducible refine Kd.C_drewN ?_ _) | (with_reducible refine Kd.C_drew ?_)))
                      (case side2 => exact HC0.out)
                      rintro e w40 ⟨rfl, hb⟩
                      refine ⟨_, rfl, ?_⟩
                      have n0_ := Aside0.mk (blk_below (by first | exact BK247.out | exact blk_drewN BK247.out _ | exact blk_drew BK247.out) hb)
                      have n1_ := Aside0.mk (below_step (by repeat (first | (with_reducible first | exact HB.out | apply below_alloc | apply pw_below_drewN | apply below_drew1 | refine below_set ?_ GE247.out) | exact HB.out)) hb)
                      clear BK247
                      clear HB
                      have BK247 := n0_
                      have HB := n1_
                      clear n0_ n1_
                      (try clear hb)
                      (try clear hb2)
                      (try clear hk)
                      (try clear hi)
                      refine hK.out _ _ ⟨(blk_cell BK247.out 0).trans rfl, (blk_cell BK247.out 1).trans rfl⟩ (fun hHeld => ?_)
                      clear hK K
                      refine norm_ (a' := ?_) ?_ ?_
                      rotate_left
                      · show Act.put _ (some 32) _ = _
                        simp only [Act.put, List.setIfInBounds_toArray, List.set_cons_zero, List.set_cons_succ, i64_w, i32_w]
                        rfl
                      refine one_ (i := 3) (N := some 34) #[true, true, true, true, false, false, false, false, false, false, false, false, false, false, false, false, false, false, false, false, false, false, false, false, false, false, false, false, false, false, false, false, false, false, false, false, false, false, false, false, false, false, false, false, false, false, false, false, false, false, false, false] rfl rfl (one_of HT_.out (by kernel_rfl)) (by decide) (fun K hK => ?_)
                      refine goes_ Try.func20 (by kernel_rfl) rfl #[.slice A0 l0.length c0] (by rfl) rfl rfl (by (try simp only [List.map_toArray, List.map_cons, List.map_nil]); first | done | rfl | (simp only [List.length_drop, List.length_take]; rfl)) ?_
                      with_reducible refine (shelfmarkref10_May.calls kj4 _ _ l0 t249 _ ?side1 ?side2 A16.out).mono ?_
                      (case side1 => repeat (first | exact (Kd.C_below HR0.out HB.out) | (with_reducible refine Kd.C_alloc ?_ _) | (with_reducible refine Kd.C_drewN ?_ _) | (with_reducible refine Kd.C_drew ?_)))
                      (case side2 => exact HC0.out)
                      rintro e w41 ⟨rfl, hb⟩
                      refine ⟨_, rfl, ?_⟩
                      have n0_ := Aside0.mk (blk_below (by first | exact BK247.out | exact blk_drewN BK247.out _ | exact blk_drew BK247.out) hb)
                      have n1_ := Aside0.mk (below_step (by repeat (first | (with_reducible first | exact HB.out | apply below_alloc | apply pw_below_drewN | apply below_drew1 | refine below_set ?_ GE247.out) | exact HB.out)) hb)
                      clear BK247
                      clear HB
                      have BK247 := n0_
                      have HB := n1_
                      clear n0_ n1_
                      (try clear hb)
                      (try clear hb2)
                      (try clear hk)
                      (try clear hi)
                      refine hK.out _ _ ⟨(blk_cell BK247.out 0).trans rfl, (blk_cell BK247.out 1).trans rfl⟩ (fun hHeld => ?_)
                      clear hK K
                      refine norm_ (a' := ?_) ?_ ?_
                      rotate_left
                      · show Act.put _ (some 34) _ = _
                        simp only [Act.put, List.setIfInBounds_toArray, List.set_cons_zero, List.set_cons_succ, i64_w, i32_w]
                        rfl
                      refine pure_ (i := 4) (N := some 35) (v := ?_) (a' := ?_) #[true, true, true, true, true, false, false, false, false, false, false, false, false, false, false, false, false, false, false, false, false, false, false, false, false, false, false, false, false, false, false, false, false, false, false, false, false, false, false, false, false, false, false, false, false, false, false, false, false, false, false, false] rfl rfl (any_of HT_.out (by kernel_rfl)) (fun _ _ _ h => h) (Or.inl ⟨by rfl, ?_⟩) ?_ ?_
                      rotate_left
                      · intro w'
                        go_simp
                        with_reducible rfl
                      rotate_left
                      · simp only [Act.put, List.setIfInBounds_toArray, List.set_cons_zero, List.set_cons_succ, i64_w, i32_w]
                        rfl
                      refine pure_ (i := 5) (N := some 36) (v := ?_) (a' := ?_) #[true, true, true, true, true, true, false, false, false, false, false, false, false, false, false, false, false, false, false, false, false, false, false, false, false, false, false, false, false, false, false, false, false, false, false, false, false, false, false, false, false, false, false, false, false, false, false, false, false, false, false, false] rfl rfl (any_of HT_.out (by kernel_rfl)) (fun _ _ _ h => h) (Or.inl ⟨by rfl, ?_⟩) ?_ ?_
                      rotate_left
                      · intro w'
                        go_simp
                        with_reducible rfl
                      rotate_left
                      · simp only [Act.put, List.setIfInBounds_toArray, List.set_cons_zero, List.set_cons_succ, i64_w, i32_w]
                        rfl
                      refine pure_ (i := 6) (N := some 37) (v := ?_) (a' := ?_) #[true, true, true, true, true, true, true, false, false, false, false, false, false, false, false, false, false, false, false, false, false, false, false, false, false, false, false, false, false, false, false, false, false, false, false, false, false, false, false, false, false, false, false, false, false, false, false, false, false, false, false, false] rfl rfl (any_of HT_.out (by kernel_rfl)) (fun _ _ _ h => h) (Or.inl ⟨by rfl, ?_⟩) ?_ ?_
                      rotate_left
                      · intro w'
                        go_simp
                        with_reducible rfl
                      rotate_left
                      · simp only [Act.put, List.setIfInBounds_toArray, List.set_cons_zero, List.set_cons_succ, i64_w, i32_w]
                        rfl
                      refine pure_ (i := 7) (N := some 38) (v := ?_) (a' := ?_) #[true, true, true, true, true, true, true, true, false, false, false, false, false, false, false, false, false, false, false, false, false, false, false, false, false, false, false, false, false, false, false, false, false, false, false, false, false, false, false, false, false, false, false, false, false, false, false, false, false, false, false, false] rfl rfl (any_of HT_.out (by kernel_rfl)) (fun _ _ _ h => h) (Or.inl ⟨by rfl, ?_⟩) ?_ ?_
                      rotate_left
                      · intro w'
                        go_simp
                        with_reducible rfl
                      rotate_left
                      · simp only [Act.put, List.setIfInBounds_toArray, List.set_cons_zero, List.set_cons_succ, i64_w, i32_w]
                        rfl
                      refine take_ (i := 8) (N := some 39) (v := ?_) (a' := ?_) #[true, true, true, true, true, true, true, true, true, false, false, false, false, false, false, false, false, false, false, false, false, false, false, false, false, false, false, false, false, false, false, false, false, false, false, false, false, false, false, false, false, false, false, false, false, false, false, false, false, false, false, false] rfl rfl (take_ofW HT_.out HW_.out (by kernel_rfl)) (fun _ _ _ h => h) (Or.inl ⟨by rfl, ?_⟩) hHeld ?_ ?_
                      rotate_left
                      · rintro w' ⟨s0, s1⟩
                        go_simp
                        with_reducible rfl
                      rotate_left
                      · simp only [Act.put, List.setIfInBounds_toArray, List.set_cons_zero, List.set_cons_succ, i64_w, i32_w]
                        rfl
                      refine pure_ (i := 9) (N := some 40) (v := ?_) (a' := ?_) #[true, true, true, true, true, true, true, true, true, true, false, false, false, false, false, false, false, false, false, false, false, false, false, false, false, false, false, false, false, false, false, false, false, false, false, false, false, false, false, false, false, false, false, false, false, false, false, false, false, false, false, false] rfl rfl (any_of HT_.out (by kernel_rfl)) (fun _ _ _ h => h) (Or.inl ⟨by rfl, ?_⟩) ?_ ?_
                      rotate_left
                      · intro w'
                        go_simp
                        with_reducible rfl
                      rotate_left
                      · simp only [Act.put, List.setIfInBounds_toArray, List.set_cons_zero, List.set_cons_succ, i64_w, i32_w]
                        rfl
                      refine pure_ (i := 10) (N := some 41) (v := ?_) (a' := ?_) #[true, true, true, true, true, true, true, true, true, true, true, false, false, false, false, false, false, false, false, false, false, false, false, false, false, false, false, false, false, false, false, false, false, false, false, false, false, false, false, false, false, false, false, false, false, false, false, false, false, false, false, false] rfl rfl (any_of HT_.out (by kernel_rfl)) (fun _ _ _ h => h) (Or.inl ⟨by rfl, ?_⟩) ?_ ?_
                      rotate_left
                      · intro w'
                        go_simp
                        with_reducible rfl
                      rotate_left
                      · simp only [Act.put, List.setIfInBounds_toArray, List.set_cons_zero, List.set_cons_succ, i64_w, i32_w]
                        rfl
                      refine pure_ (i := 11) (N := some 42) (v := ?_) (a' := ?_) #[true, true, true, true, true, true, true, true, true, true, true, true, false, false, false, false, false, false, false, false, false, false, false, false, false, false, false, false, false, false, false, false, false, false, false, false, false, false, false, false, false, false, false, false, false, false, false, false, false, false, false, false] rfl rfl (any_of HT_.out (by kernel_rfl)) (fun _ _ _ h => h) (Or.inl ⟨by rfl, ?_⟩) ?_ ?_
                      rotate_left
                      · intro w'
                        go_simp
                        with_reducible rfl
                      rotate_left
                      · simp only [Act.put, List.setIfInBounds_toArray, List.set_cons_zero, List.set_cons_succ, i64_w, i32_w]
                        rfl
                      refine pure_ (i := 12) (N := some 43) (v := ?_) (a' := ?_) #[true, true, true, true, true, true, true, true, true, true, true, true, true, false, false, false, false, false, false, false, false, false, false, false, false, false, false, false, false, false, false, false, false, false, false, false, false, false, false, false, false, false, false, false, false, false, false, false, false, false, false, false] rfl rfl (any_of HT_.out (by kernel_rfl)) (fun _ _ _ h => h) (Or.inl ⟨by rfl, ?_⟩) ?_ ?_
                      rotate_left
                      · intro w'
                        go_simp
                        with_reducible rfl
                      rotate_left
                      · simp only [Act.put, List.setIfInBounds_toArray, List.set_cons_zero, List.set_cons_succ, i64_w, i32_w]
                        rfl
                      refine pure_ (i := 14) (N := some 45) (v := ?_) (a' := ?_) #[true, true, true, true, true, true, true, true, true, true, true, true, true, false, true, false, false, false, false, false, false, false, false, false, false, false, false, false, false, false, false, false, false, false, false, false, false, false, false, false, false, false, false, false, false, false, false, false, false, false, false, false] rfl rfl (any_of HT_.out (by kernel_rfl)) (fun _ _ _ h => h) (Or.inl ⟨by rfl, ?_⟩) ?_ ?_
                      rotate_left
                      · intro w'
                        go_simp
                        with_reducible rfl
                      rotate_left
                      · simp only [Act.put, List.setIfInBounds_toArray, List.set_cons_zero, List.set_cons_succ, i64_w, i32_w]
                        rfl
                      refine take_ (i := 15) (N := some 46) (v := ?_) (a' := ?_) #[true, true, true, true, true, true, true, true, true, true, true, true, true, false, true, true, false, false, false, false, false, false, false, false, false, false, false, false, false, false, false, false, false, false, false, false, false, false, false, false, false, false, false, false, false, false, false, false, false, false, false, false] rfl rfl (take_ofW HT_.out HW_.out (by kernel_rfl)) (fun _ _ _ h => h) (Or.inl ⟨by rfl, ?_⟩) hHeld ?_ ?_
                      rotate_left
                      · rintro w' ⟨s0, s1⟩
                        go_simp
                        with_reducible rfl
                      rotate_left
                      · simp only [Act.put, List.setIfInBounds_toArray, List.set_cons_zero, List.set_cons_succ, i64_w, i32_w]
                        rfl
                      refine one_ (i := 13) (N := some 44) #[true, true, true, true, true, true, true, true, true, true, true, true, true, true, true, true, false, false, false, false, false, false, false, false, false, false, false, false, false, false, false, false, false, false, false, false, false, false, false, false, false, false, false, false, false, false, false, false, false, false, false, false] rfl rfl (one_of HT_.out (by kernel_rfl)) (by decide) (fun K hK => ?_)
                      refine goes_ Try.func15 (by kernel_rfl) rfl #[.int .i64 t244] (by rfl) rfl rfl (by (try simp only [List.map_toArray, List.map_cons, List.map_nil]); first | done | rfl | (simp only [List.length_drop, List.length_take]; rfl)) ?_
                      with_reducible refine (shelfmarklaw1_Err.calls t244 t250 _ A19.out).mono ?_
                      rintro e w' ⟨rfl, ⟨nd, rfl⟩⟩
                      refine ⟨_, rfl, ?_⟩
                      refine hK.out _ _ ⟨(blk_cell BK247.out 0).trans rfl, (blk_cell BK247.out 1).trans rfl⟩ (fun hHeld => ?_)
                      clear hK K
                      refine norm_ (a' := ?_) ?_ ?_
                      rotate_left
                      · show Act.put _ (some 44) _ = _
                        simp only [Act.put, List.setIfInBounds_toArray, List.set_cons_zero, List.set_cons_succ, i64_w, i32_w]
                        rfl
                      refine pure_ (i := 16) (N := some 47) (v := ?_) (a' := ?_) #[true, true, true, true, true, true, true, true, true, true, true, true, true, true, true, true, true, false, false, false, false, false, false, false, false, false, false, false, false, false, false, false, false, false, false, false, false, false, false, false, false, false, false, false, false, false, false, false, false, false, false, false] rfl rfl (any_of HT_.out (by kernel_rfl)) (fun _ _ _ h => h) (Or.inl ⟨by rfl, ?_⟩) ?_ ?_
                      rotate_left
                      · intro w'
                        go_simp
                        with_reducible rfl
                      rotate_left
                      · simp only [Act.put, List.setIfInBounds_toArray, List.set_cons_zero, List.set_cons_succ, i64_w, i32_w]
                        rfl
                      refine pure_ (i := 17) (N := some 48) (v := ?_) (a' := ?_) #[true, true, true, true, true, true, true, true, true, true, true, true, true, true, true, true, true, true, false, false, false, false, false, false, false, false, false, false, false, false, false, false, false, false, false, false, false, false, false, false, false, false, false, false, false, false, false, false, false, false, false, false] rfl rfl (any_of HT_.out (by kernel_rfl)) (fun _ _ _ h => h) (Or.inl ⟨by rfl, ?_⟩) ?_ ?_
                      rotate_left
                      · intro w'
                        go_simp
                        with_reducible rfl
                      rotate_left
                      · simp only [Act.put, List.setIfInBounds_toArray, List.set_cons_zero, List.set_cons_succ, i64_w, i32_w]
                        rfl
                      refine pure_ (i := 18) (N := some 49) (v := ?_) (a' := ?_) #[true, true, true, true, true, true, true, true, true, true, true, true, true, true, true, true, true, true, true, false, false, false, false, false, false, false, false, false, false, false, false, false, false, false, false, false, false, false, false, false, false, false, false, false, false, false, false, false, false, false, false, false] rfl rfl (any_of HT_.out (by kernel_rfl)) (fun _ _ _ h => h) (Or.inl ⟨by rfl, ?_⟩) ?_ ?_
                      rotate_left
                      · intro w'
                        go_simp
                        with_reducible rfl
                      rotate_left
                      · simp only [Act.put, List.setIfInBounds_toArray, List.set_cons_zero, List.set_cons_succ, i64_w, i32_w]
                        rfl
                      refine pure_ (i := 19) (N := some 50) (v := ?_) (a' := ?_) #[true, true, true, true, true, true, true, true, true, true, true, true, true, true, true, true, true, true, true, true, false, false, false, false, false, false, false, false, false, false, false, false, false, false, false, false, false, false, false, false, false, false, false, false, false, false, false, false, false, false, false, false] rfl rfl (any_of HT_.out (by kernel_rfl)) (fun _ _ _ h => h) (Or.inl ⟨by rfl, ?_⟩) ?_ ?_
                      rotate_left
                      · intro w'
                        go_simp
                        with_reducible rfl
                      rotate_left
                      · simp only [Act.put, List.setIfInBounds_toArray, List.set_cons_zero, List.set_cons_succ, i64_w, i32_w]
                        rfl
                      refine pure_ (i := 21) (N := some 52) (v := ?_) (a' := ?_) #[true, true, true, true, true, true, true, true, true, true, true, true, true, true, true, true, true, true, true, true, false, true, false, false, false, false, false, false, false, false, false, false, false, false, false, false, false, false, false, false, false, false, false, false, false, false, false, false, false, false, false, false] rfl rfl (any_of HT_.out (by kernel_rfl)) (fun _ _ _ h => h) (Or.inl ⟨by rfl, ?_⟩) ?_ ?_
                      rotate_left
                      · intro w'
                        go_simp
                        with_reducible rfl
                      rotate_left
                      · simp only [Act.put, List.setIfInBounds_toArray, List.set_cons_zero, List.set_cons_succ, i64_w, i32_w]
                        rfl
                      refine one_ (i := 20) (N := some 51) #[true, true, true, true, true, true, true, true, true, true, true, true, true, true, true, true, true, true, true, true, true, true, false, false, false, false, false, false, false, false, false, false, false, false, false, false, false, false, false, false, false, false, false, false, false, false, false, false, false, false, false, false] rfl rfl (one_of HT_.out (by kernel_rfl)) (by decide) (fun K hK => ?_)
                      refine goes_ Try.func21 (by kernel_rfl) rfl #[.string a2] (by rfl) rfl rfl (by (try simp only [List.map_toArray, List.map_cons, List.map_nil]); first | done | rfl | (simp only [List.length_drop, List.length_take]; rfl)) ?_
                      with_reducible refine (nar_MayName.calls a2 t251 _ A21.out).mono ?_
                      rintro e w42 ⟨rfl, hb⟩
                      refine ⟨_, rfl, ?_⟩
                      have n0_ := Aside0.mk (blk_below (by first | exact BK247.out | exact blk_drewN BK247.out _ | exact blk_drew BK247.out) hb)
                      have n1_ := Aside0.mk (below_step (by repeat (first | (with_reducible first | exact HB.out | apply below_alloc | apply pw_below_drewN | apply below_drew1 | refine below_set ?_ GE247.out) | exact HB.out)) hb)
                      clear BK247
                      clear HB
                      have BK247 := n0_
                      have HB := n1_
                      clear n0_ n1_
                      (try clear hb)
                      (try clear hb2)
                      (try clear hk)
                      (try clear hi)
                      refine hK.out _ _ ⟨(blk_cell BK247.out 0).trans rfl, (blk_cell BK247.out 1).trans rfl⟩ (fun hHeld => ?_)
                      clear hK K
                      refine norm_ (a' := ?_) ?_ ?_
                      rotate_left
                      · show Act.put _ (some 51) _ = _
                        simp only [Act.put, List.setIfInBounds_toArray, List.set_cons_zero, List.set_cons_succ, i64_w, i32_w]
                        rfl
                      refine one_ (i := 22) (N := some 53) #[true, true, true, true, true, true, true, true, true, true, true, true, true, true, true, true, true, true, true, true, true, true, true, false, false, false, false, false, false, false, false, false, false, false, false, false, false, false, false, false, false, false, false, false, false, false, false, false, false, false, false, false] rfl rfl (one_of HT_.out (by kernel_rfl)) (by decide) (fun K hK => ?_)
                      refine goes_ Try.func22 (by kernel_rfl) rfl #[.string a2] (by rfl) rfl rfl (by (try simp only [List.map_toArray, List.map_cons, List.map_nil]); first | done | rfl | (simp only [List.length_drop, List.length_take]; rfl)) ?_
                      with_reducible refine (shelfmarkref10_MayName.calls kj4 a2 t252 _ A22.out).mono ?_
                      rintro e w' ⟨rfl, ⟨nd, rfl⟩⟩
                      refine ⟨_, rfl, ?_⟩
                      refine hK.out _ _ ⟨(blk_cell BK247.out 0).trans rfl, (blk_cell BK247.out 1).trans rfl⟩ (fun hHeld => ?_)
                      clear hK K
                      refine norm_ (a' := ?_) ?_ ?_
                      rotate_left
                      · show Act.put _ (some 53) _ = _
                        simp only [Act.put, List.setIfInBounds_toArray, List.set_cons_zero, List.set_cons_succ, i64_w, i32_w]
                        rfl
                      refine pure_ (i := 23) (N := some 54) (v := ?_) (a' := ?_) #[true, true, true, true, true, true, true, true, true, true, true, true, true, true, true, true, true, true, true, true, true, true, true, true, false, false, false, false, false, false, false, false, false, false, false, false, false, false, false, false, false, false, false, false, false, false, false, false, false, false, false, false] rfl rfl (any_of HT_.out (by kernel_rfl)) (fun _ _ _ h => h) (Or.inl ⟨by rfl, ?_⟩) ?_ ?_
                      rotate_left
                      · intro w'
                        go_simp
                        with_reducible rfl
                      rotate_left
                      · simp only [Act.put, List.setIfInBounds_toArray, List.set_cons_zero, List.set_cons_succ, i64_w, i32_w]
                        rfl
                      refine pure_ (i := 24) (N := some 55) (v := ?_) (a' := ?_) #[true, true, true, true, true, true, true, true, true, true, true, true, true, true, true, true, true, true, true, true, true, true, true, true, true, false, false, false, false, false, false, false, false, false, false, false, false, false, false, false, false, false, false, false, false, false, false, false, false, false, false, false] rfl rfl (any_of HT_.out (by kernel_rfl)) (fun _ _ _ h => h) (Or.inl ⟨by rfl, ?_⟩) ?_ ?_
                      rotate_left
                      · intro w'
                        go_simp
                        with_reducible rfl
                      rotate_left
                      · simp only [Act.put, List.setIfInBounds_toArray, List.set_cons_zero, List.set_cons_succ, i64_w, i32_w]
                        rfl
                      refine pure_ (i := 25) (N := some 56) (v := ?_) (a' := ?_) #[true, true, true, true, true, true, true, true, true, true, true, true, true, true, true, true, true, true, true, true, true, true, true, true, true, true, false, false, false, false, false, false, false, false, false, false, false, false, false, false, false, false, false, false, false, false, false, false, false, false, false, false] rfl rfl (any_of HT_.out (by kernel_rfl)) (fun _ _ _ h => h) (Or.inl ⟨by rfl, ?_⟩) ?_ ?_
                      rotate_left
                      · intro w'
                        go_simp
                        with_reducible rfl
                      rotate_left
                      · simp only [Act.put, List.setIfInBounds_toArray, List.set_cons_zero, List.set_cons_succ, i64_w, i32_w]
                        rfl
                      refine pure_ (i := 26) (N := some 57) (v := ?_) (a' := ?_) #[true, true, true, true, true, true, true, true, true, true, true, true, true, true, true, true, true, true, true, true, true, true, true, true, true, true, true, false, false, false, false, false, false, false, false, false, false, false, false, false, false, false, false, false, false, false, false, false, false, false, false, false] rfl rfl (any_of HT_.out (by kernel_rfl)) (fun _ _ _ h => h) (Or.inl ⟨by rfl, ?_⟩) ?_ ?_
                      rotate_left
                      · intro w'
                        go_simp
                        with_reducible rfl
                      rotate_left
                      · simp only [Act.put, List.setIfInBounds_toArray, List.set_cons_zero, List.set_cons_succ, i64_w, i32_w]
                        rfl
                      refine pure_ (i := 28) (N := some 59) (v := ?_) (a' := ?_) #[true, true, true, true, true, true, true, true, true, true, true, true, true, true, true, true, true, true, true, true, true, true, true, true, true, true, true, false, true, false, false, false, false, false, false, false, false, false, false, false, false, false, false, false, false, false, false, false, false, false, false, false] rfl rfl (any_of HT_.out (by kernel_rfl)) (fun _ _ _ h => h) (Or.inl ⟨by rfl, ?_⟩) ?_ ?_
                      rotate_left
                      · intro w'
                        go_simp
                        with_reducible rfl
                      rotate_left
                      · simp only [Act.put, List.setIfInBounds_toArray, List.set_cons_zero, List.set_cons_succ, i64_w, i32_w]
                        rfl
                      refine one_ (i := 27) (N := some 58) #[true, true, true, true, true, true, true, true, true, true, true, true, true, true, true, true, true, true, true, true, true, true, true, true, true, true, true, true, true, false, false, false, false, false, false, false, false, false, false, false, false, false, false, false, false, false, false, false, false, false, false, false] rfl rfl (one_of HT_.out (by kernel_rfl)) (by decide) (fun K hK => ?_)
                      refine goes_ Try.func23 (by kernel_rfl) rfl #[.int .i64 a3] (by rfl) rfl rfl (by (try simp only [List.map_toArray, List.map_cons, List.map_nil]); first | done | rfl | (simp only [List.length_drop, List.length_take]; rfl)) ?_
                      with_reducible refine (nar_Word.calls kj4 a3 t253 _ A24.out).mono ?_
                      rintro e w43 ⟨rfl, hb⟩
                      refine ⟨_, rfl, ?_⟩
                      have n0_ := Aside0.mk (blk_below (by first | exact BK247.out | exact blk_drewN BK247.out _ | exact blk_drew BK247.out) hb)
                      have n1_ := Aside0.mk (below_step (by repeat (first | (with_reducible first | exact HB.out | apply below_alloc | apply pw_below_drewN | apply below_drew1 | refine below_set ?_ GE247.out) | exact HB.out)) hb)
                      clear BK247
                      clear HB
                      have BK247 := n0_
                      have HB := n1_
                      clear n0_ n1_
                      (try clear hb)
                      (try clear hb2)
                      (try clear hk)
                      (try clear hi)
                      refine hK.out _ _ ⟨(blk_cell BK247.out 0).trans rfl, (blk_cell BK247.out 1).trans rfl⟩ (fun hHeld => ?_)
                      clear hK K
                      refine norm_ (a' := ?_) ?_ ?_
                      rotate_left
                      · show Act.put _ (some 58) _ = _
                        simp only [Act.put, List.setIfInBounds_toArray, List.set_cons_zero, List.set_cons_succ, i64_w, i32_w]
                        rfl
                      refine one_ (i := 29) (N := some 60) #[true, true, true, true, true, true, true, true, true, true, true, true, true, true, true, true, true, true, true, true, true, true, true, true, true, true, true, true, true, true, false, false, false, false, false, false, false, false, false, false, false, false, false, false, false, false, false, false, false, false, false, false] rfl rfl (one_of HT_.out (by kernel_rfl)) (by decide) (fun K hK => ?_)
                      refine goes_ Try.func24 (by kernel_rfl) rfl #[.int .i64 a3] (by rfl) rfl rfl (by (try simp only [List.map_toArray, List.map_cons, List.map_nil]); first | done | rfl | (simp only [List.length_drop, List.length_take]; rfl)) ?_
                      with_reducible refine (shelfmarkref10_Word.calls kj4 a3 t254 _ A25.out).mono ?_
                      rintro e w44 ⟨rfl, hb⟩
                      refine ⟨_, rfl, ?_⟩
                      have n0_ := Aside0.mk (blk_below (by first | exact BK247.out | exact blk_drewN BK247.out _ | exact blk_drew BK247.out) hb)
                      have n1_ := Aside0.mk (below_step (by repeat (first | (with_reducible first | exact HB.out | apply below_alloc | apply pw_below_drewN | apply below_drew1 | refine below_set ?_ GE247.out) | exact HB.out)) hb)
                      clear BK247
                      clear HB
                      have BK247 := n0_
                      have HB := n1_
                      clear n0_ n1_
                      (try clear hb)
                      (try clear hb2)
                      (try clear hk)
                      (try clear hi)
                      refine hK.out _ _ ⟨(blk_cell BK247.out 0).trans rfl, (blk_cell BK247.out 1).trans rfl⟩ (fun hHeld => ?_)
                      clear hK K
                      refine norm_ (a' := ?_) ?_ ?_
                      rotate_left
                      · show Act.put _ (some 60) _ = _
                        simp only [Act.put, List.setIfInBounds_toArray, List.set_cons_zero, List.set_cons_succ, i64_w, i32_w]
                        rfl
                      refine pure_ (i := 30) (N := some 61) (v := ?_) (a' := ?_) #[true, true, true, true, true, true, true, true, true, true, true, true, true, true, true, true, true, true, true, true, true, true, true, true, true, true, true, true, true, true, true, false, false, false, false, false, false, false, false, false, false, false, false, false, false, false, false, false, false, false, false, false] rfl rfl (any_of HT_.out (by kernel_rfl)) (fun _ _ _ h => h) (Or.inl ⟨by rfl, ?_⟩) ?_ ?_
                      rotate_left
                      · intro w'
                        go_simp
                        with_reducible rfl
                      rotate_left
                      · simp only [Act.put, List.setIfInBounds_toArray, List.set_cons_zero, List.set_cons_succ, i64_w, i32_w]
                        rfl
                      refine pure_ (i := 31) (N := some 62) (v := ?_) (a' := ?_) #[true, true, true, true, true, true, true, true, true, true, true, true, true, true, true, true, true, true, true, true, true, true, true, true, true, true, true, true, true, true, true, true, false, false, false, false, false, false, false, false, false, false, false, false, false, false, false, false, false, false, false, false] rfl rfl (any_of HT_.out (by kernel_rfl)) (fun _ _ _ h => h) (Or.inl ⟨by rfl, ?_⟩) ?_ ?_
                      rotate_left
                      · intro w'
                        go_simp
                        with_reducible rfl
                      rotate_left
                      · simp only [Act.put, List.setIfInBounds_toArray, List.set_cons_zero, List.set_cons_succ, i64_w, i32_w]
                        rfl
                      refine pure_ (i := 32) (N := some 63) (v := ?_) (a' := ?_) #[true, true, true, true, true, true, true, true, true, true, true, true, true, true, true, true, true, true, true, true, true, true, true, true, true, true, true, true, true, true, true, true, true, false, false, false, false, false, false, false, false, false, false, false, false, false, false, false, false, false, false, false] rfl rfl (any_of HT_.out (by kernel_rfl)) (fun _ _ _ h => h) (Or.inl ⟨by rfl, ?_⟩) ?_ ?_
                      rotate_left
                      · intro w'
                        go_simp
                        with_reducible rfl
                      rotate_left
                      · simp only [Act.put, List.setIfInBounds_toArray, List.set_cons_zero, List.set_cons_succ, i64_w, i32_w]
                        rfl
                      refine pure_ (i := 33) (N := some 64) (v := ?_) (a' := ?_) #[true, true, true, true, true, true, true, true, true, true, true, true, true, true, true, true, true, true, true, true, true, true, true, true, true, true, true, true, true, true, true, true, true, true, false, false, false, false, false, false, false, false, false, false, false, false, false, false, false, false, false, false] rfl rfl (any_of HT_.out (by kernel_rfl)) (fun _ _ _ h => h) (Or.inl ⟨by rfl, ?_⟩) ?_ ?_
                      rotate_left
                      · intro w'
                        go_simp
                        with_reducible rfl
                      rotate_left
                      · simp only [Act.put, List.setIfInBounds_toArray, List.set_cons_zero, List.set_cons_succ, i64_w, i32_w]
                        rfl
                      refine pure_ (i := 35) (N := some 66) (v := ?_) (a' := ?_) #[true, true, true, true, true, true, true, true, true, true, true, true, true, true, true, true, true, true, true, true, true, true, true, true, true, true, true, true, true, true, true, true, true, true, false, true, false, false, false, false, false, false, false, false, false, false, false, false, false, false, false, false] rfl rfl (any_of HT_.out (by kernel_rfl)) (fun _ _ _ h => h) (Or.inl ⟨by rfl, ?_⟩) ?_ ?_
                      rotate_left
                      · intro w'
                        go_simp
                        with_reducible rfl
                      rotate_left
                      · simp only [Act.put, List.setIfInBounds_toArray, List.set_cons_zero, List.set_cons_succ, i64_w, i32_w]
                        rfl
                      refine one_ (i := 34) (N := some 65) #[true, true, true, true, true, true, true, true, true, true, true, true, true, true, true, true, true, true, true, true, true, true, true, true, true, true, true, true, true, true, true, true, true, true, true, true, false, false, false, false, false, false, false, false, false, false, false, false, false, false, false, false] rfl rfl (one_of HT_.out (by kernel_rfl)) (by decide) (fun K hK => ?_)
                      refine goes_ Try.func18 (by kernel_rfl) rfl #[.string a2] (by rfl) rfl rfl (by (try simp only [List.map_toArray, List.map_cons, List.map_nil]); first | done | rfl | (simp only [List.length_drop, List.length_take]; rfl)) ?_
                      with_reducible refine (nar_Str.calls kj4 a2 t255 _ A27.out).mono ?_
                      rintro e w45 ⟨rfl, hb⟩
                      refine ⟨_, rfl, ?_⟩
                      have n0_ := Aside0.mk (blk_below (by first | exact BK247.out | exact blk_drewN BK247.out _ | exact blk_drew BK247.out) hb)
                      have n1_ := Aside0.mk (below_step (by repeat (first | (with_reducible first | exact HB.out | apply below_alloc | apply pw_below_drewN | apply below_drew1 | refine below_set ?_ GE247.out) | exact HB.out)) hb)
                      clear BK247
                      clear HB
                      have BK247 := n0_
                      have HB := n1_
                      clear n0_ n1_
                      (try clear hb)
                      (try clear hb2)
                      (try clear hk)
                      (try clear hi)
                      refine hK.out _ _ ⟨(blk_cell BK247.out 0).trans rfl, (blk_cell BK247.out 1).trans rfl⟩ (fun hHeld => ?_)
                      clear hK K
                      refine norm_ (a' := ?_) ?_ ?_
                      rotate_left
                      · show Act.put _ (some 65) _ = _
                        simp only [Act.put, List.setIfInBounds_toArray, List.set_cons_zero, List.set_cons_succ, i64_w, i32_w]
                        rfl
                      refine one_ (i := 36) (N := some 67) #[true, true, true, true, true, true, true, true, true, true, true, true, true, true, true, true, true, true, true, true, true, true, true, true, true, true, true, true, true, true, true, true, true, true, true, true, true, false, false, false, false, false, false, false, false, false, false, false, false, false, false, false] rfl rfl (one_of HT_.out (by kernel_rfl)) (by decide) (fun K hK => ?_)
                      refine goes_ Try.func25 (by kernel_rfl) rfl #[.string a2] (by rfl) rfl rfl (by (try simp only [List.map_toArray, List.map_cons, List.map_nil]); first | done | rfl | (simp only [List.length_drop, List.length_take]; rfl)) ?_
                      with_reducible refine (shelfmarkref10_Str.calls kj4 a2 t256 _ A28.out).mono ?_
                      rintro e w46 ⟨rfl, hb⟩
                      refine ⟨_, rfl, ?_⟩
                      have n0_ := Aside0.mk (blk_below (by first | exact BK247.out | exact blk_drewN BK247.out _ | exact blk_drew BK247.out) hb)
                      have n1_ := Aside0.mk (below_step (by repeat (first | (with_reducible first | exact HB.out | apply below_alloc | apply pw_below_drewN | apply below_drew1 | refine below_set ?_ GE247.out) | exact HB.out)) hb)
                      clear BK247
                      clear HB
                      have BK247 := n0_
                      have HB := n1_
                      clear n0_ n1_
                      (try clear hb)
                      (try clear hb2)
                      (try clear hk)
                      (try clear hi)
                      refine hK.out _ _ ⟨(blk_cell BK247.out 0).trans rfl, (blk_cell BK247.out 1).trans rfl⟩ (fun hHeld => ?_)
                      clear hK K
                      refine norm_ (a' := ?_) ?_ ?_
                      rotate_left
                      · show Act.put _ (some 67) _ = _
                        simp only [Act.put, List.setIfInBounds_toArray, List.set_cons_zero, List.set_cons_succ, i64_w, i32_w]
                        rfl
                      refine pure_ (i := 37) (N := some 68) (v := ?_) (a' := ?_) #[true, true, true, true, true, true, true, true, true, true, true, true, true, true, true, true, true, true, true, true, true, true, true, true, true, true, true, true, true, true, true, true, true, true, true, true, true, true, false, false, false, false, false, false, false, false, false, false, false, false, false, false] rfl rfl (any_of HT_.out (by kernel_rfl)) (fun _ _ _ h => h) (Or.inl ⟨by rfl, ?_⟩) ?_ ?_
                      rotate_left
                      · intro w'
                        go_simp
                        with_reducible rfl
                      rotate_left
                      · simp only [Act.put, List.setIfInBounds_toArray, List.set_cons_zero, List.set_cons_succ, i64_w, i32_w]
                        rfl
                      refine pure_ (i := 38) (N := some 69) (v := ?_) (a' := ?_) #[true, true, true, true, true, true, true, true, true, true, true, true, true, true, true, true, true, true, true, true, true, true, true, true, true, true, true, true, true, true, true, true, true, true, true, true, true, true, true, false, false, false, false, false, false, false, false, false, false, false, false, false] rfl rfl (any_of HT_.out (by kernel_rfl)) (fun _ _ _ h => h) (Or.inl ⟨by rfl, ?_⟩) ?_ ?_
                      rotate_left
                      · intro w'
                        go_simp
                        with_reducible rfl
                      rotate_left
                      · simp only [Act.put, List.setIfInBounds_toArray, List.set_cons_zero, List.set_cons_succ, i64_w, i32_w]
                        rfl
                      refine pure_ (i := 39) (N := some 70) (v := ?_) (a' := ?_) #[true, true, true, true, true, true, true, true, true, true, true, true, true, true, true, true, true, true, true, true, true, true, true, true, true, true, true, true, true, true, true, true, true, true, true, true, true, true, true, true, false, false, false, false, false, false, false, false, false, false, false, false] rfl rfl (any_of HT_.out (by kernel_rfl)) (fun _ _ _ h => h) (Or.inl ⟨by rfl, ?_⟩) ?_ ?_
                      rotate_left
                      · intro w'
                        go_simp
                        with_reducible rfl
                      rotate_left
                      · simp only [Act.put, List.setIfInBounds_toArray, List.set_cons_zero, List.set_cons_succ, i64_w, i32_w]
                        rfl
                      refine pure_ (i := 40) (N := some 71) (v := ?_) (a' := ?_) #[true, true, true, true, true, true, true, true, true, true, true, true, true, true, true, true, true, true, true, true, true, true, true, true, true, true, true, true, true, true, true, true, true, true, true, true, true, true, true, true, true, false, false, false, false, false, false, false, false, false, false, false] rfl rfl (any_of HT_.out (by kernel_rfl)) (fun _ _ _ h => h) (Or.inl ⟨by rfl, ?_⟩) ?_ ?_
                      rotate_left
                      · intro w'
                        go_simp
                        with_reducible rfl
                      rotate_left
                      · simp only [Act.put, List.setIfInBounds_toArray, List.set_cons_zero, List.set_cons_succ, i64_w, i32_w]
                        rfl
                      refine pure_ (i := 41) (N := some 72) (v := ?_) (a' := ?_) #[true, true, true, true, true, true, true, true, true, true, true, true, true, true, true, true, true, true, true, true, true, true, true, true, true, true, true, true, true, true, true, true, true, true, true, true, true, true, true, true, true, true, false, false, false, false, false, false, false, false, false, false] rfl rfl (any_of HT_.out (by kernel_rfl)) (fun _ _ _ h => h) (Or.inl ⟨by rfl, ?_⟩) ?_ ?_
                      rotate_left
                      · intro w'
                        go_simp
                        with_reducible rfl
                      rotate_left
                      · simp only [Act.put, List.setIfInBounds_toArray, List.set_cons_zero, List.set_cons_succ, i64_w, i32_w]
                        rfl
                      refine pure_ (i := 43) (N := some 74) (v := ?_) (a' := ?_) #[true, true, true, true, true, true, true, true, true, true, true, true, true, true, true, true, true, true, true, true, true, true, true, true, true, true, true, true, true, true, true, true, true, true, true, true, true, true, true, true, true, true, false, true, false, false, false, false, false, false, false, false] rfl rfl (any_of HT_.out (by kernel_rfl)) (fun _ _ _ h => h) (Or.inl ⟨by rfl, ?_⟩) ?_ ?_
                      rotate_left
                      · intro w'
                        go_simp
                        with_reducible rfl
                      rotate_left
                      · simp only [Act.put, List.setIfInBounds_toArray, List.set_cons_zero, List.set_cons_succ, i64_w, i32_w]
                        rfl
                      refine pure_ (i := 44) (N := some 75) (v := ?_) (a' := ?_) #[true, true, true, true, true, true, true, true, true, true, true, true, true, true, true, true, true, true, true, true, true, true, true, true, true, true, true, true, true, true, true, true, true, true, true, true, true, true, true, true, true, true, false, true, true, false, false, false, false, false, false, false] rfl rfl (any_of HT_.out (by kernel_rfl)) (fun _ _ _ h => h) (Or.inl ⟨by rfl, ?_⟩) ?_ ?_
                      rotate_left
                      · intro w'
                        go_simp
                        with_reducible rfl
                      rotate_left
                      · simp only [Act.put, List.setIfInBounds_toArray, List.set_cons_zero, List.set_cons_succ, i64_w, i32_w]
                        rfl
                      refine one_ (i := 42) (N := some 73) #[true, true, true, true, true, true, true, true, true, true, true, true, true, true, true, true, true, true, true, true, true, true, true, true, true, true, true, true, true, true, true, true, true, true, true, true, true, true, true, true, true, true, true, true, true, false, false, false, false, false, false, false] rfl rfl (one_of HT_.out (by kernel_rfl)) (by decide) (fun K hK => ?_)
                      refine goes_ Try.func26 (by kernel_rfl) rfl #[.slice A0 l0.length c0, .slice A1 l1.length c1] (by rfl) rfl rfl (by (try simp only [List.map_toArray, List.map_cons, List.map_nil]); first | done | rfl | (simp only [List.length_drop, List.length_take]; rfl)) ?_
                      with_reducible refine (nar_Same.calls kj4 _ _ l0 _ _ l1 t257 _ ?side1 ?side2 ?side3 ?side4 A30.out).mono ?_
                      (case side1 => repeat (first | exact (Kd.C_below HR0.out HB.out) | (with_reducible refine Kd.C_alloc ?_ _) | (with_reducible refine Kd.C_drewN ?_ _) | (with_reducible refine Kd.C_drew ?_)))
                      (case side2 => exact HC0.out)
                      (case side3 => repeat (first | exact (Kd.C_below HR1.out HB.out) | (with_reducible refine Kd.C_alloc ?_ _) | (with_reducible refine Kd.C_drewN ?_ _) | (with_reducible refine Kd.C_drew ?_)))
                      (case side4 => exact HC1.out)
                      rintro e w' ⟨rfl, ⟨nd, rfl⟩⟩
                      refine ⟨_, rfl, ?_⟩
                      refine hK.out _ _ ⟨(blk_cell BK247.out 0).trans rfl, (blk_cell BK247.out 1).trans rfl⟩ (fun hHeld => ?_)
                      clear hK K
                      refine norm_ (a' := ?_) ?_ ?_
                      rotate_left
                      · show Act.put _ (some 73) _ = _
                        simp only [Act.put, List.setIfInBounds_toArray, List.set_cons_zero, List.set_cons_succ, i64_w, i32_w]
                        rfl
                      refine one_ (i := 45) (N := some 76) #[true, true, true, true, true, true, true, true, true, true, true, true, true, true, true, true, true, true, true, true, true, true, true, true, true, true, true, true, true, true, true, true, true, true, true, true, true, true, true, true, true, true, true, true, true, true, false, false, false, false, false, false] rfl rfl (one_of HT_.out (by kernel_rfl)) (by decide) (fun K hK => ?_)
                      refine goes_ Try.func27 (by kernel_rfl) rfl #[.slice A0 l0.length c0, .slice A1 l1.length c1] (by rfl) rfl rfl (by (try simp only [List.map_toArray, List.map_cons, List.map_nil]); first | done | rfl | (simp only [List.length_drop, List.length_take]; rfl)) ?_
                      with_reducible refine (shelfmarkref10_Same.calls kj4 _ _ l0 _ _ l1 t258 _ ?side1 ?side2 ?side3 ?side4 A31.out).mono ?_
                      (case side1 => repeat (first | exact (Kd.C_below HR0.out (by repeat (first | (with_reducible first | exact HB.out | apply below_alloc | apply pw_below_drewN | apply below_drew1 | refine below_set ?_ GE247.out) | exact HB.out))) | (with_reducible refine Kd.C_alloc ?_ _) | (with_reducible refine Kd.C_drewN ?_ _) | (with_reducible refine Kd.C_drew ?_)))
                      (case side2 => exact HC0.out)
                      (case side3 => repeat (first | exact (Kd.C_below HR1.out (by repeat (first | (with_reducible first | exact HB.out | apply below_alloc | apply pw_below_drewN | apply below_drew1 | refine below_set ?_ GE247.out) | exact HB.out))) | (with_reducible refine Kd.C_alloc ?_ _) | (with_reducible refine Kd.C_drewN ?_ _) | (with_reducible refine Kd.C_drew ?_)))
                      (case side4 => exact HC1.out)
                      rintro e w' ⟨rfl, ⟨nd, rfl⟩⟩
                      refine ⟨_, rfl, ?_⟩
                      refine hK.out _ _ ⟨(blk_cell BK247.out 0).trans rfl, (blk_cell BK247.out 1).trans rfl⟩ (fun hHeld => ?_)
                      clear hK K
                      refine norm_ (a' := ?_) ?_ ?_
                      rotate_left
                      · show Act.put _ (some 76) _ = _
                        simp only [Act.put, List.setIfInBounds_toArray, List.set_cons_zero, List.set_cons_succ, i64_w, i32_w]
                        rfl
                      refine pure_ (i := 46) (N := some 77) (v := ?_) (a' := ?_) #[true, true, true, true, true, true, true, true, true, true, true, true, true, true, true, true, true, true, true, true, true, true, true, true, true, true, true, true, true, true, true, true, true, true, true, true, true, true, true, true, true, true, true, true, true, true, true, false, false, false, false, false] rfl rfl (any_of HT_.out (by kernel_rfl)) (fun _ _ _ h => h) (Or.inl ⟨by rfl, ?_⟩) ?_ ?_
                      rotate_left
                      · intro w'
                        go_simp
                        with_reducible rfl
                      rotate_left
                      · simp only [Act.put, List.setIfInBounds_toArray, List.set_cons_zero, List.set_cons_succ, i64_w, i32_w]
                        rfl
                      refine pure_ (i := 47) (N := some 78) (v := ?_) (a' := ?_) #[true, true, true, true, true, true, true, true, true, true, true, true, true, true, true, true, true, true, true, true, true, true, true, true, true, true, true, true, true, true, true, true, true, true, true, true, true, true, true, true, true, true, true, true, true, true, true, true, false, false, false, false] rfl rfl (any_of HT_.out (by kernel_rfl)) (fun _ _ _ h => h) (Or.inl ⟨by rfl, ?_⟩) ?_ ?_
                      rotate_left
                      · intro w'
                        go_simp
                        with_reducible rfl
                      rotate_left
                      · simp only [Act.put, List.setIfInBounds_toArray, List.set_cons_zero, List.set_cons_succ, i64_w, i32_w]
                        rfl
                      refine pure_ (i := 48) (N := some 79) (v := ?_) (a' := ?_) #[true, true, true, true, true, true, true, true, true, true, true, true, true, true, true, true, true, true, true, true, true, true, true, true, true, true, true, true, true, true, true, true, true, true, true, true, true, true, true, true, true, true, true, true, true, true, true, true, true, false, false, false] rfl rfl (any_of HT_.out (by kernel_rfl)) (fun _ _ _ h => h) (Or.inl ⟨by rfl, ?_⟩) ?_ ?_
                      rotate_left
                      · intro w'
                        go_simp
                        with_reducible rfl
                      rotate_left
                      · simp only [Act.put, List.setIfInBounds_toArray, List.set_cons_zero, List.set_cons_succ, i64_w, i32_w]
                        rfl
                      refine one_ (i := 49) (N := some 80) #[true, true, true, true, true, true, true, true, true, true, true, true, true, true, true, true, true, true, true, true, true, true, true, true, true, true, true, true, true, true, true, true, true, true, true, true, true, true, true, true, true, true, true, true, true, true, true, true, true, true, false, false] rfl rfl (one_of HT_.out (by kernel_rfl)) (by decide) (fun K hK => ?_)
                      refine goes_ Try.func11 (by kernel_rfl) rfl #[] (by rfl) rfl rfl (by (try simp only [List.map_toArray, List.map_cons, List.map_nil]); first | done | rfl | (simp only [List.length_drop, List.length_take]; rfl)) ?_
                      with_reducible refine (shelfmarklaw10_awake.calls kj4  t259 _ A33.out).mono ?_
                      rintro e w47 ⟨rfl, hb⟩
                      refine ⟨_, rfl, ?_⟩
                      have n0_ := Aside0.mk (blk_below (by first | exact BK247.out | exact blk_drewN BK247.out _ | exact blk_drew BK247.out) hb)
                      have n1_ := Aside0.mk (below_step (by repeat (first | (with_reducible first | exact HB.out | apply below_alloc | apply pw_below_drewN | apply below_drew1 | refine below_set ?_ GE247.out) | exact HB.out)) hb)
                      clear BK247
                      clear HB
                      have BK247 := n0_
                      have HB := n1_
                      clear n0_ n1_
                      (try clear hb)
                      (try clear hb2)
                      (try clear hk)
                      (try clear hi)
                      refine hK.out _ _ ⟨(blk_cell BK247.out 0).trans rfl, (blk_cell BK247.out 1).trans rfl⟩ (fun hHeld => ?_)
                      clear hK K
                      refine norm_ (a' := ?_) ?_ ?_
                      rotate_left
                      · show Act.put _ (some 80) _ = _
                        simp only [Act.put, List.setIfInBounds_toArray, List.set_cons_zero, List.set_cons_succ, i64_w, i32_w]
                        rfl
                      refine pure_ (i := 50) (N := some 81) (v := ?_) (a' := ?_) #[true, true, true, true, true, true, true, true, true, true, true, true, true, true, true, true, true, true, true, true, true, true, true, true, true, true, true, true, true, true, true, true, true, true, true, true, true, true, true, true, true, true, true, true, true, true, true, true, true, true, true, false] rfl rfl (any_of HT_.out (by kernel_rfl)) (fun _ _ _ h => h) (Or.inl ⟨by rfl, ?_⟩) ?_ ?_
                      rotate_left
                      · intro w'
                        go_simp
                        with_reducible rfl
                      rotate_left
                      · simp only [Act.put, List.setIfInBounds_toArray, List.set_cons_zero, List.set_cons_succ, i64_w, i32_w]
                        rfl
                      refine pure_ (i := 51) (N := some 8) (v := ?_) (a' := ?_) #[true, true, true, true, true, true, true, true, true, true, true, true, true, true, true, true, true, true, true, true, true, true, true, true, true, true, true, true, true, true, true, true, true, true, true, true, true, true, true, true, true, true, true, true, true, true, true, true, true, true, true, true] rfl rfl (any_of HT_.out (by kernel_rfl)) (fun _ _ _ h => h) (Or.inl ⟨by rfl, ?_⟩) ?_ ?_
                      rotate_left
                      · intro w'
                        go_simp
                        with_reducible rfl
                      rotate_left
                      · simp only [Act.put, List.setIfInBounds_toArray, List.set_cons_zero, List.set_cons_succ, i64_w, i32_w]
                        rfl
                      refine done_ (done_of HT_.out (by kernel_rfl)) ?_
                      try go_wp2
                      go_ret
                      exact ⟨by first | rfl | (simp [errW_none, errW_some] <;> rfl) | (simp [*, errW_none, errW_some] <;> rfl), by repeat (first | (with_reducible first | exact HB.out | apply below_alloc | apply pw_below_drewN | apply below_drew1 | refine below_set ?_ GE247.out) | exact HB.out)⟩
                    · rw [if_neg c32] at H
                      have c32b0 : (t257 == t258) = false := by simpa using c32
                      (try (have c32b1 : decide (t257 = t258) = false := by simpa using c32))
                      (try (have c32b2 : (t257 == t258) = false := by simpa using c32))
                      (try (have c32b3 : ¬ (t257 = t258) := by simpa using c32))
                      clear c32
                      obtain rfl := Option.some.inj H
                      cases hr
                  · rw [if_neg c29] at H
                    have c29b0 : (t255.toList == t256.toList) = false := beq_eq_false_iff_ne.mpr c29
                    have c29b1 : (t255.toList != t256.toList) = true := bne_iff_ne.mpr c29
                    obtain rfl := Option.some.inj H
                    cases hr
                · rw [if_neg c26] at H
                  have c26b0 : (t253.toList == t254.toList) = false := beq_eq_false_iff_ne.mpr c26
                  have c26b1 : (t253.toList != t254.toList) = true := bne_iff_ne.mpr c26
                  obtain rfl := Option.some.inj H
                  cases hr
              · rw [if_neg c23] at H
                have c23b0 : (t251 == t252) = false := by simpa using c23
                (try (have c23b1 : decide (t251 = t252) = false := by simpa using c23))
                (try (have c23b2 : (t251 == t252) = false := by simpa using c23))
                (try (have c23b3 : ¬ (t251 = t252) := by simpa using c23))
                clear c23
                obtain rfl := Option.some.inj H
                cases hr
            · rw [if_neg c20] at H
              have c20b0 : (t250 == t246) = false := beq_eq_false_iff_ne.mpr c20
              have c20b1 : (t250 != t246) = true := bne_iff_ne.mpr c20
              obtain rfl := Option.some.inj H
              cases hr
          · rw [if_neg c18] at H
            have c18b0 : (t243.toList == t245.toList) = false := beq_eq_false_iff_ne.mpr c18
            have c18b1 : (t243.toList != t245.toList) = true := bne_iff_ne.mpr c18
            obtain rfl := Option.some.inj H
            cases hr
        · rw [if_neg c17] at H
          have c17b0 : (t248 == t249) = false := by simpa using c17
          (try (have c17b1 : decide (t248 = t249) = false := by simpa using c17))
          (try (have c17b2 : (t248 == t249) = false := by simpa using c17))
          (try (have c17b3 : ¬ (t248 = t249) := by simpa using c17))
          clear c17
          obtain rfl := Option.some.inj H
          cases hr
end
end Go.Proofs.Ytncokgdfkbgflaa.P

namespace Go.Proofs.Ytncokgdfkbgflaa
set_option linter.unusedVariables false
set_option linter.unusedSimpArgs false
def cutSlash : List UInt8 → Option (List UInt8 × List UInt8)
  | [] => none
  | b :: l =>
    match cutSlash l with
    | some (a, n) => some (b :: a, n)
    | none => if b = 47 then some ([], l) else none
theorem cutSlash_none : ∀ (l : List UInt8), 47 ∉ l → cutSlash l = none
  | [], _ => rfl
  | b :: l, h => by
    have h1 := cutSlash_none l (fun x => h (List.mem_cons_of_mem _ x))
    unfold cutSlash
    rw [h1]
    simp only
    rw [if_neg (fun e => h (by rw [e]; exact List.mem_cons_self))]
theorem cutSlash_some : ∀ (a n : List UInt8), 47 ∉ n → cutSlash (a ++ 47 :: n) = some (a, n)
  | [], n, h => by
    show cutSlash (47 :: n) = _
    unfold cutSlash
    rw [cutSlash_none n h]
    simp
  | b :: a, n, h => by
    show cutSlash (b :: (a ++ 47 :: n)) = _
    unfold cutSlash
    rw [cutSlash_some a n h]
def mayName (s : List UInt8) : Bool := !(s == []) && (decide (s.length ≤ 255) && (!hasSep s && (!(s == [46]) && !(s == [46, 46]))))
def okNd (n : Nd) : Bool :=
  if n.kind = 1 ∨ n.kind = 2 then decide (n.data.length ≤ 65536)
  else if n.kind = 3 then (!(n.data == [])) && decide (n.data.length ≤ 4096) && !(hasZero n.data)
  else if n.kind = 4 then n.data == []
  else false
abbrev Lv := List UInt8 × List UInt8
def withinP (op : List Lv) (p : List UInt8) : Option (Nat × List UInt8) :=
  match cutSlash p with
  | none => if idxOf (fun x : Lv => x.1 == []) op < 0 then none else some ((idxOf (fun x : Lv => x.1 == []) op).toNat, p)
  | some (a, n) => if a = [] then none else if idxOf (fun x : Lv => x.1 == a) op < 0 then none else some ((idxOf (fun x : Lv => x.1 == a) op).toNat, n)
def mayStep (op : List Lv) (n : Nd) : Option (List Lv) :=
  match withinP op n.path with
  | none => none
  | some (i, name) =>
    if mayName name && (!(Op.bytesLess name (op.getD i ([], [])).2 || name == (op.getD i ([], [])).2) && decide (i < 64)) then
      some ((op.take (i + 1)).set i ((op.getD i ([], [])).1, name) ++ (if n.kind = 4 then [(n.path, [])] else []))
    else none
def mayGo : List Lv → List Nd → Bool
  | _, [] => true
  | op, n :: l =>
    match mayStep op n with
    | none => false
    | some op' => mayGo op' l
def May (l : List Nd) : Bool :=
  match l with
  | [] => false
  | n :: r => decide (l.length ≤ 256) && (n.path == [] && (l.all okNd && mayGo (if n.kind = 4 then [([], [])] else []) r))
end Go.Proofs.Ytncokgdfkbgflaa

namespace Go.Proofs.Ytncokgdfkbgflaa
def runLen (head : List UInt8) : List Nd → Nat
  | [] => 0
  | n :: l => if Lib.hasPrefix n.path head then 1 + runLen head l else 0
theorem runLen_le (head : List UInt8) : ∀ l : List Nd, runLen head l ≤ l.length
  | [] => by simp [runLen]
  | n :: l => by
    have := runLen_le head l
    unfold runLen
    split
    · rw [List.length_cons]; omega
    · omega
theorem hasPrefix_iff (s p : List UInt8) : Lib.hasPrefix s p = true ↔ ∃ t, s = p ++ t := by
  unfold Lib.hasPrefix
  rw [List.isPrefixOf_iff_prefix]
  constructor
  · rintro ⟨t, h⟩; exact ⟨t, h.symm⟩
  · rintro ⟨t, h⟩; exact ⟨t, h.symm⟩
theorem below_skip (head nm : List UInt8) : ∀ (m : List Nd) (j : Nat),
    belowFrom head j m = belowFrom head (j + runLen (head ++ nm ++ [47]) m) (m.drop (runLen (head ++ nm ++ [47]) m)) ∧
    runLen head m = runLen (head ++ nm ++ [47]) m + runLen head (m.drop (runLen (head ++ nm ++ [47]) m))
  | [], j => by simp [runLen, belowFrom]
  | n :: m, j => by
    by_cases h : Lib.hasPrefix n.path (head ++ nm ++ [47]) = true
    · obtain ⟨t, ht⟩ := (hasPrefix_iff _ _).1 h
      have hp : Lib.hasPrefix n.path head = true := (hasPrefix_iff _ _).2 ⟨nm ++ [47] ++ t, by rw [ht]; simp [List.append_assoc]⟩
      have hc : (n.path.drop head.length).contains 47 = true := by
        rw [ht]
        simp [List.append_assoc]
      obtain ⟨i1, i2⟩ := below_skip head nm m (j + 1)
      have hr : runLen (head ++ nm ++ [47]) (n :: m) = 1 + runLen (head ++ nm ++ [47]) m := by rw [runLen, if_pos h]
      have hr2 : runLen head (n :: m) = 1 + runLen head m := by rw [runLen, if_pos hp]
      rw [hr, hr2, show 1 + runLen (head ++ nm ++ [47]) m = runLen (head ++ nm ++ [47]) m + 1 from Nat.add_comm _ _, List.drop_succ_cons]
      constructor
      · conv => lhs; rw [belowFrom, if_pos hp, if_pos hc, i1]
        congr 1
        omega
      · omega
    · have hr : runLen (head ++ nm ++ [47]) (n :: m) = 0 := by rw [runLen, if_neg h]
      rw [hr]
      simp
def pathAt (l : List Nd) (i : Nat) : List UInt8 := ((l[i]?).map Nd.path).getD []
theorem pathAt_is (l : List Nd) (i : Nat) (h : i < l.length) : pathAt l i = l[i].path := by
  unfold pathAt; rw [List.getElem?_eq_getElem h]; rfl
def holds (l : List Nd) (i : Nat) : Nat := 1 + runLen (headOf (pathAt l i)) (l.drop (i + 1))
theorem below_sum (l : List Nd) (head : List UInt8) (hne : ∀ j (h : j < l.length), 0 < j → l[j].path ≠ []) : ∀ (d j : Nat), 0 < j → l.length - j ≤ d →
    ((belowFrom head j (l.drop j)).map fun x => holds l x.1).sum ≤ runLen head (l.drop j) := by
  intro d
  induction d with
  | zero =>
    intro j _ h
    rw [List.drop_eq_nil_of_le (by omega)]
    simp [belowFrom]
  | succ d ih =>
    intro j hj0 h
    by_cases hj : j < l.length
    · rw [List.drop_eq_getElem_cons hj]
      have hn := hne j hj hj0
      unfold belowFrom runLen
      by_cases hp : Lib.hasPrefix l[j].path head = true
      · rw [if_pos hp, if_pos hp]
        by_cases hc : (l[j].path.drop head.length).contains 47 = true
        · rw [if_pos hc]
          have := ih (j + 1) (by omega) (by omega)
          omega
        · rw [if_neg hc, List.map_cons, List.sum_cons]
          obtain ⟨nm, hnm⟩ := (hasPrefix_iff _ _).1 hp
          have hw : holds l j = 1 + runLen (head ++ nm ++ [47]) (l.drop (j + 1)) := by
            unfold holds
            rw [pathAt_is l j hj, headOf, if_neg hn, hnm]
          obtain ⟨i1, i2⟩ := below_skip head nm (l.drop (j + 1)) (j + 1)
          have := ih (j + 1 + runLen (head ++ nm ++ [47]) (l.drop (j + 1))) (by omega) (by omega)
          rw [i1, hw, i2, List.drop_drop]
          omega
      · rw [if_neg hp, if_neg hp]
        simp
    · rw [List.drop_eq_nil_of_le (by omega)]
      simp [belowFrom]
theorem flat_sum (C : Nat) (F : Nat × List UInt8 → List UInt8) (w : Nat × List UInt8 → Nat) : ∀ (ys : List (Nat × List UInt8)), (∀ y ∈ ys, (F y).length ≤ C * w y) → (ys.flatMap F).length ≤ C * (ys.map w).sum
  | [], _ => by simp
  | y :: ys, h => by
    have h1 := h y List.mem_cons_self
    have h2 := flat_sum C F w ys (fun z hz => h z (List.mem_cons_of_mem _ hz))
    rw [List.flatMap_cons, List.length_append, List.map_cons, List.sum_cons, Nat.mul_add]
    omega
theorem belowFrom_name (P : Nat) (head : List UInt8) : ∀ (l : List Nd) (i : Nat) (x : Nat × List UInt8), (∀ n ∈ l, n.path.length ≤ P) → x ∈ belowFrom head i l → x.2.length ≤ P
  | [], _, _, _, h => by simp [belowFrom] at h
  | n :: l, i, x, hP, h => by
    have hn := hP n List.mem_cons_self
    have hr := fun h => belowFrom_name P head l (i + 1) x (fun z hz => hP z (List.mem_cons_of_mem _ hz)) h
    unfold belowFrom at h
    split at h
    · split at h
      · exact hr h
      · rcases List.mem_cons.mp h with rfl | h
        · simp only [List.length_drop]; omega
        · exact hr h
    · simp at h
theorem entryB_len (nm body : List UInt8) : (entryB nm body).length ≤ body.length + (nm.length + 140) := by
  unfold entryB
  have h1 := strB_le nm
  have h2 : (strB wEntry).length = 16 := by decide
  have h3 : (strB wOpen).length = 16 := by decide
  have h4 : (strB wName).length = 16 := by decide
  have h5 : (strB wNode).length = 16 := by decide
  have h6 : (strB wShut).length = 16 := by decide
  simp only [strsB, List.length_append, List.append_nil]
  rw [h2, h3, h4, h5, h6]
  omega
theorem packN_le (l : List Nd) (K P : Nat) (hK : ∀ n ∈ l, (leafB n).length + 72 ≤ K) (hP : ∀ n ∈ l, n.path.length ≤ P) (hK0 : 72 ≤ K) (hne : ∀ j (h : j < l.length), 0 < j → l[j].path ≠ []) :
    ∀ (f i : Nat), (packN f l i).length + (P + 140) ≤ (K + (P + 140)) * holds l i := by
  have h1 : (strsB [wOpen, wType]).length = 32 := by decide
  have h2 : (strsB [wShut]).length = 16 := by decide
  have h3 : (strsB [wDir]).length = 24 := by decide
  intro f
  induction f with
  | zero =>
    intro i
    have : 1 ≤ holds l i := by unfold holds; omega
    have := Nat.mul_le_mul (Nat.le_refl (K + (P + 140))) this
    simp only [packN, List.length_nil]
    omega
  | succ f ih =>
    intro i
    have hw : (K + (P + 140)) * holds l i = (K + (P + 140)) + (K + (P + 140)) * runLen (headOf (pathAt l i)) (l.drop (i + 1)) := by
      unfold holds; rw [Nat.mul_add, Nat.mul_one]
    rw [hw]
    unfold packN
    by_cases hi : i < l.length
    · rw [List.getElem?_eq_getElem hi]
      simp only
      split
      · have h4 := hK _ (List.getElem_mem hi)
        rw [List.length_append, List.length_append, h1, h2]
        omega
      · rw [List.length_append, List.length_append, List.length_append, h1, h2, h3]
        have h5 := flat_sum (K + (P + 140)) (fun x => entryB x.2 (packN f l x.1)) (fun x => holds l x.1) (belowFrom (headOf (l[i]).path) (i + 1) (l.drop (i + 1))) (by
          intro y hy
          have h6 := entryB_len y.2 (packN f l y.1)
          have h7 := belowFrom_name P _ _ _ _ (fun n hn => hP n (List.mem_of_mem_drop hn)) hy
          have h8 := ih y.1
          omega)
        have h6 := below_sum l (headOf (l[i]).path) hne (l.length - (i + 1)) (i + 1) (by omega) (Nat.le_refl _)
        have h7 := Nat.mul_le_mul (Nat.le_refl (K + (P + 140))) h6
        rw [pathAt_is l i hi]
        omega
    · rw [List.getElem?_eq_none (by omega)]
      simp only [List.length_nil]
      omega
theorem holds_le (l : List Nd) (i : Nat) : holds l i ≤ l.length + 1 := by
  unfold holds
  have := runLen_le (headOf (pathAt l i)) (l.drop (i + 1))
  rw [List.length_drop] at this
  omega
end Go.Proofs.Ytncokgdfkbgflaa

namespace Go.Proofs.Ytncokgdfkbgflaa
mutual
/-- A tree. -/
inductive Tr where
  | leaf (k : Int) (d : List UInt8)
  | dir (es : Es)
/-- What stands in a directory. -/
inductive Es where
  | nil
  | cons (nm : List UInt8) (t : Tr) (es : Es)
end

mutual
/-- The nodes of a tree at a path. -/
def Tr.nodes (p : List UInt8) : Tr → List Nd
  | .leaf k d => [⟨p, k, d⟩]
  | .dir es => ⟨p, 4, []⟩ :: es.nodes p
def Es.nodes (p : List UInt8) : Es → List Nd
  | .nil => []
  | .cons nm t es => t.nodes (headOf p ++ nm) ++ es.nodes p
end
mutual
/-- The bytes of a tree. -/
def Tr.enc : Tr → List UInt8
  | .leaf k d => strsB [wOpen, wType] ++ leafB ⟨[], k, d⟩ ++ strsB [wShut]
  | .dir es => strsB [wOpen, wType] ++ (strsB [wDir] ++ es.enc) ++ strsB [wShut]
def Es.enc : Es → List UInt8
  | .nil => []
  | .cons nm t es => entryB nm t.enc ++ es.enc
end
mutual
/-- May a tree be, so deep? -/
def Tr.ok (d : Nat) : Tr → Bool
  | .leaf k x => decide (k = 1 ∨ k = 2 ∨ k = 3) && okNd ⟨[], k, x⟩
  | .dir es => es.ok d []
def Es.ok (d : Nat) (last : List UInt8) : Es → Bool
  | .nil => true
  | .cons nm t es => mayName nm && (!(Op.bytesLess nm last || nm == last) && (decide (d < 64) && (t.ok (d + 1) && es.ok d nm)))
end

theorem mayName_ne {nm : List UInt8} (h : mayName nm = true) : nm ≠ [] ∧ 47 ∉ nm := by
  unfold mayName at h
  simp only [Bool.and_eq_true, Bool.not_eq_true'] at h
  refine ⟨fun e => by rw [e] at h; simp at h, fun e => ?_⟩
  have h3 := h.2.2.1
  unfold hasSep at h3
  rw [List.any_eq_false] at h3
  exact h3 47 e (by decide)
theorem Tr.first (p : List UInt8) : ∀ t : Tr, ∃ n l, t.nodes p = n :: l ∧ n.path = p
  | .leaf k d => ⟨_, _, by rw [Tr.nodes], rfl⟩
  | .dir es => ⟨_, _, by rw [Tr.nodes], rfl⟩
theorem headOf_ne {p : List UInt8} (h : p ≠ []) : headOf p = p ++ [47] := by rw [headOf, if_neg h]
mutual
theorem Tr.below_path (d : Nat) (p : List UInt8) : ∀ t : Tr, t.ok d = true → ∀ n ∈ (t.nodes p).drop 1, ∃ s, s ≠ [] ∧ n.path = headOf p ++ s
  | .leaf k x, _ => by rw [Tr.nodes]; intro n hn; simp at hn
  | .dir es, h => by
    rw [Tr.nodes]
    rw [Tr.ok] at h
    exact Es.below_path d [] p es h
theorem Es.below_path (d : Nat) (last p : List UInt8) : ∀ es : Es, es.ok d last = true → ∀ n ∈ es.nodes p, ∃ s, s ≠ [] ∧ n.path = headOf p ++ s
  | .nil, _ => by rw [Es.nodes]; intro n hn; simp at hn
  | .cons nm t es, h => by
    rw [Es.ok] at h
    simp only [Bool.and_eq_true] at h
    obtain ⟨h1, _, _, h4, h5⟩ := h
    have hne := (mayName_ne h1).1
    rw [Es.nodes]
    intro n hn
    rcases List.mem_append.1 hn with hn | hn
    · obtain ⟨m, l, hm, hp⟩ := Tr.first (headOf p ++ nm) t
      have hb := Tr.below_path (d + 1) (headOf p ++ nm) t h4
      rw [hm] at hn hb
      rcases List.mem_cons.1 hn with rfl | hn
      · exact ⟨nm, hne, hp⟩
      · obtain ⟨s, hs, hs2⟩ := hb n hn
        rw [headOf_ne (by intro e; exact hne (List.append_eq_nil_iff.1 e).2)] at hs2
        exact ⟨nm ++ [47] ++ s, by simp, by rw [hs2]; simp [List.append_assoc]⟩
    · exact Es.below_path d nm p es h5 n hn
end
end Go.Proofs.Ytncokgdfkbgflaa

namespace Go.Proofs.Ytncokgdfkbgflaa
mutual
/-- How many nodes. -/
def Tr.size : Tr → Nat
  | .leaf _ _ => 1
  | .dir es => 1 + es.size
def Es.size : Es → Nat
  | .nil => 0
  | .cons _ t es => t.size + es.size
end
mutual
theorem Tr.nodes_length (p : List UInt8) : ∀ t : Tr, (t.nodes p).length = t.size
  | .leaf k d => by rw [Tr.nodes, Tr.size]; rfl
  | .dir es => by rw [Tr.nodes, Tr.size, List.length_cons, Es.nodes_length p es]; omega
theorem Es.nodes_length (p : List UInt8) : ∀ es : Es, (es.nodes p).length = es.size
  | .nil => by rw [Es.nodes, Es.size]; rfl
  | .cons nm t es => by rw [Es.nodes, Es.size, List.length_append, Tr.nodes_length _ t, Es.nodes_length p es]
end
theorem Tr.size_pos : ∀ t : Tr, 1 ≤ t.size
  | .leaf k d => by rw [Tr.size]; exact Nat.le_refl 1
  | .dir es => by rw [Tr.size]; omega
def StopsAt (head : List UInt8) (post : List Nd) : Prop := ∀ n l, post = n :: l → Lib.hasPrefix n.path head = false
theorem below_stopped (head : List UInt8) (post : List Nd) (h : StopsAt head post) (j : Nat) : belowFrom head j post = [] := by
  cases post with
  | nil => rfl
  | cons n l => unfold belowFrom; rw [if_neg (by rw [h n l rfl]; decide)]
theorem below_over (head nm : List UInt8) : ∀ (r rest : List Nd) (j : Nat), (∀ n ∈ r, ∃ s, n.path = head ++ nm ++ [47] ++ s) → belowFrom head j (r ++ rest) = belowFrom head (j + r.length) rest
  | [], rest, j, _ => rfl
  | n :: r, rest, j, h => by
    obtain ⟨s, hs⟩ := h n List.mem_cons_self
    have ih := below_over head nm r rest (j + 1) (fun m hm => h m (List.mem_cons_of_mem _ hm))
    have hp : Lib.hasPrefix n.path head = true := (hasPrefix_iff _ _).2 ⟨nm ++ [47] ++ s, by rw [hs]; simp [List.append_assoc]⟩
    have hc : (n.path.drop head.length).contains 47 = true := by rw [hs]; simp [List.append_assoc]
    rw [List.cons_append, belowFrom, if_pos hp, if_pos hc, ih, List.length_cons]
    congr 1
    omega
def Es.places : Nat → Es → List (Nat × List UInt8)
  | _, .nil => []
  | j, .cons nm t es => (j, nm) :: Es.places (j + t.size) es
theorem Es.stops (d : Nat) (last p q : List UInt8) (es : Es) (post : List Nd) (nm : List UInt8) (hq : q = headOf p ++ nm) (hnm : nm ≠ []) (h : es.ok d last = true) (hpost : StopsAt (headOf p) post) : StopsAt (headOf q) (es.nodes p ++ post) := by
  have hqq : headOf q = headOf p ++ nm ++ [47] := by rw [hq, headOf_ne (by intro e; exact hnm (List.append_eq_nil_iff.1 e).2)]
  intro n l hl
  rw [Bool.eq_false_iff]
  intro hp
  rw [hqq] at hp
  obtain ⟨s, hs⟩ := (hasPrefix_iff _ _).1 hp
  cases es with
  | nil =>
    rw [Es.nodes] at hl
    have h1 := hpost n l hl
    have h2 : Lib.hasPrefix n.path (headOf p) = true := (hasPrefix_iff _ _).2 ⟨nm ++ [47] ++ s, by rw [hs]; simp [List.append_assoc]⟩
    rw [h2] at h1
    exact absurd h1 (by decide)
  | cons nm2 t2 es2 =>
    rw [Es.ok] at h
    simp only [Bool.and_eq_true] at h
    have h47 := (mayName_ne h.1).2
    obtain ⟨m, r, hm, hmp⟩ := Tr.first (headOf p ++ nm2) t2
    rw [Es.nodes, hm, List.cons_append, List.cons_append] at hl
    injection hl with hl1 hl2
    rw [← hl1, hmp] at hs
    have h3 : nm2 = nm ++ [47] ++ s := by
      have : headOf p ++ nm2 = headOf p ++ (nm ++ [47] ++ s) := by rw [hs]; simp [List.append_assoc]
      exact List.append_cancel_left this
    exact h47 (by rw [h3]; simp)
theorem Es.below_is (d : Nat) (p : List UInt8) (post : List Nd) (hpost : StopsAt (headOf p) post) : ∀ (es : Es) (last : List UInt8) (j : Nat), es.ok d last = true → belowFrom (headOf p) j (es.nodes p ++ post) = es.places j
  | .nil, last, j, _ => by rw [Es.nodes, Es.places]; exact below_stopped _ _ hpost j
  | .cons nm t es, last, j, h => by
    have h' := h
    rw [Es.ok] at h
    simp only [Bool.and_eq_true] at h
    obtain ⟨h1, _, _, h4, h5⟩ := h
    obtain ⟨hne, h47⟩ := mayName_ne h1
    have ih := Es.below_is d p post hpost es nm (j + t.size) h5
    obtain ⟨n, r, hn, hnp⟩ := Tr.first (headOf p ++ nm) t
    have hb := Tr.below_path (d + 1) (headOf p ++ nm) t h4
    have hlen := Tr.nodes_length (headOf p ++ nm) t
    rw [hn] at hb hlen
    have hp : Lib.hasPrefix n.path (headOf p) = true := (hasPrefix_iff _ _).2 ⟨nm, hnp⟩
    have hd : n.path.drop (headOf p).length = nm := by rw [hnp]; simp
    have hc : ¬ (nm.contains 47 = true) := by simpa using h47
    rw [Es.nodes, Es.places, hn, List.cons_append, List.cons_append, belowFrom, if_pos hp, hd, if_neg hc, List.append_assoc,
      below_over (headOf p) nm r (es.nodes p ++ post) (j + 1) (by
        intro m hm
        obtain ⟨s, _, hs⟩ := hb m (by simpa using hm)
        rw [headOf_ne (by intro e; exact hne (List.append_eq_nil_iff.1 e).2)] at hs
        exact ⟨s, hs⟩)]
    rw [List.length_cons] at hlen
    rw [show j + 1 + r.length = j + t.size by omega, ih]
mutual
theorem Tr.pack_is : ∀ (t : Tr) (d : Nat) (p : List UInt8) (pre post : List Nd) (f : Nat), t.ok d = true → StopsAt (headOf p) post → t.size ≤ f → packN f (pre ++ (t.nodes p ++ post)) pre.length = t.enc
  | .leaf k x, d, p, pre, post, f, h, hs, hf => by
    rw [Tr.size] at hf
    obtain ⟨f, rfl⟩ : ∃ g, f = g + 1 := ⟨f - 1, by omega⟩
    rw [Tr.ok] at h
    simp only [Bool.and_eq_true, decide_eq_true_eq] at h
    rw [Tr.nodes, Tr.enc, packN]
    simp only [List.cons_append, List.nil_append, List.length_append, List.getElem?_append_right (Nat.le_refl pre.length), Nat.sub_self, List.getElem?_cons_zero]
    rw [if_pos h.1]
    rfl
  | .dir es, d, p, pre, post, f, h, hs, hf => by
    rw [Tr.size] at hf
    obtain ⟨f, rfl⟩ : ∃ g, f = g + 1 := ⟨f - 1, by omega⟩
    rw [Tr.ok] at h
    have hb := Es.below_is d p post hs es [] (pre.length + 1) h
    have ih := Es.pack_is es d [] p (pre ++ [⟨p, 4, []⟩]) post f h hs (by omega)
    have hdrop : (pre ++ (⟨p, 4, []⟩ :: (es.nodes p ++ post))).drop (pre.length + 1) = es.nodes p ++ post := by
      rw [List.drop_append]
      simp
    rw [Tr.nodes, Tr.enc, packN]
    simp only [List.cons_append, List.getElem?_append_right (Nat.le_refl pre.length), Nat.sub_self, List.getElem?_cons_zero]
    rw [if_neg (by decide), hdrop, hb]
    rw [List.length_append, List.length_cons, List.length_nil] at ih
    rw [List.append_assoc] at ih
    simp only [List.cons_append, List.nil_append] at ih
    rw [ih]
theorem Es.pack_is : ∀ (es : Es) (d : Nat) (last p : List UInt8) (pre post : List Nd) (f : Nat), es.ok d last = true → StopsAt (headOf p) post → es.size ≤ f →
    (es.places pre.length).flatMap (fun x => entryB x.2 (packN f (pre ++ (es.nodes p ++ post)) x.1)) = es.enc
  | .nil, d, last, p, pre, post, f, h, hs, hf => by rw [Es.places, Es.enc]; rfl
  | .cons nm t es, d, last, p, pre, post, f, h, hs, hf => by
    rw [Es.size] at hf
    rw [Es.ok] at h
    simp only [Bool.and_eq_true] at h
    obtain ⟨h1, _, _, h4, h5⟩ := h
    have hne := (mayName_ne h1).1
    have it := Tr.pack_is t (d + 1) (headOf p ++ nm) pre (es.nodes p ++ post) f h4 (Es.stops d nm p _ es post nm rfl hne h5 hs) (by omega)
    have ie := Es.pack_is es d nm p (pre ++ t.nodes (headOf p ++ nm)) post f h5 hs (by omega)
    rw [List.length_append, Tr.nodes_length, List.append_assoc] at ie
    rw [Es.places, Es.enc, Es.nodes, List.flatMap_cons]
    simp only [List.append_assoc] at it ie ⊢
    rw [it, ie]
end
end Go.Proofs.Ytncokgdfkbgflaa

namespace Go.Proofs.Ytncokgdfkbgflaa
theorem cutSlash_is : ∀ (l a n : List UInt8), cutSlash l = some (a, n) → l = a ++ 47 :: n
  | [], a, n, h => by simp [cutSlash] at h
  | b :: l, a, n, h => by
    unfold cutSlash at h
    split at h
    · rename_i a' n' h2
      injection h with h
      obtain rfl : n' = n := congrArg Prod.snd h
      have : b :: a' = a := congrArg Prod.fst h
      rw [← this, cutSlash_is l a' n' h2]
      rfl
    · split at h
      · rename_i h2
        injection h with h
        obtain rfl : l = n := congrArg Prod.snd h
        have : ([] : List UInt8) = a := congrArg Prod.fst h
        rw [← this, h2]
        rfl
      · cases h
theorem idxOf_lt' {α : Type} (p : α → Bool) : ∀ (l : List α) (i : Nat), idxOf p l = i → i < l.length
  | [], i, h => by simp [idxOf] at h
  | x :: l, i, h => by
    have hg := idxOf_ge p l
    unfold idxOf at h
    rw [List.length_cons]
    split at h
    · omega
    · split at h
      · omega
      · have := idxOf_lt' p l (i - 1) (by omega)
        omega
theorem idxOf_append {α : Type} (f : α → Bool) : ∀ (l : List α) (z : α), idxOf f (l ++ [z]) = if 0 ≤ idxOf f l then idxOf f l else if f z then (l.length : Int) else -1
  | [], z => by
    simp only [List.nil_append, idxOf]
    split <;> simp
  | x :: l, z => by
    have ih := idxOf_append f l z
    have hg := idxOf_ge f l
    have hg2 := idxOf_ge f (l ++ [z])
    rw [List.cons_append]
    by_cases h : f x = true
    · simp only [idxOf, if_pos h]
      simp
    · simp only [idxOf, if_neg h, ih]
      rw [List.length_cons]
      repeat' split
      all_goals omega
def parentOf (p : List UInt8) : Option (List UInt8 × List UInt8) :=
  match cutSlash p with
  | none => some ([], p)
  | some (a, n) => if a = [] then none else some (a, n)
theorem parentOf_is {p a n : List UInt8} (h : parentOf p = some (a, n)) : p = headOf a ++ n := by
  unfold parentOf at h
  split at h
  · injection h with h
    have h1 : [] = a := congrArg Prod.fst h
    have h2 : p = n := congrArg Prod.snd h
    rw [← h1, ← h2]; rfl
  · rename_i a' n' hc
    split at h
    · cases h
    · rename_i hne
      injection h with h
      have h1 : a' = a := congrArg Prod.fst h
      have h2 : n' = n := congrArg Prod.snd h
      rw [cutSlash_is _ _ _ hc, ← h1, ← h2, headOf_ne hne]
      simp
theorem withinP_is (op : List Lv) (p : List UInt8) : withinP op p = match parentOf p with
    | none => none
    | some (a, n) => if idxOf (fun x : Lv => x.1 == a) op < 0 then none else some ((idxOf (fun x : Lv => x.1 == a) op).toNat, n) := by
  unfold withinP parentOf
  cases cutSlash p with
  | none => rfl
  | some x =>
    obtain ⟨a, n⟩ := x
    simp only
    split
    · rfl
    · rfl
theorem mayStep_cases (outer : List Lv) (p last : List UInt8) (n : Nd) (op' : List Lv) (h : mayStep (outer ++ [(p, last)]) n = some op') :
    (mayStep outer n = some op') ∨ (∃ nm, n.path = headOf p ++ nm ∧ mayName nm = true ∧ (Op.bytesLess nm last || nm == last) = false ∧ outer.length < 64 ∧ op' = outer ++ [(p, nm)] ++ (if n.kind = 4 then [(n.path, [])] else [])) := by
  unfold mayStep at h ⊢
  rw [withinP_is] at h ⊢
  cases hpar : parentOf n.path with
  | none => rw [hpar] at h; cases h
  | some x =>
    obtain ⟨a, nm⟩ := x
    rw [hpar] at h
    simp only [idxOf_append] at h ⊢
    by_cases h0 : 0 ≤ idxOf (fun x : Lv => x.1 == a) outer
    · left
      rw [if_pos h0] at h
      rw [if_neg (by omega)] at h ⊢
      obtain ⟨i, hi⟩ := Int.eq_ofNat_of_zero_le h0
      have hlt := idxOf_lt' _ _ _ hi
      rw [hi, Int.toNat_natCast] at h ⊢
      simp only at h ⊢
      have hg : (outer ++ [(p, last)]).getD i ([], []) = outer.getD i ([], []) := by
        simp [List.getD_eq_getElem?_getD, List.getElem?_append_left hlt]
      rw [hg, List.take_append_of_le_length (by omega)] at h
      exact h
    · right
      rw [if_neg h0] at h
      by_cases hz : p = a
      · have hb : (p == a) = true := by rw [hz]; simp
        rw [if_pos hb, if_neg (by omega), Int.toNat_natCast] at h
        simp only at h
        have hg : (outer ++ [(p, last)]).getD outer.length ([], []) = (p, last) := by
          simp [List.getD_eq_getElem?_getD]
        rw [hg, List.take_of_length_le (by simp)] at h
        split at h
        · rename_i hc
          simp only [Bool.and_eq_true, Bool.not_eq_true', decide_eq_true_eq] at hc
          injection h with h
          refine ⟨nm, by rw [hz]; exact parentOf_is hpar, hc.1, hc.2.1, hc.2.2, ?_⟩
          rw [← h]
          congr 1
          simp
        · cases h
      · have hb : ¬ ((p == a) = true) := by simpa using hz
        rw [if_neg hb, if_pos (by omega)] at h
        cases h
theorem mayGo_next {outer : List Lv} {n : Nd} {l : List Nd} (h : mayGo outer (n :: l) = true) : ∃ op', mayStep outer n = some op' ∧ mayGo op' l = true := by
  unfold mayGo at h
  split at h
  · cases h
  · rename_i op' hs
    exact ⟨op', hs, h⟩
theorem mayGo_of {outer : List Lv} {n : Nd} {l : List Nd} {op' : List Lv} (h : mayStep outer n = some op') (h2 : mayGo op' l = true) : mayGo outer (n :: l) = true := by
  unfold mayGo
  rw [h]
  exact h2
theorem okNd_kind {n : Nd} (h : okNd n = true) : (n.kind = 1 ∨ n.kind = 2 ∨ n.kind = 3) ∨ (n.kind = 4 ∧ n.data = []) := by
  unfold okNd at h
  split at h
  · rename_i h1
    rcases h1 with h1 | h1
    · exact .inl (.inl h1)
    · exact .inl (.inr (.inl h1))
  · split at h
    · rename_i h3
      exact .inl (.inr (.inr h3))
    · split at h
      · rename_i h4
        exact .inr ⟨h4, by simpa using h⟩
      · cases h
theorem okNd_path (n : Nd) (p : List UInt8) : okNd ⟨p, n.kind, n.data⟩ = okNd n := rfl
theorem mayGo_tree : ∀ (m : Nat) (l : List Nd) (outer : List Lv) (p last : List UInt8), l.length ≤ m → mayGo (outer ++ [(p, last)]) l = true → (∀ n ∈ l, okNd n = true) →
    ∃ es rest, l = Es.nodes p es ++ rest ∧ Es.ok outer.length last es = true ∧ mayGo outer rest = true := by
  intro m
  induction m with
  | zero =>
    intro l outer p last hm h hok
    obtain rfl : l = [] := List.eq_nil_of_length_eq_zero (by omega)
    exact ⟨.nil, [], by rw [Es.nodes]; rfl, by rw [Es.ok], by rw [mayGo]⟩
  | succ m ih =>
    intro l outer p last hm h hok
    cases l with
    | nil => exact ⟨.nil, [], by rw [Es.nodes]; rfl, by rw [Es.ok], by rw [mayGo]⟩
    | cons n l =>
      obtain ⟨op', hs, h2⟩ := mayGo_next h
      rw [List.length_cons] at hm
      have hok' := fun x hx => hok x (List.mem_cons_of_mem _ hx)
      have hn := hok n List.mem_cons_self
      rcases mayStep_cases outer p last n op' hs with hs' | ⟨nm, hp, hnm, hlt, h64, hop⟩
      · exact ⟨.nil, n :: l, by rw [Es.nodes]; rfl, by rw [Es.ok], mayGo_of hs' h2⟩
      · rcases okNd_kind hn with hk | ⟨hk, hd⟩
        · have hk4 : ¬ n.kind = 4 := by omega
          rw [if_neg hk4, List.append_nil] at hop
          rw [hop] at h2
          obtain ⟨es, rest, e1, e2, e3⟩ := ih l outer p nm (by omega) h2 hok'
          refine ⟨.cons nm (.leaf n.kind n.data) es, rest, ?_, ?_, e3⟩
          · rw [Es.nodes, Tr.nodes, ← hp, e1]; rfl
          · rw [Es.ok, hnm, hlt, decide_eq_true h64, Tr.ok, decide_eq_true hk, e2, okNd_path, hn]; rfl
        · rw [if_pos hk] at hop
          rw [hop] at h2
          obtain ⟨es1, rest1, e1, e2, e3⟩ := ih l (outer ++ [(p, nm)]) n.path [] (by omega) h2 hok'
          have hr : rest1.length ≤ l.length := by rw [e1, List.length_append]; omega
          obtain ⟨es2, rest2, f1, f2, f3⟩ := ih rest1 outer p nm (by omega) e3 (fun x hx => hok' x (by rw [e1]; exact List.mem_append_right _ hx))
          refine ⟨.cons nm (.dir es1) es2, rest2, ?_, ?_, f3⟩
          · rw [Es.nodes, Tr.nodes, ← hp, e1, f1]
            have : n = ⟨n.path, 4, []⟩ := by rw [← hk, ← hd]
            conv => lhs; rw [this]
            simp [List.append_assoc]
          · rw [List.length_append, List.length_cons, List.length_nil] at e2
            rw [Es.ok, hnm, hlt, decide_eq_true h64, Tr.ok, f2, e2]; rfl
theorem mayGo_nil : ∀ l : List Nd, mayGo [] l = true → l = []
  | [], _ => rfl
  | n :: l, h => by
    obtain ⟨op', hs, _⟩ := mayGo_next h
    unfold mayStep at hs
    rw [withinP_is] at hs
    cases hpar : parentOf n.path with
    | none => rw [hpar] at hs; cases hs
    | some x =>
      rw [hpar] at hs
      simp [idxOf] at hs
theorem may_tree (l : List Nd) (h : May l = true) : ∃ t : Tr, t.ok 0 = true ∧ l = t.nodes [] := by
  unfold May at h
  cases l with
  | nil => cases h
  | cons n r =>
    simp only [Bool.and_eq_true, decide_eq_true_eq] at h
    obtain ⟨_, h2, h3, h4⟩ := h
    have hp : n.path = [] := by simpa using h2
    have hall : ∀ x ∈ n :: r, okNd x = true := fun x hx => List.all_eq_true.1 h3 x hx
    have hn := hall n List.mem_cons_self
    rcases okNd_kind hn with hk | ⟨hk, hd⟩
    · rw [if_neg (by omega)] at h4
      obtain rfl := mayGo_nil r h4
      refine ⟨.leaf n.kind n.data, ?_, ?_⟩
      · rw [Tr.ok, decide_eq_true hk, okNd_path, hn]; rfl
      · rw [Tr.nodes, ← hp]
    · rw [if_pos hk] at h4
      obtain ⟨es, rest, e1, e2, e3⟩ := mayGo_tree r.length r [] [] [] (Nat.le_refl _) h4 (fun x hx => hall x (List.mem_cons_of_mem _ hx))
      obtain rfl := mayGo_nil rest e3
      refine ⟨.dir es, ?_, ?_⟩
      · rw [Tr.ok]; exact e2
      · rw [Tr.nodes, e1, List.append_nil]
        have : n = ⟨[], 4, []⟩ := by
          cases n
          simp only at hp hk hd
          rw [hp, hk, hd]
        rw [this]
theorem packN_tree (t : Tr) (h : t.ok 0 = true) : packN (t.nodes []).length (t.nodes []) 0 = t.enc := by
  have := Tr.pack_is t 0 [] [] [] (t.nodes []).length h (fun n l e => by cases e) (by rw [Tr.nodes_length]; exact Nat.le_refl _)
  simpa using this
end Go.Proofs.Ytncokgdfkbgflaa

namespace Go.Proofs.Ytncokgdfkbgflaa
theorem parentOf_in (p nm : List UInt8) (h : 47 ∉ nm) : parentOf (headOf p ++ nm) = some (p, nm) := by
  unfold parentOf
  by_cases hp : p = []
  · subst hp
    rw [show headOf [] ++ nm = nm from rfl, cutSlash_none nm h]
  · have e : headOf p ++ nm = p ++ 47 :: nm := by rw [headOf_ne hp]; simp
    rw [e, cutSlash_some p nm h]
    simp only
    rw [if_neg hp]
theorem idxOf_mid (p : List UInt8) (outer tail : List Lv) (last : List UInt8) (hout : ∀ x ∈ outer, x.1 ≠ p) : idxOf (fun x : Lv => x.1 == p) (outer ++ [(p, last)] ++ tail) = (outer.length : Int) := by
  refine idxOf_hit _ _ outer.length (by simp) ?_ ?_
  · intro j hj
    have e : (outer ++ [(p, last)] ++ tail)[j]'(by simp; omega) = outer[j] := by
      simp [List.append_assoc, List.getElem_append_left hj]
    rw [e]
    exact beq_eq_false_iff_ne.2 (hout _ (List.getElem_mem _))
  · simp [List.append_assoc, List.getElem_append_right]
theorem mayStep_in (outer tail : List Lv) (p last nm : List UInt8) (n : Nd) (hp : n.path = headOf p ++ nm) (hnm : mayName nm = true) (hlt : (Op.bytesLess nm last || nm == last) = false) (h64 : outer.length < 64) (hout : ∀ x ∈ outer, x.1 ≠ p) :
    mayStep (outer ++ [(p, last)] ++ tail) n = some (outer ++ [(p, nm)] ++ (if n.kind = 4 then [(n.path, [])] else [])) := by
  unfold mayStep
  rw [withinP_is, hp, parentOf_in p nm (mayName_ne hnm).2]
  simp only
  rw [idxOf_mid p outer tail last hout, if_neg (by omega), Int.toNat_natCast]
  simp only
  have hg : (outer ++ [(p, last)] ++ tail).getD outer.length ([], []) = (p, last) := by
    simp [List.getD_eq_getElem?_getD, List.append_assoc]
  have ht : (outer ++ [(p, last)] ++ tail).take (outer.length + 1) = outer ++ [(p, last)] := by
    rw [List.take_append_of_le_length (by simp)]
    exact List.take_of_length_le (by simp)
  rw [hg, ht, hnm, hlt, decide_eq_true h64]
  simp [hp]
def Es.lastN (last : List UInt8) : Es → List UInt8
  | .nil => last
  | .cons nm _ es => es.lastN nm
theorem okNd_dir (p : List UInt8) : okNd ⟨p, 4, []⟩ = true := by simp [okNd]
mutual
theorem Tr.may_in : ∀ (t : Tr) (outer tail : List Lv) (p last nm : List UInt8) (rest : List Nd), t.ok (outer.length + 1) = true → mayName nm = true → (Op.bytesLess nm last || nm == last) = false → outer.length < 64 →
    (∀ x ∈ outer, x.1.length < p.length) → (∀ tail', mayGo (outer ++ [(p, nm)] ++ tail') rest = true) → mayGo (outer ++ [(p, last)] ++ tail) (t.nodes (headOf p ++ nm) ++ rest) = true
  | .leaf k x, outer, tail, p, last, nm, rest, h, hnm, hlt, h64, hout, hr => by
    rw [Tr.nodes]
    exact mayGo_of (mayStep_in outer tail p last nm ⟨headOf p ++ nm, k, x⟩ rfl hnm hlt h64 (fun x hx e => by have := hout x hx; rw [e] at this; omega)) (hr _)
  | .dir es, outer, tail, p, last, nm, rest, h, hnm, hlt, h64, hout, hr => by
    rw [Tr.nodes, List.cons_append]
    refine mayGo_of (mayStep_in outer tail p last nm ⟨headOf p ++ nm, 4, []⟩ rfl hnm hlt h64 (fun x hx e => by have := hout x hx; rw [e] at this; omega)) ?_
    rw [if_pos rfl]
    rw [Tr.ok] at h
    have hne := (mayName_ne hnm).1
    have hlen : p.length < (headOf p ++ nm).length := by
      have : nm.length ≠ 0 := fun e => hne (List.length_eq_zero_iff.1 e)
      rw [List.length_append, headOf]
      split
      · rename_i e; rw [e]; simp; omega
      · simp; omega
    have := Es.may_in es (outer ++ [(p, nm)]) [] (headOf p ++ nm) [] rest (by simpa using h) (by
      intro x hx
      rcases List.mem_append.1 hx with hx | hx
      · have := hout x hx; omega
      · simp at hx; rw [hx]; exact hlen) (fun last' tail' => by
      have := hr ([(headOf p ++ nm, last')] ++ tail')
      simpa [List.append_assoc] using this)
    simpa using this
theorem Es.may_in : ∀ (es : Es) (outer tail : List Lv) (p last : List UInt8) (rest : List Nd), es.ok outer.length last = true →
    (∀ x ∈ outer, x.1.length < p.length) → (∀ last' tail', mayGo (outer ++ [(p, last')] ++ tail') rest = true) → mayGo (outer ++ [(p, last)] ++ tail) (es.nodes p ++ rest) = true
  | .nil, outer, tail, p, last, rest, h, hout, hr => by rw [Es.nodes]; exact hr last tail
  | .cons nm t es, outer, tail, p, last, rest, h, hout, hr => by
    rw [Es.ok] at h
    simp only [Bool.and_eq_true, Bool.not_eq_true', decide_eq_true_eq] at h
    obtain ⟨h1, h2, h3, h4, h5⟩ := h
    rw [Es.nodes, List.append_assoc (Tr.nodes _ t)]
    exact Tr.may_in t outer tail p last nm (es.nodes p ++ rest) h4 h1 h2 h3 hout (fun tail' => Es.may_in es outer tail' p nm rest h5 hout hr)
end

mutual
theorem Tr.ok_nodes (d : Nat) (p : List UInt8) : ∀ t : Tr, t.ok d = true → ∀ n ∈ t.nodes p, okNd n = true
  | .leaf k x, h => by
    rw [Tr.nodes]
    rw [Tr.ok] at h
    simp only [Bool.and_eq_true] at h
    intro n hn
    rw [List.mem_singleton.1 hn]
    exact h.2
  | .dir es, h => by
    rw [Tr.nodes]
    rw [Tr.ok] at h
    intro n hn
    rcases List.mem_cons.1 hn with rfl | hn
    · exact okNd_dir p
    · exact Es.ok_nodes d [] p es h n hn
theorem Es.ok_nodes (d : Nat) (last p : List UInt8) : ∀ es : Es, es.ok d last = true → ∀ n ∈ es.nodes p, okNd n = true
  | .nil, _ => by rw [Es.nodes]; intro n hn; simp at hn
  | .cons nm t es, h => by
    rw [Es.ok] at h
    simp only [Bool.and_eq_true] at h
    rw [Es.nodes]
    intro n hn
    rcases List.mem_append.1 hn with hn | hn
    · exact Tr.ok_nodes (d + 1) _ t h.2.2.2.1 n hn
    · exact Es.ok_nodes d nm p es h.2.2.2.2 n hn
end

theorem May_cons (n : Nd) (r : List Nd) : May (n :: r) = (decide ((n :: r).length ≤ 256) && (n.path == [] && ((n :: r).all okNd && mayGo (if n.kind = 4 then [([], [])] else []) r))) := rfl
theorem tree_may (t : Tr) (h : t.ok 0 = true) (hs : t.size ≤ 256) : May (t.nodes []) = true := by
  have hok := Tr.ok_nodes 0 [] t h
  have hl := Tr.nodes_length [] t
  cases t with
  | leaf k x =>
    rw [Tr.nodes] at hok ⊢
    rw [Tr.ok] at h
    simp only [Bool.and_eq_true, decide_eq_true_eq] at h
    rw [May_cons]
    rw [if_neg (by show ¬ k = 4; omega), mayGo]
    simp only [List.all_cons, List.all_nil, hok _ (List.mem_singleton.2 rfl)]
    simp
  | dir es =>
    rw [Tr.nodes] at hok hl ⊢
    rw [Tr.ok] at h
    rw [May_cons]
    have hall : (⟨[], 4, []⟩ :: es.nodes []).all okNd = true := List.all_eq_true.2 hok
    have hgo := Es.may_in es [] [] [] [] [] h (fun x hx => by cases hx) (fun _ _ => by rw [mayGo])
    rw [hall, if_pos rfl, hl, decide_eq_true hs]
    simpa using hgo
end Go.Proofs.Ytncokgdfkbgflaa

namespace Go.Proofs.Ytncokgdfkbgflaa
def refName (path dir : List UInt8) : List UInt8 :=
  if Lib.hasPrefix path (headOf dir) then (if (path.drop (headOf dir).length).contains 47 then [] else path.drop (headOf dir).length) else []
theorem refName_in (p nm : List UInt8) (h : 47 ∉ nm) : refName (headOf p ++ nm) p = nm := by
  unfold refName
  rw [if_pos ((hasPrefix_iff _ _).2 ⟨nm, rfl⟩)]
  have : (headOf p ++ nm).drop (headOf p).length = nm := by simp
  rw [this, if_neg (by simpa using h)]
theorem refName_is {path p nm : List UInt8} (h : refName path p = nm) (hne : nm ≠ []) : path = headOf p ++ nm ∧ 47 ∉ nm := by
  unfold refName at h
  split at h
  · rename_i hp
    split at h
    · exact absurd h.symm hne
    · rename_i hc
      obtain ⟨t, ht⟩ := (hasPrefix_iff _ _).1 hp
      have : path.drop (headOf p).length = t := by rw [ht]; simp
      rw [this] at h hc
      rw [← h]
      exact ⟨ht, by simpa using hc⟩
  · exact absurd h.symm hne
theorem refName_stop {path p : List UInt8} (h : Lib.hasPrefix path (headOf p) = false) : refName path p = [] := by
  unfold refName; rw [if_neg (by rw [h]; decide)]
def takeDir : Nat → List UInt8 → List UInt8 → List Nd → List Nd
  | 0, _, _, l => l
  | _ + 1, _, _, [] => []
  | f + 1, p, last, n :: l =>
    if refName n.path p = [] ∨ (Op.bytesLess (refName n.path p) last || refName n.path p == last) = true then n :: l
    else takeDir f p (refName n.path p) (if n.kind = 4 then takeDir f n.path [] l else l)
theorem takeDir_stop (f : Nat) (p last : List UInt8) (rest : List Nd) (h : StopsAt (headOf p) rest) : takeDir f p last rest = rest := by
  cases f with
  | zero => rfl
  | succ f =>
    cases rest with
    | nil => rfl
    | cons n l => unfold takeDir; rw [if_pos (.inl (refName_stop (h n l rfl)))]
mutual
theorem Tr.take_in : ∀ (t : Tr) (d : Nat) (p last nm : List UInt8) (rest : List Nd) (f : Nat), t.ok (d + 1) = true → mayName nm = true → (Op.bytesLess nm last || nm == last) = false → StopsAt (headOf (headOf p ++ nm)) rest → t.size ≤ f →
    takeDir (f + 1) p last (t.nodes (headOf p ++ nm) ++ rest) = takeDir f p nm rest
  | .leaf k x, d, p, last, nm, rest, f, h, hnm, hlt, hs, hf => by
    rw [Tr.ok] at h
    simp only [Bool.and_eq_true, decide_eq_true_eq] at h
    have e := refName_in p nm (mayName_ne hnm).2
    rw [Tr.nodes, List.cons_append, List.nil_append, takeDir]
    simp only [e]
    rw [if_neg (by rw [hlt]; simp [(mayName_ne hnm).1]), if_neg (by omega)]
  | .dir es, d, p, last, nm, rest, f, h, hnm, hlt, hs, hf => by
    rw [Tr.ok] at h
    rw [Tr.size] at hf
    have e := refName_in p nm (mayName_ne hnm).2
    rw [Tr.nodes, List.cons_append, takeDir]
    simp only [e]
    rw [if_neg (by rw [hlt]; simp [(mayName_ne hnm).1]), if_pos trivial, Es.take_in es (d + 1) (headOf p ++ nm) [] rest f h hs (by omega)]
theorem Es.take_in : ∀ (es : Es) (d : Nat) (p last : List UInt8) (rest : List Nd) (f : Nat), es.ok d last = true → StopsAt (headOf p) rest → es.size + 1 ≤ f → takeDir f p last (es.nodes p ++ rest) = rest
  | .nil, d, p, last, rest, f, h, hs, hf => by rw [Es.nodes]; exact takeDir_stop f p last rest hs
  | .cons nm t es, d, p, last, rest, f, h, hs, hf => by
    have h' := h
    rw [Es.ok] at h
    simp only [Bool.and_eq_true, Bool.not_eq_true', decide_eq_true_eq] at h
    obtain ⟨h1, h2, h3, h4, h5⟩ := h
    rw [Es.size] at hf
    have hp := Tr.size_pos t
    obtain ⟨f, rfl⟩ : ∃ g, f = g + 1 := ⟨f - 1, by omega⟩
    rw [Es.nodes, List.append_assoc, Tr.take_in t d p last nm (es.nodes p ++ rest) f h4 h1 h2 (Es.stops d nm p _ es rest nm rfl (mayName_ne h1).1 h5 hs) (by omega)]
    exact Es.take_in es d p nm rest f h5 hs (by omega)
end
end Go.Proofs.Ytncokgdfkbgflaa

namespace Go.Proofs.Ytncokgdfkbgflaa
def slashes (p : List UInt8) : Nat := p.count 47
def refNode (n : Nd) : Bool := okNd n && (decide (slashes n.path < 64) && mayName (match cutSlash n.path with | none => n.path | some (_, nm) => nm))
theorem cut_in (p nm : List UInt8) (h : 47 ∉ nm) : (match cutSlash (headOf p ++ nm) with | none => headOf p ++ nm | some (_, x) => x) = nm := by
  by_cases hp : p = []
  · subst hp
    rw [show headOf [] ++ nm = nm from rfl, cutSlash_none nm h]
  · have e : headOf p ++ nm = p ++ 47 :: nm := by rw [headOf_ne hp]; simp
    rw [e, cutSlash_some p nm h]
theorem takeDir_tree : ∀ (f : Nat) (l : List Nd) (p last : List UInt8) (d : Nat), l.length < f → slashes (headOf p) = d → (∀ n ∈ l, refNode n = true) →
    ∃ es, l = Es.nodes p es ++ takeDir f p last l ∧ Es.ok d last es = true
  | 0, l, p, last, d, h, _, _ => by omega
  | f + 1, [], p, last, d, _, _, _ => ⟨.nil, by rw [Es.nodes]; rfl, by rw [Es.ok]⟩
  | f + 1, n :: l, p, last, d, hf, hd, hok => by
    unfold takeDir
    split
    · exact ⟨.nil, by rw [Es.nodes]; rfl, by rw [Es.ok]⟩
    · rename_i hc
      simp only [not_or, Bool.not_eq_true] at hc
      obtain ⟨hc1, hc2⟩ := hc
      obtain ⟨hp, h47⟩ := refName_is rfl hc1
      obtain ⟨nm, hnm⟩ : ∃ nm, nm = refName n.path p := ⟨_, rfl⟩
      rw [← hnm] at hp h47 hc1 hc2 ⊢
      have hn := hok n List.mem_cons_self
      unfold refNode at hn
      simp only [Bool.and_eq_true, decide_eq_true_eq] at hn
      obtain ⟨hk, hs, hm⟩ := hn
      rw [hp, cut_in p nm h47] at hm
      have hsl : slashes n.path = d := by
        rw [hp]; unfold slashes at hd ⊢
        rw [List.count_append, hd, List.count_eq_zero_of_not_mem h47]; rfl
      have hok' := fun x hx => hok x (List.mem_cons_of_mem _ hx)
      rw [List.length_cons] at hf
      rcases okNd_kind hk with hk3 | ⟨hk4, hdt⟩
      · rw [if_neg (by omega)]
        obtain ⟨es, e1, e2⟩ := takeDir_tree f l p nm d (by omega) hd hok'
        refine ⟨.cons nm (.leaf n.kind n.data) es, ?_, ?_⟩
        · rw [Es.nodes, Tr.nodes, ← hp]
          conv => lhs; rw [e1]
          rfl
        · rw [Es.ok, hm, hc2, decide_eq_true (by omega), Tr.ok, decide_eq_true hk3, e2, okNd_path, hk]; rfl
      · rw [if_pos hk4]
        have hsl2 : slashes (headOf n.path) = d + 1 := by
          rw [headOf_ne (by rw [hp]; intro e; exact hc1 (List.append_eq_nil_iff.1 e).2)]
          unfold slashes at hsl ⊢
          rw [List.count_append, hsl]; rfl
        obtain ⟨es1, e1, e2⟩ := takeDir_tree f l n.path [] (d + 1) (by omega) hsl2 hok'
        have hlen : (takeDir f n.path [] l).length ≤ l.length := by
          conv => rhs; rw [e1]
          rw [List.length_append]; omega
        obtain ⟨es2, f1, f2⟩ := takeDir_tree f (takeDir f n.path [] l) p nm d (by omega) hd (fun x hx => hok' x (by rw [e1]; exact List.mem_append_right _ hx))
        refine ⟨.cons nm (.dir es1) es2, ?_, ?_⟩
        · rw [Es.nodes, Tr.nodes, ← hp]
          have : n = ⟨n.path, 4, []⟩ := by rw [← hk4, ← hdt]
          conv => lhs; rw [this, e1, f1]
          simp [List.append_assoc]
        · rw [Es.ok, hm, hc2, decide_eq_true (by omega), Tr.ok, f2, e2]; rfl
end Go.Proofs.Ytncokgdfkbgflaa

namespace Go.Proofs.Ytncokgdfkbgflaa
def refMay (l : List Nd) : Bool :=
  match l with
  | [] => false
  | n :: r => decide ((n :: r).length ≤ 256) && (n.path == [] && (okNd n && (r.all refNode && (if n.kind = 4 then (takeDir (r.length + 1) [] [] r).isEmpty else r.isEmpty))))
theorem refMay_cons (n : Nd) (r : List Nd) : refMay (n :: r) = (decide ((n :: r).length ≤ 256) && (n.path == [] && (okNd n && (r.all refNode && (if n.kind = 4 then (takeDir (r.length + 1) [] [] r).isEmpty else r.isEmpty))))) := rfl
theorem refNode_in (p nm : List UInt8) (k : Int) (x : List UInt8) (hnm : mayName nm = true) (hd : slashes (headOf p) < 64) (hk : okNd ⟨[], k, x⟩ = true) : refNode ⟨headOf p ++ nm, k, x⟩ = true := by
  have h47 := (mayName_ne hnm).2
  unfold refNode
  have hs : slashes (headOf p ++ nm) < 64 := by
    unfold slashes at hd ⊢
    rw [List.count_append, List.count_eq_zero_of_not_mem h47]; exact hd
  simp only
  rw [cut_in p nm h47, hnm, decide_eq_true hs]
  have : okNd ⟨headOf p ++ nm, k, x⟩ = okNd ⟨[], k, x⟩ := rfl
  rw [this, hk]; rfl
mutual
theorem Tr.ref_nodes : ∀ (t : Tr) (d : Nat) (p nm : List UInt8), t.ok (d + 1) = true → mayName nm = true → slashes (headOf p) = d → d < 64 → ∀ n ∈ t.nodes (headOf p ++ nm), refNode n = true
  | .leaf k x, d, p, nm, h, hnm, hd, h64 => by
    rw [Tr.nodes]
    rw [Tr.ok] at h
    simp only [Bool.and_eq_true] at h
    intro n hn
    rw [List.mem_singleton.1 hn]
    exact refNode_in p nm k x hnm (by omega) h.2
  | .dir es, d, p, nm, h, hnm, hd, h64 => by
    rw [Tr.nodes]
    rw [Tr.ok] at h
    intro n hn
    rcases List.mem_cons.1 hn with rfl | hn
    · exact refNode_in p nm 4 [] hnm (by omega) (okNd_dir [])
    · refine Es.ref_nodes es (d + 1) [] (headOf p ++ nm) h ?_ n hn
      obtain ⟨hne, h47⟩ := mayName_ne hnm
      rw [headOf_ne (by intro e; exact hne (List.append_eq_nil_iff.1 e).2)]
      unfold slashes at hd ⊢
      rw [List.count_append, List.count_append, hd, List.count_eq_zero_of_not_mem h47]; rfl
theorem Es.ref_nodes : ∀ (es : Es) (d : Nat) (last p : List UInt8), es.ok d last = true → slashes (headOf p) = d → ∀ n ∈ es.nodes p, refNode n = true
  | .nil, d, last, p, h, hd => by rw [Es.nodes]; intro n hn; simp at hn
  | .cons nm t es, d, last, p, h, hd => by
    rw [Es.ok] at h
    simp only [Bool.and_eq_true, decide_eq_true_eq] at h
    rw [Es.nodes]
    intro n hn
    rcases List.mem_append.1 hn with hn | hn
    · exact Tr.ref_nodes t d p nm h.2.2.2.1 h.1 hd h.2.2.1 n hn
    · exact Es.ref_nodes es d nm p h.2.2.2.2 hd n hn
end

theorem refMay_is (l : List Nd) : refMay l = May l := by
  rw [Bool.eq_iff_iff]
  constructor
  · intro h
    cases l with
    | nil => cases h
    | cons n r =>
      rw [refMay_cons] at h
      simp only [Bool.and_eq_true, decide_eq_true_eq] at h
      obtain ⟨h1, h2, h3, h4, h5⟩ := h
      have hp : n.path = [] := by simpa using h2
      have hall : ∀ x ∈ r, refNode x = true := fun x hx => List.all_eq_true.1 h4 x hx
      rcases okNd_kind h3 with hk | ⟨hk, hd⟩
      · rw [if_neg (by omega)] at h5
        obtain rfl : r = [] := by simpa using h5
        have := tree_may (.leaf n.kind n.data) (by rw [Tr.ok, decide_eq_true hk, okNd_path, h3]; rfl) (by rw [Tr.size]; decide)
        rw [Tr.nodes, ← hp] at this
        exact this
      · rw [if_pos hk] at h5
        obtain ⟨es, e1, e2⟩ := takeDir_tree (r.length + 1) r [] [] 0 (by omega) rfl hall
        have h6 : takeDir (r.length + 1) [] [] r = [] := by simpa using h5
        rw [h6, List.append_nil] at e1
        have hsz : (Tr.dir es).size ≤ 256 := by
          rw [← Tr.nodes_length [] (.dir es), Tr.nodes, List.length_cons, ← e1]
          rw [List.length_cons] at h1; exact h1
        have := tree_may (.dir es) (by rw [Tr.ok]; exact e2) hsz
        rw [Tr.nodes, ← e1] at this
        have hn : n = ⟨[], 4, []⟩ := by
          cases n
          simp only at hp hk hd
          rw [hp, hk, hd]
        rw [hn]; exact this
  · intro h
    obtain ⟨t, ht, hl⟩ := may_tree l h
    have h256 := (show l.length ≤ 256 from by
      cases l with
      | nil => simp
      | cons n r => rw [May_cons] at h; simp only [Bool.and_eq_true, decide_eq_true_eq] at h; exact h.1)
    subst hl
    cases t with
    | leaf k x =>
      rw [Tr.nodes]
      rw [Tr.ok] at ht
      simp only [Bool.and_eq_true, decide_eq_true_eq] at ht
      rw [refMay_cons, if_neg (by show ¬ k = 4; omega), ht.2]
      simp
    | dir es =>
      rw [Tr.nodes] at h256 ⊢
      rw [Tr.ok] at ht
      have hr := Es.ref_nodes es 0 [] [] ht rfl
      have htk := Es.take_in es 0 [] [] [] ((es.nodes []).length + 1) ht (fun n l e => by cases e) (by rw [Es.nodes_length]; exact Nat.le_refl _)
      rw [List.append_nil] at htk
      rw [refMay_cons, if_pos rfl, htk, okNd_dir, List.all_eq_true.2 hr, decide_eq_true h256]
      rfl
end Go.Proofs.Ytncokgdfkbgflaa

namespace Go.Proofs.Ytncokgdfkbgflaa
set_option linter.unusedVariables false
set_option linter.unusedSimpArgs false
open Go.RowKit Go.Proofs.YtncokgdfkbgflaaW.PrintWords Go.Proofs.YtncokgdfkbgflaaW.PrintMore P
theorem bt_is (s : ByteArray) (i : Nat) (h : i < s.data.toList.length) : bt s (i : Int) = ((s.data.toList[i]).toNat : Int) := by
  have h2 : (i : Int).toNat < s.size := by rw [Int.toNat_natCast, Lib.size_eq]; exact h
  rw [← bt_at s (i : Int) h2]
  rfl
theorem wrap_up (j : Nat) (h : j < 4611686018427387904) : wrap64 ((j : Int) + 1) = ((j + 1 : Nat) : Int) := by unfold wrap64; omega
theorem has_rounds (s : ByteArray) (c : UInt8) (hs : s.size < 4611686018427387904) : ∀ (m k i : Nat), s.data.toList.length - i ≤ m → i ≤ s.data.toList.length → m + 1 ≤ k → shelfmarkref10_has.l0 k s (c.toNat : Int) (i : Int) = some ((s.data.toList.drop i).contains c) := by
  have hz : s.size = s.data.toList.length := Lib.size_eq s
  intro m
  induction m with
  | zero =>
    intro k i h1 h2 h3
    obtain ⟨k, rfl⟩ : ∃ g, k = g + 1 := ⟨k - 1, by omega⟩
    rw [shelfmarkref10_has.l0, if_neg (by omega), List.drop_eq_nil_of_le (by omega)]
    rfl
  | succ m ih =>
    intro k i h1 h2 h3
    obtain ⟨k, rfl⟩ : ∃ g, k = g + 1 := ⟨k - 1, by omega⟩
    by_cases hi : i < s.data.toList.length
    · rw [shelfmarkref10_has.l0, if_pos (by omega), if_pos (by omega), bt_is s i hi, List.drop_eq_getElem_cons hi]
      by_cases hc : s.data.toList[i] = c
      · rw [if_pos (by rw [hc]), hc]
        simp
      · rw [if_neg (by
          intro e
          apply hc
          apply UInt8.toNat_inj.mp
          omega), wrap_up i (by omega), ih k (i + 1) (by omega) (by omega) (by omega)]
        congr 1
        rw [List.contains_cons, beq_eq_false_iff_ne.2 (fun e => hc e.symm), Bool.false_or]
    · rw [shelfmarkref10_has.l0, if_neg (by omega), List.drop_eq_nil_of_le (by omega)]
      rfl
theorem has_f (s : ByteArray) (c : UInt8) (hs : s.size < 4611686018427387904) (k : Nat) (hk : s.size + 1 ≤ k) : shelfmarkref10_has.f k s (c.toNat : Int) = some (s.data.toList.contains c) := by
  have hz : s.size = s.data.toList.length := Lib.size_eq s
  have := has_rounds s c hs s.data.toList.length k 0 (by omega) (by omega) (by omega)
  rw [List.drop_zero] at this
  exact this
theorem hasSep_is (l : List UInt8) : hasSep l = (l.contains 0 || l.contains 47) := by
  induction l with
  | nil => rfl
  | cons b l ih =>
    show ((b == 0 || b == 47) || hasSep l) = _
    rw [ih, List.contains_cons, List.contains_cons]
    have e1 : (b == 0) = ((0 : UInt8) == b) := by rw [Bool.eq_iff_iff, beq_iff_eq, beq_iff_eq]; exact ⟨Eq.symm, Eq.symm⟩
    have e2 : (b == 47) = ((47 : UInt8) == b) := by rw [Bool.eq_iff_iff, beq_iff_eq, beq_iff_eq]; exact ⟨Eq.symm, Eq.symm⟩
    rw [e1, e2]
    cases ((0 : UInt8) == b) <;> cases ((47 : UInt8) == b) <;> simp
theorem hasZero_is (l : List UInt8) : hasZero l = l.contains 0 := by
  induction l with
  | nil => rfl
  | cons b l ih =>
    show ((b == 0) || hasZero l) = _
    rw [ih, List.contains_cons]
    have e1 : (b == 0) = ((0 : UInt8) == b) := by rw [Bool.eq_iff_iff, beq_iff_eq, beq_iff_eq]; exact ⟨Eq.symm, Eq.symm⟩
    rw [e1]
theorem refMayName_f (s : ByteArray) (k : Nat) (hk : 300 ≤ k) : shelfmarkref10_MayName.f k s = some (mayName s.data.toList) := by
  have hz : s.size = s.data.toList.length := Lib.size_eq s
  unfold shelfmarkref10_MayName.f mayName
  by_cases h0 : s.data.toList = []
  · rw [h0] at hz ⊢
    rw [if_neg (by rw [List.length_nil] at hz; omega)]
    rfl
  · have h0' : (s.data.toList == []) = false := beq_eq_false_iff_ne.2 h0
    have hpos : 0 < s.data.toList.length := Nat.pos_of_ne_zero (fun e => h0 (List.length_eq_zero_iff.1 e))
    rw [if_pos (by omega), h0']
    by_cases h1 : s.data.toList.length ≤ 255
    · rw [if_pos (by omega), decide_eq_true h1, hasSep_is]
      have e0 : shelfmarkref10_has.f k s 0 = some (s.data.toList.contains 0) := has_f s 0 (by omega) k (by omega)
      have e47 : shelfmarkref10_has.f k s 47 = some (s.data.toList.contains 47) := has_f s 47 (by omega) k (by omega)
      rw [e0, e47]
      simp only [Option.bind_some]
      rw [toList_data]
      cases s.data.toList.contains 0 with
      | true => simp
      | false =>
        cases s.data.toList.contains 47 with
        | true => simp
        | false =>
          by_cases h5 : s.data.toList = [46]
          · simp [h5]
          · simp [h5, bne]
    · rw [if_neg (by omega), decide_eq_false h1]
      simp
end Go.Proofs.Ytncokgdfkbgflaa

namespace Go.Proofs.Ytncokgdfkbgflaa
set_option linter.unusedVariables false
set_option linter.unusedSimpArgs false
open Go.RowKit Go.Proofs.YtncokgdfkbgflaaW.PrintWords Go.Proofs.YtncokgdfkbgflaaW.PrintMore P
def Tame (s : List UInt8) : Prop := True
theorem mayName_f (s : ByteArray) (h : Tame s.data.toList) : nar_MayName.f s = some (mayName s.data.toList) := by
  unfold nar_MayName.f mayName
  rw [toList_data]
  by_cases h0 : s.data.toList = []
  · rw [if_pos h0, h0]; rfl
  · rw [if_neg h0]
    have h1 : (s.data.toList == []) = false := beq_eq_false_iff_ne.2 h0
    rw [h1]
    by_cases h2 : (s.size : Int) ≤ 255
    · rw [if_pos h2]
      have h3 : s.data.toList.length ≤ 255 := by rw [← Lib.size_eq]; omega
      have h4 : strings_ContainsAny.f s ⟨#[0, 47]⟩ = some (hasSep s.data.toList) := by
        unfold strings_ContainsAny.f
        rw [if_pos ⟨rfl, by omega⟩]
      rw [h4, decide_eq_true h3]
      simp only [Option.bind_some]
      cases hasSep s.data.toList with
      | true => simp
      | false =>
        by_cases h5 : s.data.toList = [46]
        · simp [h5]
        · simp [h5, bne]
    · rw [if_neg h2]
      have h3 : ¬ s.data.toList.length ≤ 255 := by rw [← Lib.size_eq]; omega
      rw [decide_eq_false h3]
      simp
def lv (x : S74) : Lv := (x.f0.data.toList, x.f1.data.toList)
theorem idx_lv (a : ByteArray) : ∀ (l : List S74), idxOf (isLevel a) l = idxOf (fun x : Lv => x.1 == a.data.toList) (l.map lv)
  | [] => rfl
  | x :: l => by
    have ih := idx_lv a l
    have e : isLevel a x = ((lv x).1 == a.data.toList) := by simp [isLevel, lv, toList_data]
    simp only [idxOf, List.map_cons, ih, e]
theorem idxOf_lt {α : Type} (p : α → Bool) : ∀ (l : List α) (i : Nat), idxOf p l = i → i < l.length
  | [], i, h => by simp [idxOf] at h
  | x :: l, i, h => by
    have hg := idxOf_ge p l
    unfold idxOf at h
    rw [List.length_cons]
    split at h
    · omega
    · split at h
      · omega
      · have := idxOf_lt p l (i - 1) (by omega)
        omega
theorem within_f (op : List S74) (p : ByteArray) (hp : p.size < 4611686018427387904) :
    (∃ i nm, nar_within.f op p = some (i, nm, false) ∧ withinP (op.map lv) p.data.toList = none) ∨
    (∃ (i : Nat) (nm : ByteArray), i < op.length ∧ nar_within.f op p = some ((i : Int), nm, true) ∧ withinP (op.map lv) p.data.toList = some (i, nm.data.toList)) := by
  have key : ∀ (a nm : ByteArray), (∃ i nm', some (idxOf (isLevel a) op, nm, decide (0 ≤ idxOf (isLevel a) op)) = some (i, nm', false) ∧ (if idxOf (fun x : Lv => x.1 == a.data.toList) (op.map lv) < 0 then (none : Option (Nat × List UInt8)) else some ((idxOf (fun x : Lv => x.1 == a.data.toList) (op.map lv)).toNat, nm.data.toList)) = none) ∨
      (∃ (i : Nat) (nm' : ByteArray), i < op.length ∧ some (idxOf (isLevel a) op, nm, decide (0 ≤ idxOf (isLevel a) op)) = some ((i : Int), nm', true) ∧ (if idxOf (fun x : Lv => x.1 == a.data.toList) (op.map lv) < 0 then (none : Option (Nat × List UInt8)) else some ((idxOf (fun x : Lv => x.1 == a.data.toList) (op.map lv)).toNat, nm.data.toList)) = some (i, nm'.data.toList)) := by
    intro a nm
    rw [← idx_lv]
    by_cases h : 0 ≤ idxOf (isLevel a) op
    · right
      obtain ⟨i, hi⟩ := Int.eq_ofNat_of_zero_le h
      refine ⟨i, nm, idxOf_lt _ _ _ hi, ?_, ?_⟩
      · rw [decide_eq_true h, hi]
      · rw [if_neg (by omega), hi, Int.toNat_natCast]
    · left
      refine ⟨_, nm, by rw [decide_eq_false h], ?_⟩
      rw [if_pos (by omega)]
  unfold nar_within.f withinP
  rw [if_pos hp]
  have hz : p.data.size = p.data.toList.length := by simp
  rcases Lib.lastIndexByte_spec p 47 with ⟨h1, h2⟩ | ⟨i, hi, h1, h2, h3⟩
  · have hn : 47 ∉ p.data.toList := by
      intro hm
      obtain ⟨j, hj, hj2⟩ := List.getElem_of_mem hm
      have h4 := h2 j (by rw [Lib.size_eq]; exact hj)
      apply h4
      rw [getElem!_pos p.data j (by rw [hz]; exact hj)]
      have : p.data[j]'(by rw [hz]; exact hj) = 47 := by rw [← hj2]; simp
      rw [this]; rfl
    rw [cutSlash_none _ hn, if_pos (by omega)]
    exact key ⟨#[]⟩ p
  · have hi' : i < p.data.toList.length := by rw [← Lib.size_eq]; exact hi
    have e47 : p.data.toList[i] = 47 := by
      rw [getElem!_pos p.data i (by rw [hz]; exact hi')] at h2
      have : ((p.data.toList[i]).toNat : Int) = 47 := by simpa using h2
      apply UInt8.toNat_inj.mp
      show _ = 47
      omega
    have hn : 47 ∉ p.data.toList.drop (i + 1) := by
      intro hm
      obtain ⟨j, hj, hj2⟩ := List.getElem_of_mem hm
      rw [List.length_drop] at hj
      rw [List.getElem_drop] at hj2
      have h4 := h3 (i + 1 + j) (by omega) (by rw [Lib.size_eq]; omega)
      apply h4
      rw [getElem!_pos p.data (i + 1 + j) (by rw [hz]; omega)]
      have : p.data[i + 1 + j]'(by rw [hz]; omega) = 47 := by rw [← hj2]; simp
      rw [this]; rfl
    have hcut : cutSlash p.data.toList = some (p.data.toList.take i, p.data.toList.drop (i + 1)) := by
      have h5 := cutSlash_some (p.data.toList.take i) _ hn
      rw [← h5]
      congr 1
      conv => lhs; rw [← List.take_append_drop i p.data.toList]
      rw [List.drop_eq_getElem_cons hi', e47]
    rw [hcut, if_neg (by omega)]
    simp only
    by_cases hz0 : Lib.lastIndexByte p 47 = 0
    · rw [if_pos hz0]
      have : i = 0 := by omega
      subst this
      exact .inl ⟨0, ⟨#[]⟩, rfl, by simp⟩
    · rw [if_neg hz0, if_neg (by
        intro h6
        have h7 := congrArg List.length h6
        rw [List.length_take, List.length_nil] at h7
        omega), h1, Int.toNat_natCast]
      have ea : (p.extract 0 i).data.toList = p.data.toList.take i := by simp [ByteArray.data_extract]
      have eb : (p.extract (i + 1) p.size).data.toList = p.data.toList.drop (i + 1) := by
        rw [ByteArray.data_extract, Array.toList_extract, List.extract_eq_take_drop]
        exact List.take_of_length_le (by rw [List.length_drop, ← Lib.size_eq]; omega)
      have := key (p.extract 0 i) (p.extract (i + 1) p.size)
      rw [ea, eb] at this
      exact this
theorem le_step {op : List S74} {i : Nat} (hi : i < op.length) : (op.map lv).getD i ([], []) = lv op[i] := by
  simp [List.getD_eq_getElem?_getD, List.getElem?_eq_getElem hi]
set_option maxHeartbeats 400000 in
theorem j3_ok (k : Nat) (op : List S74) (i : Nat) (hi : i < op.length) (hop : op.length ≤ 1000001) (nm : ByteArray) (y : List S37) (L : Int) (j : Int) (x0 : ByteArray) (x1 : Int) (x2 : ByteArray) :
    nar_May.j3 (k + 1) op (i : Int) nm y L j false x0 x1 x2 = nar_May.l0 k ((op.take (i + 1)).set i ⟨op[i].f0, nm⟩ ++ (if x1 = 4 then [⟨x0, ⟨#[]⟩⟩] else [])) y L (wrap64 (j + 1)) := by
  have hwi : wrap64 ((i : Int) + 1) = ((i + 1 : Nat) : Int) := by unfold wrap64; omega
  have hlen : (op.take (i + 1)).length = i + 1 := by rw [List.length_take]; omega
  have c1 : (0 : Int) ≤ ((i + 1 : Nat) : Int) := by omega
  have c2 : ((i + 1 : Nat) : Int) ≤ (op.length : Int) := by omega
  have c3 : (0 : Int) ≤ (i : Int) := by omega
  unfold nar_May.j3
  rw [hwi, Int.toNat_natCast, Int.toNat_natCast, if_neg (by decide), if_pos c1, if_pos c2, Option.bind_some, if_pos c3, if_pos (by rw [hlen]; omega), Option.bind_some]
  rw [rd74_at _ i (by rw [hlen]; omega), List.getElem_take]
  by_cases h4 : x1 = 4
  · rw [if_pos h4, if_pos h4, if_pos (by rw [List.length_set, hlen]; omega)]
  · rw [if_neg h4, if_neg h4, List.append_nil]
theorem wrap_next (j : Nat) (h : j ≤ 1000000) : wrap64 ((j : Int) + 1) = ((j + 1 : Nat) : Int) := by unfold wrap64; omega
theorem next_len (op : List S74) (i j : Nat) (hi : i < op.length) (h : op.length ≤ j + 1) (z : S74) (x0 : ByteArray) (x1 : Int) : ((op.take (i + 1)).set i z ++ (if x1 = 4 then [(⟨x0, ⟨#[]⟩⟩ : S74)] else [])).length ≤ j + 1 + 1 := by
  rw [List.length_append, List.length_set, List.length_take]
  split
  · simp only [List.length_cons, List.length_nil]; omega
  · simp only [List.length_nil]; omega
theorem map_lv_next (op : List S74) (i : Nat) (hi : i < op.length) (nm x0 : ByteArray) (x1 : Int) : ((op.take (i + 1)).set i (⟨op[i].f0, nm⟩ : S74) ++ (if x1 = 4 then [(⟨x0, ⟨#[]⟩⟩ : S74)] else [])).map lv =
    ((op.map lv).take (i + 1)).set i ((lv op[i]).1, nm.data.toList) ++ (if x1 = 4 then [(x0.data.toList, [])] else []) := by
  rw [List.map_append, List.map_set, List.map_take]
  congr 1
  split <;> rfl
set_option maxHeartbeats 400000 in
theorem may_rounds (y : List S37) (hy : y.length ≤ 1000000) (hs : ∀ x ∈ y, x.f0.size < 4611686018427387904 ∧ ∀ nm, (∃ a, cutSlash x.f0.data.toList = some (a, nm) ∨ nm = x.f0.data.toList) → Tame nm) :
    ∀ (m : Nat) (k j : Nat) (op : List S74), y.length - j ≤ m → j ≤ y.length → op.length ≤ j + 1 → 2 * m + 1 ≤ k → nar_May.l0 k op y (y.length : Int) (j : Int) = some (mayGo (op.map lv) ((nds y).drop j)) := by
  intro m
  induction m with
  | zero =>
    intro k j op h1 h2 h3 h4
    obtain ⟨k, rfl⟩ : ∃ k', k = k' + 1 := ⟨k - 1, by omega⟩
    have hj : j = y.length := by omega
    subst hj
    simp only [nar_May.l0]
    rw [if_neg (by omega), List.drop_eq_nil_of_le (by simp [nds])]
    rfl
  | succ m ih =>
    intro k j op h1 h2 h3 h4
    by_cases hj : j = y.length
    · subst hj
      obtain ⟨k, rfl⟩ : ∃ k', k = k' + 1 := ⟨k - 1, by omega⟩
      simp only [nar_May.l0]
      rw [if_neg (by omega), List.drop_eq_nil_of_le (by simp [nds])]
      rfl
    · obtain ⟨k, rfl⟩ : ∃ k', k = k' + 1 + 1 := ⟨k - 2, by omega⟩
      have hj : j < y.length := by omega
      obtain ⟨x, hx⟩ : ∃ x, x = y[j] := ⟨_, rfl⟩
      have hsx := hs x (by rw [hx]; exact List.getElem_mem hj)
      have hopl : op.length ≤ 1000001 := by omega
      have hjl : j ≤ 1000000 := by omega
      have hm1 : y.length - (j + 1) ≤ m := by omega
      have hj1 : j + 1 ≤ y.length := by omega
      have hk1 : 2 * m + 1 ≤ k := by omega
      have hdrop : (nds y).drop j = nd x :: (nds y).drop (j + 1) := by
        rw [List.drop_eq_getElem_cons (by simpa [nds] using hj)]
        congr 1
        simp [nds, hx]
      rw [hdrop, nar_May.l0, if_pos (by omega), if_pos (by omega), if_pos (by omega), rd37_at y j hj, ← hx]
      have hp : (nd x).path = x.f0.data.toList := rfl
      have hkd : (nd x).kind = x.f1 := rfl
      simp only [mayGo, mayStep, hp, hkd]
      rcases within_f op x.f0 hsx.1 with ⟨i, nm, e1, e2⟩ | ⟨i, nm, hi, e1, e2⟩
      · rw [e1, e2]
        simp only [Option.bind_some]
        rw [if_neg (by decide)]
        simp only [nar_May.j3]
        rw [if_pos (by simp)]
      · have htame : Tame nm.data.toList := by
          apply hsx.2
          unfold withinP at e2
          split at e2
          · split at e2
            · cases e2
            · rename_i hc _
              injection e2 with e2
              exact ⟨[], .inr (congrArg Prod.snd e2).symm⟩
          · rename_i a n hc
            split at e2
            · cases e2
            · split at e2
              · cases e2
              · injection e2 with e2
                refine ⟨a, .inl ?_⟩
                rw [hc, show nm.data.toList = n from (congrArg Prod.snd e2).symm]
        rw [e1, e2]
        simp only [Option.bind_some]
        rw [if_pos (by simp), mayName_f nm htame]
        simp only [Option.bind_some]
        have hlv := le_step hi
        rw [hlv]
        cases hmn : mayName nm.data.toList with
        | false =>
          rw [if_neg (by decide)]
          simp only [nar_May.j3, Bool.false_and]
          rw [if_pos (by simp)]
          simp
        | true =>
          rw [if_pos (by simp), if_pos (by omega), if_pos (by omega), rd74_at op i hi, toList_data, toList_data]
          have hl2 : (lv op[i]).2 = op[i].f1.data.toList := rfl
          rw [hl2]
          cases hcmp : (Op.bytesLess nm.data.toList op[i].f1.data.toList || nm.data.toList == op[i].f1.data.toList) with
          | true =>
            rw [if_pos (by simp)]
            simp only [nar_May.j3]
            rw [if_pos (by simp)]
            simp
          | false =>
            rw [if_neg (by decide)]
            have hge : decide ((i : Int) ≥ 64) = !decide (i < 64) := by
              rw [Bool.eq_iff_iff]; simp; omega
            rw [hge]
            cases h64 : decide (i < 64) with
            | false =>
              simp only [nar_May.j3]
              rw [if_pos (by simp)]
              simp
            | true =>
              have hwi : wrap64 ((i : Int) + 1) = ((i + 1 : Nat) : Int) := by unfold wrap64; omega
              rw [show (!true) = false from rfl, j3_ok k op i hi hopl, wrap_next j hjl, ih k (j + 1) _ hm1 hj1 (next_len op i j hi h3 _ _ _) hk1, map_lv_next op i hi]
              rfl
theorem okNode_nd (x : S37) : okNode x = okNd (nd x) := by
  have hs : x.f2.size = x.f2.data.toList.length := Lib.size_eq x.f2
  simp only [okNode, okNd, nd, hs]
  rfl
def TameAll (l : List S37) : Prop := ∀ x ∈ l, x.f0.size < 4611686018427387904 ∧ ∀ nm, (∃ a, cutSlash x.f0.data.toList = some (a, nm) ∨ nm = x.f0.data.toList) → Tame nm
theorem may_f0 (l : List S37) (hs : TameAll l) : nar_May.f (2 * l.length + 10) l = some (May (nds l)) := by
  unfold nar_May.f
  cases l with
  | nil => simp [nar_May.j0, nds, May]
  | cons x r =>
    have hlen : ((x :: r).length : Int) = (r.length : Int) + 1 := by simp
    have hnds : nds (x :: r) = nd x :: nds r := rfl
    have hnl : (nd x :: nds r).length = r.length + 1 := by simp [nds]
    rw [hnds, May, hnl, if_neg (by omega)]
    by_cases h256 : r.length + 1 ≤ 256
    · rw [decide_eq_true h256, if_neg (by omega), if_pos (by omega), show rd_T37 (x :: r) 0 = x from rfl, toList_data]
      have hp : (nd x).path = x.f0.data.toList := rfl
      have hkd : (nd x).kind = x.f1 := rfl
      rw [hp, hkd]
      by_cases h0 : x.f0.data.toList = []
      · have hall : containsMay1.f (x :: r) = some (!((nd x :: nds r).all okNd)) := by
          unfold containsMay1.f
          congr 1
          have : ∀ l : List S37, (l.any fun x => !okNode x) = !((nds l).all okNd) := by
            intro l
            induction l with
            | nil => rfl
            | cons y l ih =>
              show ((!okNode y) || (l.any fun x => !okNode x)) = !(okNd (nd y) && (nds l).all okNd)
              rw [ih, okNode_nd, Bool.not_and]
          exact this (x :: r)
        rw [if_pos h0, hall, h0]
        simp only [Option.bind_some]
        cases hok : (nd x :: nds r).all okNd with
        | false =>
          rw [show 2 * (x :: r).length + 10 = (2 * (x :: r).length + 9) + 1 from rfl]
          simp [nar_May.j0]
        | true =>
          have hgo := may_rounds r (by omega) (fun y hy => hs y (List.mem_cons_of_mem _ hy)) r.length (2 * (x :: r).length + 8) 0
          have hfuel : 2 * r.length + 1 ≤ 2 * (x :: r).length + 8 := by rw [List.length_cons]; omega
          rw [show 2 * (x :: r).length + 10 = (2 * (x :: r).length + 8) + 1 + 1 from rfl]
          simp only [nar_May.j0]
          rw [if_neg (by decide), if_pos (by omega), show rd_T37 (x :: r) 0 = x from rfl]
          have hz : ((0 : Nat) : Int) = 0 := rfl
          by_cases h4 : x.f1 = 4
          · rw [if_pos h4, if_pos (by decide), if_pos h4]
            have := hgo ([] ++ [(⟨⟨#[]⟩, ⟨#[]⟩⟩ : S74)]) (by omega) (by omega) (by simp) hfuel
            simp only [nar_May.j1]
            rw [if_pos (by omega)]
            simp only [Option.bind_some, List.drop_succ_cons, List.drop_zero]
            rw [hz] at this
            rw [this]
            rfl
          · rw [if_neg h4, if_neg h4]
            have := hgo [] (by omega) (by omega) (by simp) hfuel
            simp only [nar_May.j1]
            rw [if_pos (by omega)]
            simp only [Option.bind_some, List.drop_succ_cons, List.drop_zero]
            rw [hz] at this
            rw [this]
            rfl
      · rw [if_neg h0, beq_eq_false_iff_ne.2 h0, show 2 * (x :: r).length + 10 = (2 * (x :: r).length + 9) + 1 from rfl]
        simp [nar_May.j0]
    · rw [decide_eq_false h256, if_pos (by omega), show 2 * (x :: r).length + 10 = (2 * (x :: r).length + 9) + 1 from rfl]
      simp [nar_May.j0]
theorem may_f (l : List S37) (hs : TameAll l) (k : Nat) (hk : 2 * l.length + 10 ≤ k) : nar_May.f k l = some (May (nds l)) := leo_up (nar_May.mono l) (may_f0 l hs) k hk
theorem may_is (l : List S37) (hs : TameAll l) : mayC l = some (May (nds l)) := mayC_of (may_f0 l hs)
theorem tame_all (l : List S37) (hs : ∀ x ∈ l, x.f0.size < 4611686018427387904) : TameAll l := fun x hx => ⟨hs x hx, fun nm _ => trivial⟩
end Go.Proofs.Ytncokgdfkbgflaa

namespace Go.Proofs.Ytncokgdfkbgflaa
set_option linter.unusedVariables false
set_option linter.unusedSimpArgs false
open Go.RowKit Go.Proofs.YtncokgdfkbgflaaW.PrintWords Go.Proofs.YtncokgdfkbgflaaW.PrintMore P
theorem deep_rounds (s : ByteArray) (hs : s.size < 4611686018427387904) : ∀ (m k i c : Nat), s.data.toList.length - i ≤ m → i ≤ s.data.toList.length → c ≤ i + 1 → m + 1 ≤ k → shelfmarkref10_deep.l0 k s (c : Int) (i : Int) = some (((c + (s.data.toList.drop i).count 47 : Nat)) : Int) := by
  have hz : s.size = s.data.toList.length := Lib.size_eq s
  intro m
  induction m with
  | zero =>
    intro k i c h1 h2 h4 h3
    obtain ⟨k, rfl⟩ : ∃ g, k = g + 1 := ⟨k - 1, by omega⟩
    rw [shelfmarkref10_deep.l0, if_neg (by omega), List.drop_eq_nil_of_le (by omega)]
    rfl
  | succ m ih =>
    intro k i c h1 h2 h4 h3
    obtain ⟨k, rfl⟩ : ∃ g, k = g + 1 := ⟨k - 1, by omega⟩
    by_cases hi : i < s.data.toList.length
    · rw [shelfmarkref10_deep.l0, if_pos (by omega), if_pos (by omega), bt_is s i hi, List.drop_eq_getElem_cons hi]
      by_cases hc : s.data.toList[i] = 47
      · rw [if_pos (by rw [hc]; rfl), wrap_up i (by omega), wrap_up c (by omega), ih k (i + 1) (c + 1) (by omega) (by omega) (by omega) (by omega), hc, List.count_cons_self]
        congr 2
        omega
      · rw [if_neg (by
          intro e
          apply hc
          apply UInt8.toNat_inj.mp
          show _ = 47
          omega), wrap_up i (by omega), ih k (i + 1) c (by omega) (by omega) (by omega) (by omega), List.count_cons_of_ne (fun e => hc e)]
    · rw [shelfmarkref10_deep.l0, if_neg (by omega), List.drop_eq_nil_of_le (by omega)]
      rfl
theorem deep_f (s : ByteArray) (hs : s.size < 4611686018427387904) (k : Nat) (hk : s.size + 1 ≤ k) : shelfmarkref10_deep.f k s = some (((1 + slashes s.data.toList : Nat)) : Int) := by
  have hz : s.size = s.data.toList.length := Lib.size_eq s
  have := deep_rounds s hs s.data.toList.length k 0 1 (by omega) (by omega) (by omega) (by omega)
  rw [List.drop_zero] at this
  exact this
theorem mayData_f (x : S37) (k : Nat) (hk : 5000 ≤ k) : shelfmarkref10_mayData.f k x.f0 x.f1 x.f2 = some (okNd (nd x)) := by
  have hz : x.f2.size = x.f2.data.toList.length := Lib.size_eq x.f2
  obtain ⟨k, rfl⟩ : ∃ g, k = g + 1 := ⟨k - 1, by omega⟩
  have hkd : (nd x).kind = x.f1 := rfl
  have hdt : (nd x).data = x.f2.data.toList := rfl
  unfold shelfmarkref10_mayData.f okNd
  rw [hkd, hdt]
  by_cases h1 : x.f1 = 1
  · rw [if_pos h1, if_pos (.inl h1), h1, shelfmarkref10_mayData.j0, if_pos (by rfl)]
    congr 1
    rw [Bool.eq_iff_iff]; simp only [decide_eq_true_eq]; omega
  · rw [if_neg h1]
    by_cases h2 : x.f1 = 2
    · rw [if_pos (.inr h2), h2, shelfmarkref10_mayData.j0, if_pos (by rfl)]
      congr 1
      rw [Bool.eq_iff_iff]; simp only [decide_eq_true_eq]; omega
    · rw [if_neg (by omega), shelfmarkref10_mayData.j0, if_neg (by simpa using h2)]
      by_cases h3 : x.f1 = 3
      · rw [if_pos h3, if_pos h3]
        by_cases h4 : x.f2.data.toList = []
        · rw [h4] at hz ⊢
          rw [if_neg (by rw [List.length_nil] at hz; omega)]
          rfl
        · have hpos : 0 < x.f2.data.toList.length := Nat.pos_of_ne_zero (fun e => h4 (List.length_eq_zero_iff.1 e))
          rw [if_pos (by omega), beq_eq_false_iff_ne.2 h4]
          by_cases h5 : x.f2.data.toList.length ≤ 4096
          · have e0 : shelfmarkref10_has.f k x.f2 0 = some (x.f2.data.toList.contains 0) := has_f x.f2 0 (by omega) k (by omega)
            rw [if_pos (by omega), e0, decide_eq_true h5, hasZero_is]
            simp
          · rw [if_neg (by omega), decide_eq_false h5]
            simp
      · rw [if_neg h3, if_neg h3]
        by_cases h4 : x.f1 = 4
        · rw [if_pos h4, if_pos h4, toList_data]
        · rw [if_neg h4, if_neg h4]
theorem cut_rounds (s : ByteArray) (hs : s.size < 4611686018427387904) : ∀ (i k : Nat), i ≤ s.data.toList.length → (∀ j (h : j < s.data.toList.length), i ≤ j → s.data.toList[j] ≠ 47) → i + 1 ≤ k →
    ∃ a nm, shelfmarkref10_cut.l0 k s ((i : Int) - 1) = some (a, nm) ∧ nm.data.toList = (match cutSlash s.data.toList with | none => s.data.toList | some (_, x) => x) := by
  have hz : s.size = s.data.toList.length := Lib.size_eq s
  intro i
  induction i with
  | zero =>
    intro k h1 h2 h3
    obtain ⟨k, rfl⟩ : ∃ g, k = g + 1 := ⟨k - 1, by omega⟩
    rw [shelfmarkref10_cut.l0, if_neg (by omega)]
    refine ⟨_, _, rfl, ?_⟩
    rw [cutSlash_none _ (fun hm => by
      obtain ⟨j, hj, e⟩ := List.getElem_of_mem hm
      exact h2 j hj (by omega) e)]
  | succ i ih =>
    intro k h1 h2 h3
    obtain ⟨k, rfl⟩ : ∃ g, k = g + 1 := ⟨k - 1, by omega⟩
    have hi : i < s.data.toList.length := by omega
    rw [show (((i + 1 : Nat) : Int) - 1) = (i : Int) by omega, shelfmarkref10_cut.l0, if_pos (by omega), if_pos (by omega), if_pos (by omega), bt_is s i hi]
    by_cases hc : s.data.toList[i] = 47
    · rw [if_pos (by rw [hc]; rfl), if_pos (by omega), wrap_up i (by omega), if_pos (by omega), if_pos (by omega)]
      refine ⟨_, _, rfl, ?_⟩
      have hn : 47 ∉ s.data.toList.drop (i + 1) := by
        intro hm
        obtain ⟨j, hj, e⟩ := List.getElem_of_mem hm
        rw [List.length_drop] at hj
        rw [List.getElem_drop] at e
        exact h2 (i + 1 + j) (by omega) (by omega) e
      have hcut : cutSlash s.data.toList = some (s.data.toList.take i, s.data.toList.drop (i + 1)) := by
        have h5 := cutSlash_some (s.data.toList.take i) _ hn
        rw [← h5]
        congr 1
        conv => lhs; rw [← List.take_append_drop i s.data.toList]
        rw [List.drop_eq_getElem_cons hi, hc]
      rw [hcut, Int.toNat_natCast]
      simp only
      rw [ByteArray.data_extract, Array.toList_extract, List.extract_eq_take_drop]
      exact List.take_of_length_le (by rw [List.length_drop]; omega)
    · rw [if_neg (by
        intro e
        apply hc
        apply UInt8.toNat_inj.mp
        show _ = 47
        omega), show wrap64 ((i : Int) - 1) = (i : Int) - 1 by unfold wrap64; omega]
      exact ih k (by omega) (fun j hj hij => by
        by_cases e : j = i
        · subst e; exact hc
        · exact h2 j hj (by omega)) (by omega)
theorem cut_f (s : ByteArray) (hs : s.size < 4611686018427387904) (k : Nat) (hk : s.size + 2 ≤ k) : ∃ a nm, shelfmarkref10_cut.f k s = some (a, nm) ∧ nm.data.toList = (match cutSlash s.data.toList with | none => s.data.toList | some (_, x) => x) := by
  have hz : s.size = s.data.toList.length := Lib.size_eq s
  unfold shelfmarkref10_cut.f
  rw [show wrap64 ((s.size : Int) - 1) = (s.data.toList.length : Int) - 1 by unfold wrap64; omega]
  exact cut_rounds s hs s.data.toList.length k (Nat.le_refl _) (fun j hj h => by omega) (by omega)
end Go.Proofs.Ytncokgdfkbgflaa

namespace Go.Proofs.Ytncokgdfkbgflaa
set_option linter.unusedVariables false
set_option linter.unusedSimpArgs false
open Go.RowKit Go.Proofs.YtncokgdfkbgflaaW.PrintWords Go.Proofs.YtncokgdfkbgflaaW.PrintMore P
theorem extract_list (s : ByteArray) (i j : Nat) : (s.extract i j).data.toList = (s.data.toList.drop i).take (j - i) := by
  rw [ByteArray.data_extract, Array.toList_extract, List.extract_eq_take_drop]
theorem hasPrefix_false {l p : List UInt8} (h : ¬ ∃ t, l = p ++ t) : Lib.hasPrefix l p = false := by
  cases hp : Lib.hasPrefix l p with
  | false => rfl
  | true => exact absurd ((hasPrefix_iff _ _).1 hp) h
theorem name_f (a b : ByteArray) (ha : a.size < 4611686018427387904) (hb : b.size < 4611686018427387904) (k : Nat) (hk : a.size + 2 ≤ k) : ∃ r, shelfmarkref10_name.f k a b = some r ∧ r.data.toList = refName a.data.toList b.data.toList := by
  have hza := Lib.size_eq a
  have hzb := Lib.size_eq b
  obtain ⟨k, rfl⟩ : ∃ g, k = g + 1 := ⟨k - 1, by omega⟩
  unfold shelfmarkref10_name.f
  rw [toList_data b, toList_data]
  by_cases h0 : b.data.toList = []
  · rw [if_pos h0]
    have e47 : shelfmarkref10_has.f (k + 1) a 47 = some (a.data.toList.contains 47) := has_f a 47 ha (k + 1) (by omega)
    rw [e47]
    simp only [Option.bind_some]
    have e : refName a.data.toList b.data.toList = if a.data.toList.contains 47 = true then [] else a.data.toList := by
      rw [h0, refName, show headOf [] = [] from rfl, if_pos (show Lib.hasPrefix a.data.toList [] = true from (hasPrefix_iff _ _).2 ⟨a.data.toList, rfl⟩)]
      rfl
    rw [e]
    split
    · exact ⟨_, rfl, rfl⟩
    · exact ⟨_, rfl, rfl⟩
  · rw [if_neg h0]
    have hpos : 0 < b.data.toList.length := Nat.pos_of_ne_zero (fun e => h0 (List.length_eq_zero_iff.1 e))
    have j1 : shelfmarkref10_name.j0 (k + 1) a b true = some (⟨#[]⟩ : ByteArray) := by rw [shelfmarkref10_name.j0, if_pos rfl]
    have e0 : Lib.hasPrefix a.data.toList (headOf b.data.toList) = false → refName a.data.toList b.data.toList = [] := refName_stop
    have hh : headOf b.data.toList = b.data.toList ++ [47] := by rw [headOf, if_neg h0]
    by_cases h1 : a.data.toList.length ≤ b.data.toList.length
    · rw [if_pos (by omega), j1]
      refine ⟨_, rfl, ?_⟩
      rw [e0 (hasPrefix_false (by
        rintro ⟨t, ht⟩
        have := congrArg List.length ht
        rw [hh, List.length_append, List.length_append] at this
        simp only [List.length_cons, List.length_nil] at this
        omega))]
    · rw [if_neg (by omega), if_pos (by omega), if_pos (by omega), Int.toNat_natCast, extract_list]
      have hx : ((a.data.toList.drop 0).take (b.size - 0)) = a.data.toList.take b.data.toList.length := by rw [List.drop_zero, hzb]; rfl
      rw [hx]
      by_cases h2 : a.data.toList.take b.data.toList.length = b.data.toList
      · rw [if_pos h2, if_pos (by omega), show ((b.size : Nat) : Int) = ((b.data.toList.length : Nat) : Int) by omega, bt_is a _ (by omega)]
        have hlt : b.data.toList.length < a.data.toList.length := by omega
        have hs : a.data.toList = b.data.toList ++ (a.data.toList[b.data.toList.length] :: a.data.toList.drop (b.data.toList.length + 1)) := by
          rw [← List.drop_eq_getElem_cons hlt]
          conv => lhs; rw [← List.take_append_drop b.data.toList.length a.data.toList]
          rw [h2]
        by_cases h3 : a.data.toList[b.data.toList.length] = 47
        · have e4 : ((((a.data.toList[b.data.toList.length]).toNat : Nat) : Int) != 47) = false := by rw [h3]; rfl
          rw [e4, shelfmarkref10_name.j0, if_neg (by decide), show wrap64 ((b.size : Int) + 1) = ((b.data.toList.length + 1 : Nat) : Int) by unfold wrap64; omega, if_pos (by omega), if_pos (by omega), Int.toNat_natCast]
          have hxl : (a.extract (b.data.toList.length + 1) a.size).data.toList = a.data.toList.drop (b.data.toList.length + 1) := by
            rw [extract_list]
            exact List.take_of_length_le (by rw [List.length_drop]; omega)
          have hxs : (a.extract (b.data.toList.length + 1) a.size).size ≤ a.size := by
            rw [Lib.size_eq, hxl, List.length_drop]; omega
          have e47 : shelfmarkref10_has.f k (a.extract (b.data.toList.length + 1) a.size) 47 = some ((a.data.toList.drop (b.data.toList.length + 1)).contains 47) := by
            rw [← hxl]
            exact has_f _ 47 (by omega) k (by omega)
          rw [e47]
          simp only [Option.bind_some]
          have hex : ∃ t, a.data.toList = (b.data.toList ++ [47]) ++ t := ⟨a.data.toList.drop (b.data.toList.length + 1), by
            rw [List.append_assoc]
            rw [h3] at hs
            exact hs⟩
          have e : refName a.data.toList b.data.toList = if (a.data.toList.drop (b.data.toList.length + 1)).contains 47 = true then [] else a.data.toList.drop (b.data.toList.length + 1) := by
            rw [refName, hh, if_pos ((hasPrefix_iff _ _).2 hex)]
            rw [List.length_append]
            rfl
          rw [e]
          split
          · exact ⟨_, rfl, rfl⟩
          · exact ⟨_, rfl, hxl⟩
        · have e4 : ((((a.data.toList[b.data.toList.length]).toNat : Nat) : Int) != 47) = true := by
            rw [bne_iff_ne]
            intro e
            apply h3
            apply UInt8.toNat_inj.mp
            show _ = 47
            omega
          rw [e4, j1]
          refine ⟨_, rfl, ?_⟩
          rw [e0 (hasPrefix_false (by
            rintro ⟨t, ht⟩
            apply h3
            rw [hh, List.append_assoc] at ht
            have e5 := hs.symm.trans ht
            have e6 := List.append_cancel_left e5
            injection e6))]
      · rw [if_neg h2, j1]
        refine ⟨_, rfl, ?_⟩
        rw [e0 (hasPrefix_false (by
          rintro ⟨t, ht⟩
          apply h2
          rw [ht, hh, List.append_assoc]
          exact List.take_left' rfl))]
theorem nds_drop (l : List S37) (i : Nat) (h : i < l.length) : (nds l).drop i = nd l[i] :: (nds l).drop (i + 1) := by
  have h1 : i < (nds l).length := by simp [nds]; exact h
  rw [List.drop_eq_getElem_cons h1]
  congr 1
  simp [nds]
theorem nds_len (l : List S37) : (nds l).length = l.length := by simp [nds]
theorem under_next (l : List S37) (m next B k : Nat) (hn : next < l.length) (a1 : l.length - (next + 1) ≤ m) (a3 : 3 * m + B + 8 ≤ k) (hnx : rd_T37 l (next : Int) = l[next])
    (ih : l[next].f1 = 4 → ∃ j : Nat, shelfmarkref10_under.l0 k l (next : Int) ((next + 1 : Nat) : Int) (⟨#[]⟩ : ByteArray) = some (j : Int) ∧ next + 1 ≤ j ∧ j ≤ l.length ∧ ∀ f, l.length - (next + 1) < f → (nds l).drop j = takeDir f l[next].f0.data.toList [] ((nds l).drop (next + 1))) :
    ∃ j : Nat, shelfmarkref10_under.l0 k l (next : Int) ((next + 1 : Nat) : Int) (⟨#[]⟩ : ByteArray) = some (j : Int) ∧ next + 1 ≤ j ∧ j ≤ l.length ∧ ∀ f, l.length - (next + 1) < f → (nds l).drop j = if l[next].f1 = 4 then takeDir f l[next].f0.data.toList [] ((nds l).drop (next + 1)) else (nds l).drop (next + 1) := by
  by_cases h5 : l[next].f1 = 4
  · obtain ⟨j, a, b, c, d⟩ := ih h5
    exact ⟨j, a, b, c, fun f hf => by rw [if_pos h5]; exact d f hf⟩
  · refine ⟨next + 1, ?_, Nat.le_refl _, hn, fun f hf => by rw [if_neg h5]⟩
    obtain ⟨k, rfl⟩ : ∃ g, k = g + 2 := ⟨k - 2, by omega⟩
    have h6 : (l[next].f1 == 4) = false := beq_eq_false_iff_ne.2 h5
    by_cases h7 : next + 1 < l.length
    · rw [shelfmarkref10_under.l0, if_pos (by omega), if_pos (by omega), if_pos (by omega), hnx, h6, shelfmarkref10_under.j1, if_neg (by decide)]
    · rw [shelfmarkref10_under.l0, if_neg (by omega), shelfmarkref10_under.j1, if_neg (by decide)]
theorem under_rounds (l : List S37) (B : Nat) (hB : B < 1000000000) (hl : l.length < 1000000000) (hs : ∀ x ∈ l, x.f0.size ≤ B) : ∀ (m next at_ : Nat) (last : ByteArray) (k : Nat), l.length - next ≤ m → next ≤ l.length → (ha : at_ < l.length) → 3 * m + B + 8 ≤ k → l[at_].f1 = 4 →
    ∃ j : Nat, shelfmarkref10_under.l0 k l (at_ : Int) (next : Int) last = some (j : Int) ∧ next ≤ j ∧ j ≤ l.length ∧ ∀ f, l.length - next < f → (nds l).drop j = takeDir f l[at_].f0.data.toList last.data.toList ((nds l).drop next) := by
  intro m
  induction m with
  | zero =>
    intro next at_ last k h1 h2 ha hk h4
    obtain ⟨k, rfl⟩ : ∃ g, k = g + 2 := ⟨k - 2, by omega⟩
    refine ⟨next, ?_, Nat.le_refl _, h2, ?_⟩
    · rw [shelfmarkref10_under.l0, if_neg (by omega), shelfmarkref10_under.j1, if_neg (by decide)]
    · intro f hf
      obtain ⟨f, rfl⟩ : ∃ g, f = g + 1 := ⟨f - 1, by omega⟩
      rw [List.drop_eq_nil_of_le (by rw [nds_len]; omega), takeDir]
  | succ m ih =>
    intro next at_ last k h1 h2 ha hk h4
    by_cases hn : next < l.length
    · obtain ⟨k, rfl⟩ : ∃ g, k = g + 3 := ⟨k - 3, by omega⟩
      have hat : rd_T37 l (at_ : Int) = l[at_] := rd37_at l at_ ha
      have hnx : rd_T37 l (next : Int) = l[next] := rd37_at l next hn
      have hsn := hs l[next] (List.getElem_mem _)
      have hsa := hs l[at_] (List.getElem_mem _)
      obtain ⟨r, hr, hrl⟩ := name_f l[next].f0 l[at_].f0 (by omega) (by omega) (k + 1) (by omega)
      have hd := nds_drop l next hn
      have hkd : (nd l[next]).path = l[next].f0.data.toList := rfl
      have hkk : (nd l[next]).kind = l[next].f1 := rfl
      have hl0 : shelfmarkref10_under.l0 (k + 3) l (at_ : Int) (next : Int) last = (if r.toList = ([] : List UInt8) then (some (next : Int)) else (if (Op.bytesLess r.toList last.toList || r.toList == last.toList) = true then (some (next : Int)) else ((shelfmarkref10_under.f (k + 1) l (next : Int)).bind fun t213 => (shelfmarkref10_under.l0 (k + 1) l (at_ : Int) t213 r)))) := by
        rw [shelfmarkref10_under.l0, if_pos (by omega), if_pos (by omega), if_pos (by omega), hat, h4, shelfmarkref10_under.j1, if_pos (by rfl), if_pos (by omega), if_pos (by omega), if_pos (by omega), if_pos (by omega), hat, hnx, hr]
        rfl
      rw [hl0, toList_data, toList_data, hrl]
      by_cases hstop : refName l[next].f0.data.toList l[at_].f0.data.toList = [] ∨ (Op.bytesLess (refName l[next].f0.data.toList l[at_].f0.data.toList) last.data.toList || refName l[next].f0.data.toList l[at_].f0.data.toList == last.data.toList) = true
      · refine ⟨next, ?_, Nat.le_refl _, h2, ?_⟩
        · rcases hstop with h | h
          · rw [if_pos h]
          · rw [if_pos h]; split <;> rfl
        · intro f hf
          obtain ⟨f, rfl⟩ : ∃ g, f = g + 1 := ⟨f - 1, by omega⟩
          rw [hd, takeDir, hkd, if_pos hstop]
      · rw [if_neg (fun h => hstop (.inl h)), if_neg (fun h => hstop (.inr h))]
        have HS := Aside0.mk hstop
        have HL := Aside0.mk hl0
        clear hstop hl0
        have a0 : next < 4611686018427387904 := by omega
        have a1 : l.length - (next + 1) ≤ m := by omega
        have a3 : 3 * m + B + 8 ≤ k := by omega
        have a4 : 3 * m + B + 8 ≤ k + 1 := by omega
        rw [shelfmarkref10_under.f, wrap_up next a0]
        obtain ⟨j, hj, hj1, hj2, hj3⟩ := under_next l m next B k hn a1 a3 hnx (fun h5 => ih (next + 1) next (⟨#[]⟩ : ByteArray) k a1 hn hn a3 h5)
        rw [hj]
        simp only [Option.bind_some]
        obtain ⟨i, hi, hi1, hi2, hi3⟩ := ih j at_ r (k + 1) (Nat.le_trans (Nat.sub_le_sub_left hj1 _) a1) hj2 ha a4 h4
        refine ⟨i, hi, Nat.le_trans (Nat.le_of_succ_le hj1) hi1, hi2, ?_⟩
        intro f hf
        obtain ⟨f, rfl⟩ : ∃ g, f = g + 1 := ⟨f - 1, by omega⟩
        have b1 : l.length - (next + 1) < f := by omega
        rw [hi3 f (Nat.lt_of_le_of_lt (Nat.sub_le_sub_left hj1 _) b1), hd, takeDir, hkd, hkk, if_neg HS.out, hrl, hj3 f b1]
    · obtain ⟨k, rfl⟩ : ∃ g, k = g + 2 := ⟨k - 2, by omega⟩
      refine ⟨next, ?_, Nat.le_refl _, h2, ?_⟩
      · rw [shelfmarkref10_under.l0, if_neg (by omega), shelfmarkref10_under.j1, if_neg (by decide)]
      · intro f hf
        obtain ⟨f, rfl⟩ : ∃ g, f = g + 1 := ⟨f - 1, by omega⟩
        rw [List.drop_eq_nil_of_le (by rw [nds_len]; omega), takeDir]
theorem under_f (l : List S37) (B : Nat) (hB : B < 1000000000) (hl : l.length < 1000000000) (hs : ∀ x ∈ l, x.f0.size ≤ B) (h0 : 0 < l.length) (k : Nat) (hk : 3 * l.length + B + 9 ≤ k) :
    ∃ j : Nat, shelfmarkref10_under.f k l 0 = some (j : Int) ∧ j ≤ l.length ∧ (nds l).drop j = if l[0].f1 = 4 then takeDir l.length l[0].f0.data.toList [] ((nds l).drop 1) else (nds l).drop 1 := by
  obtain ⟨k, rfl⟩ : ∃ g, k = g + 3 := ⟨k - 3, by omega⟩
  have hat : rd_T37 l 0 = l[0] := rd37_at l 0 h0
  rw [shelfmarkref10_under.f, show wrap64 (0 + 1) = ((1 : Nat) : Int) by unfold wrap64; decide]
  by_cases h5 : l[0].f1 = 4
  · obtain ⟨j, a, b, c, d⟩ := under_rounds l B hB hl hs l.length 1 0 (⟨#[]⟩ : ByteArray) (k + 2) (by omega) (by omega) h0 (by omega) h5
    exact ⟨j, a, c, by rw [if_pos h5]; exact d l.length (by omega)⟩
  · refine ⟨1, ?_, h0, by rw [if_neg h5]⟩
    have h6 : (l[0].f1 == 4) = false := beq_eq_false_iff_ne.2 h5
    by_cases h7 : 1 < l.length
    · rw [shelfmarkref10_under.l0, if_pos (by omega), if_pos (by decide), if_pos (by omega), hat, h6, shelfmarkref10_under.j1, if_neg (by decide)]
    · rw [shelfmarkref10_under.l0, if_neg (by omega), shelfmarkref10_under.j1, if_neg (by decide)]
theorem refMay_rounds (l : List S37) (B : Nat) (hB : B < 1000000000) (hl : l.length < 1000000000) (hs : ∀ x ∈ l, x.f0.size ≤ B) (h0 : 0 < l.length) : ∀ (m i k : Nat), l.length - i ≤ m → i ≤ l.length → m + 3 * l.length + B + 6000 ≤ k →
    shelfmarkref10_May.l0 k l (i : Int) = some (((nds l).drop i).all refNode && (if l[0].f1 = 4 then (takeDir l.length l[0].f0.data.toList [] ((nds l).drop 1)).isEmpty else ((nds l).drop 1).isEmpty)) := by
  intro m
  induction m with
  | zero =>
    intro i k h1 h2 hk
    obtain ⟨k, rfl⟩ : ∃ g, k = g + 1 := ⟨k - 1, by omega⟩
    rw [shelfmarkref10_May.l0, if_neg (by omega), List.drop_eq_nil_of_le (by rw [nds_len]; omega), List.all_nil, Bool.true_and]
    obtain ⟨j, hj, hj1, hj2⟩ := under_f l B hB hl hs h0 k (by omega)
    rw [hj]
    simp only [Option.bind_some]
    congr 1
    have e : (((j : Int) == (l.length : Int)) : Bool) = ((nds l).drop j).isEmpty := by
      rw [Bool.eq_iff_iff, beq_iff_eq, List.isEmpty_iff, List.drop_eq_nil_iff, nds_len]; omega
    rw [e, hj2]
    split <;> rfl
  | succ m ih =>
    intro i k h1 h2 hk
    by_cases hi : i < l.length
    · obtain ⟨k, rfl⟩ : ∃ g, k = g + 1 := ⟨k - 1, by omega⟩
      have hx : rd_T37 l (i : Int) = l[i] := rd37_at l i hi
      have hsi := hs l[i] (List.getElem_mem _)
      obtain ⟨a, nm, hc, hcl⟩ := cut_f l[i].f0 (by omega) k (by omega)
      have hnmsz : nm.size ≤ l[i].f0.size := by
        rw [Lib.size_eq, hcl, Lib.size_eq]
        cases h : cutSlash l[i].f0.data.toList with
        | none => exact Nat.le_refl _
        | some y =>
          have := cutSlash_is _ y.1 y.2 h
          simp only
          rw [this]; simp; omega
      have e1 : shelfmarkref10_MayName.f k nm = some (mayName nm.data.toList) := refMayName_f nm k (by omega)
      have e2 := deep_f l[i].f0 (by omega) k (by omega)
      have e3 := mayData_f l[i] k (by omega)
      rw [shelfmarkref10_May.l0, if_pos (by omega), if_pos (by omega), hx, hc]
      simp only [Option.bind_some]
      rw [e1]
      simp only [Option.bind_some]
      rw [nds_drop l i hi, List.all_cons]
      have er : refNode (nd l[i]) = (okNd (nd l[i]) && (decide (slashes l[i].f0.data.toList < 64) && mayName nm.data.toList)) := by
        unfold refNode; rw [hcl]; rfl
      rw [er]
      by_cases h3 : mayName nm.data.toList = true
      · rw [if_pos h3, e2, h3]
        simp only [Option.bind_some]
        by_cases h4 : slashes l[i].f0.data.toList < 64
        · rw [if_neg (by omega), e3, decide_eq_true h4]
          simp only [Option.bind_some]
          by_cases h5 : okNd (nd l[i]) = true
          · rw [if_pos h5, h5, wrap_up i (by omega), ih (i + 1) k (by omega) (by omega) (by omega)]
            rfl
          · rw [if_neg h5, Bool.eq_false_iff.2 h5]; rfl
        · rw [if_pos (by omega), decide_eq_false h4]; simp
      · rw [if_neg h3, Bool.eq_false_iff.2 h3]; simp
    · exact ih i k (by omega) h2 (by omega)
theorem refMay_f (l : List S37) (hs : ∀ x ∈ l, x.f0.size ≤ 1048576) (k : Nat) (hk : 1100000 ≤ k) : shelfmarkref10_May.f k l = some (May (nds l)) := by
  rw [← refMay_is]
  obtain ⟨k, rfl⟩ : ∃ g, k = g + 1 := ⟨k - 1, by omega⟩
  unfold shelfmarkref10_May.f
  by_cases h0 : 0 < l.length
  · have hat : rd_T37 l 0 = l[0] := rd37_at l 0 h0
    have hc : nds l = nd l[0] :: (nds l).drop 1 := by
      have := nds_drop l 0 h0
      rw [List.drop_zero] at this
      exact this
    have hL := nds_len l
    have j1 : shelfmarkref10_May.j0 (k + 1) l true = some false := by rw [shelfmarkref10_May.j0, if_pos rfl]
    rw [if_neg (by omega)]
    have er : refMay (nds l) = (decide (l.length ≤ 256) && ((nd l[0]).path == [] && (okNd (nd l[0]) && (((nds l).drop 1).all refNode && (if (nd l[0]).kind = 4 then (takeDir l.length [] [] ((nds l).drop 1)).isEmpty else ((nds l).drop 1).isEmpty))))) := by
      conv => lhs; rw [hc]
      rw [refMay_cons, ← hc, hL]
      have e9 : ((nds l).drop 1).length + 1 = l.length := by rw [List.length_drop, hL]; omega
      rw [e9]
    rw [er]
    by_cases h1 : l.length ≤ 256
    · rw [if_neg (by omega), if_pos (by omega), hat, toList_data, decide_eq_true h1]
      have hp : (nd l[0]).path = l[0].f0.data.toList := rfl
      have hkd : (nd l[0]).kind = l[0].f1 := rfl
      rw [hp, hkd]
      by_cases h2 : l[0].f0.data.toList = []
      · have e3 := mayData_f l[0] (k + 1) (by omega)
        rw [if_pos h2, e3]
        simp only [Option.bind_some]
        by_cases h4 : okNd (nd l[0]) = true
        · have hm := refMay_rounds l 1048576 (by decide) (by omega) hs h0 l.length 1 k (by omega) (by omega) (by omega)
          rw [h4, show (!true) = false from rfl, shelfmarkref10_May.j0, if_neg (by decide)]
          have e1 : ((1 : Nat) : Int) = 1 := rfl
          rw [← e1, hm, h2]
          rfl
        · rw [Bool.eq_false_iff.2 h4, show (!false) = true from rfl, j1]
          simp
      · rw [if_neg h2, j1, beq_eq_false_iff_ne.2 h2]
        simp
    · rw [if_pos (by omega), j1, decide_eq_false h1]
      simp
  · have : l = [] := List.length_eq_zero_iff.1 (by omega)
    subst this
    rw [if_pos (by decide), shelfmarkref10_May.j0, if_pos rfl]
    rfl
end Go.Proofs.Ytncokgdfkbgflaa

namespace Go.Proofs.Ytncokgdfkbgflaa
set_option linter.unusedVariables false
set_option linter.unusedSimpArgs false
open Go.RowKit Go.Proofs.YtncokgdfkbgflaaW.PrintWords Go.Proofs.YtncokgdfkbgflaaW.PrintMore P
theorem little_step (k : Nat) (n : Nat) (xs : List Int) (i : Nat) (hi : i < 8) (hx : xs.length = 8) :
    shelfmarkref1_little.l0 (k + 1) (n : Int) 8 xs (i : Int) = shelfmarkref1_little.l0 k (n : Int) 8 (xs.set i (((n / 2 ^ (8 * i) : Nat) : Int) % 256)) ((i + 1 : Nat) : Int) := by
  have hw : wrap64 (8 * (i : Int)) = ((8 * i : Nat) : Int) := by unfold wrap64; omega
  have hw2 : wrap64 ((i : Int) + 1) = ((i + 1 : Nat) : Int) := by unfold wrap64; omega
  have hs : shr .u64 (n : Int) ((8 * i : Nat) : Int) = ((n / 2 ^ (8 * i) : Nat) : Int) := by
    unfold shr
    rw [Int.toNat_natCast, Nat.min_eq_left (by show 8 * i ≤ 64; omega)]
    simp
  simp only [shelfmarkref1_little.l0]
  rw [if_pos (by omega), hw, if_pos (by omega), if_pos (by omega), if_pos (by rw [hx]; omega), hw2, hs, Int.toNat_natCast]
theorem little_any (k : Nat) (n : Nat) : shelfmarkref1_little.f (k + 9) (n : Int) 8 = some (bs (le8 n)) := by
  unfold shelfmarkref1_little.f
  rw [if_pos (by decide), if_pos (by decide)]
  show shelfmarkref1_little.l0 (k + 8 + 1) (n : Int) 8 _ ((0 : Nat) : Int) = _
  rw [little_step (k + 8) n _ 0 (by omega) (by rfl)]
  rw [show k + 8 = (k + 7) + 1 from rfl, little_step (k + 7) n _ 1 (by omega) (by simp)]
  rw [show k + 7 = (k + 6) + 1 from rfl, little_step (k + 6) n _ 2 (by omega) (by simp)]
  rw [show k + 6 = (k + 5) + 1 from rfl, little_step (k + 5) n _ 3 (by omega) (by simp)]
  rw [show k + 5 = (k + 4) + 1 from rfl, little_step (k + 4) n _ 4 (by omega) (by simp)]
  rw [show k + 4 = (k + 3) + 1 from rfl, little_step (k + 3) n _ 5 (by omega) (by simp)]
  rw [show k + 3 = (k + 2) + 1 from rfl, little_step (k + 2) n _ 6 (by omega) (by simp)]
  rw [show k + 2 = (k + 1) + 1 from rfl, little_step (k + 1) n _ 7 (by omega) (by simp)]
  simp only [shelfmarkref1_little.l0]
  rw [if_neg (by omega)]
  congr 1
  have hb : ∀ m : Nat, UInt8.ofNat (((m : Int) % 256).toNat) = UInt8.ofNat m := by
    intro m
    have : ((m : Int) % 256).toNat = m % 256 := by omega
    rw [this]
    apply UInt8.toNat_inj.mp
    simp
  rw [show ((8 : Int)).toNat = 8 from rfl]
  simp only [List.replicate_succ, List.replicate_zero, List.set_cons_zero, List.set_cons_succ, strOfNums, List.map_cons, List.map_nil, hb, bs, le8]
  simp
theorem refWord_any (k : Nat) (n : Nat) (hn : n < 9223372036854775808) : shelfmarkref10_Word.f (k + 9) (n : Int) = some (bs (le8 n)) := by
  have hm : mx (n : Int) 0 = n := by unfold mx; split <;> omega
  have hw : IntKind.u64.wrap (n : Int) = (n : Int) := by simp [IntKind.wrap, IntKind.signed, IntKind.bits]; omega
  unfold shelfmarkref10_Word.f shelfmarkref1_Little.f
  rw [hm, hw, little_any]
  rfl
theorem refWord_neg (k : Nat) (n : Int) (hn : n < 0) : shelfmarkref10_Word.f (k + 9) n = some (bs (le8 0)) := by
  have hm : mx n 0 = ((0 : Nat) : Int) := by unfold mx; split <;> omega
  have hw : IntKind.u64.wrap ((0 : Nat) : Int) = ((0 : Nat) : Int) := by simp [IntKind.wrap, IntKind.signed, IntKind.bits]
  unfold shelfmarkref10_Word.f shelfmarkref1_Little.f
  rw [hm, hw, little_any]
  rfl
theorem word_neg (k : Nat) (n : Int) (hn : n < 0) : nar_Word.f (k + 9) n = some (bs (le8 0)) := by
  rw [← word_any k 0]
  have hm : mx 0 n = mx 0 ((0 : Nat) : Int) := by unfold mx; split <;> split <;> omega
  unfold nar_Word.f
  rw [hm]
theorem fill_rounds : ∀ (m k : Nat) (x : List UInt8), x.length + m < 4611686018427387904 → m < 8 → (x.length + m) % 8 = 0 → m + 1 ≤ k → shelfmarkref10_Str.l0 k (bs x) = some (bs (x ++ List.replicate m 0)) := by
  intro m
  induction m with
  | zero =>
    intro k x hx h8 hm hk
    obtain ⟨k, rfl⟩ : ∃ g, k = g + 1 := ⟨k - 1, by omega⟩
    rw [shelfmarkref10_Str.l0, bs_size, if_pos (by omega), List.replicate_zero, List.append_nil]
  | succ m ih =>
    intro k x hx h8 hm hk
    obtain ⟨k, rfl⟩ : ∃ g, k = g + 1 := ⟨k - 1, by omega⟩
    rw [shelfmarkref10_Str.l0, bs_size, if_neg (by omega), if_pos (by omega)]
    have e : (bs x ++ (⟨#[0]⟩ : ByteArray)) = bs (x ++ [0]) := by rw [← bs_append]; rfl
    rw [e, ih k (x ++ [0]) (by rw [List.length_append]; simp; omega) (by omega) (by rw [List.length_append]; simp; omega) (by omega), List.append_assoc]
    rfl
theorem refStr_f (s : ByteArray) (hs : s.size < 4611686018427380000) (k : Nat) (hk : 17 ≤ k) : shelfmarkref10_Str.f k s = some (bs (strB s.data.toList)) := by
  have hz := Lib.size_eq s
  obtain ⟨k, rfl⟩ : ∃ g, k = g + 9 := ⟨k - 9, by omega⟩
  unfold shelfmarkref10_Str.f
  rw [refWord_any k s.size (by omega)]
  simp only [Option.bind_some]
  have hp8 : pad s.size < 8 := by unfold pad; omega
  have hp : (8 + s.size + pad s.size) % 8 = 0 := by unfold pad; omega
  rw [bs_size, le8_length, if_pos (by omega)]
  have e : bs (le8 s.size) ++ s = bs (le8 s.size ++ s.data.toList) := by rw [← bs_append, bs_data]
  rw [e, fill_rounds (pad s.size) (k + 9) _ (by rw [List.length_append, le8_length]; omega) hp8 (by rw [List.length_append, le8_length, ← hz]; exact hp) (by omega), strB, ← hz]
theorem strs_rounds (l : List ByteArray) (M : Nat) (hM : M < 1000000000) (hl : l.length < 1000000000) (hs : ∀ s ∈ l, s.size ≤ M) : ∀ (m i k : Nat) (x : List UInt8), l.length - i ≤ m → i ≤ l.length → x.length ≤ i * (M + 15) → m + 18 ≤ k →
    shelfmarkref10_strs.l0 k l (bs x) (i : Int) = some (bs (x ++ strsB (strsOf (l.drop i)))) := by
  intro m
  induction m with
  | zero =>
    intro i k x h1 h2 hx hk
    obtain ⟨k, rfl⟩ : ∃ g, k = g + 1 := ⟨k - 1, by omega⟩
    rw [shelfmarkref10_strs.l0, if_neg (by omega), List.drop_eq_nil_of_le (by omega)]
    simp [strsOf, strsB]
  | succ m ih =>
    intro i k x h1 h2 hx hk
    by_cases hi : i < l.length
    · obtain ⟨k, rfl⟩ : ∃ g, k = g + 1 := ⟨k - 1, by omega⟩
      have hr : rdOf ByteArray.empty l (i : Int) = l[i] := by simp [rdOf, List.getD_eq_getElem?_getD, List.getElem?_eq_getElem hi]
      have hsi := hs l[i] (List.getElem_mem _)
      have hb : i * (M + 15) ≤ 1000000000 * (M + 15) := Nat.mul_le_mul (by omega) (Nat.le_refl _)
      have hle := strB_le l[i].data.toList
      have hz := Lib.size_eq l[i]
      rw [shelfmarkref10_strs.l0, if_pos (by omega), if_pos (by omega), hr, refStr_f l[i] (by omega) k (by omega)]
      simp only [Option.bind_some]
      rw [bs_size, bs_size, if_pos (by omega), bs_append, show wrap64 ((i : Int) + 1) = ((i + 1 : Nat) : Int) by unfold wrap64; omega,
        ih (i + 1) k _ (by omega) (by omega) (by rw [List.length_append, Nat.succ_mul]; omega) (by omega), List.drop_eq_getElem_cons hi]
      show _ = some (bs (x ++ strsB (l[i].data.toList :: strsOf (l.drop (i + 1)))))
      rw [strsB, List.append_assoc]
    · exact ih i k x (by omega) h2 hx (by omega)
theorem refStrs_f (l : List ByteArray) (M : Nat) (hM : M < 1000000000) (hl : l.length < 1000000000) (hs : ∀ s ∈ l, s.size ≤ M) (k : Nat) (hk : l.length + 18 ≤ k) : shelfmarkref10_strs.f k l = some (bs (strsB (strsOf l))) := by
  unfold shelfmarkref10_strs.f
  have := strs_rounds l M hM hl hs l.length 0 k [] (by omega) (by omega) (by simp) hk
  rw [List.drop_zero, List.nil_append] at this
  exact this
end Go.Proofs.Ytncokgdfkbgflaa

namespace Go.Proofs.Ytncokgdfkbgflaa
set_option linter.unusedVariables false
set_option linter.unusedSimpArgs false
open Go.RowKit Go.Proofs.YtncokgdfkbgflaaW.PrintWords Go.Proofs.YtncokgdfkbgflaaW.PrintMore P
theorem rd_one (x : S37) : rd_T37 [x] 0 = x := rd37_at [x] 0 (by simp)
theorem may_one (x : S37) (h0 : x.f0.data.toList = []) (h : okNode x = true) : mayC [x] = some true := by
  refine mayC_of (k := 5) ?_
  have h1 : x.f0.toList = [] := by rw [toList_data]; exact h0
  unfold nar_May.f
  rw [rd_one, if_neg (by simp), if_neg (by simp), if_pos (by simp), if_pos h1]
  have h2 : containsMay1.f [x] = some false := by simp [containsMay1.f, h]
  rw [h2]
  simp only [Option.bind_some, nar_May.j0, rd_one]
  rw [if_neg (by decide), if_pos (by simp)]
  split
  · simp [nar_May.j1, nar_May.l0]
  · simp [nar_May.j1, nar_May.l0]
def oneB (n : Nd) : List UInt8 := strsB [wOpen, wType] ++ (if n.kind = 1 ∨ n.kind = 2 ∨ n.kind = 3 then leafB n else strsB [wDir]) ++ strsB [wShut]
theorem packN_one (f : Nat) (n : Nd) : packN (f + 1) [n] 0 = oneB n := by
  unfold packN oneB
  simp [belowFrom]
theorem strsB_le (M : Nat) : ∀ (l : List (List UInt8)), (∀ s ∈ l, s.length ≤ M) → (strsB l).length ≤ l.length * (M + 15)
  | [], _ => by simp [strsB]
  | s :: l, h => by
    have h1 := strB_le s
    have h2 := h s List.mem_cons_self
    have h3 := strsB_le M l (fun z hz => h z (List.mem_cons_of_mem _ hz))
    rw [strsB, List.length_append, List.length_cons, Nat.succ_mul]
    omega
theorem leafB_le (n : Nd) (M : Nat) (hM : 10 ≤ M) (h : n.data.length ≤ M) : (leafB n).length ≤ 5 * (M + 15) := by
  unfold leafB
  split
  · refine Nat.le_trans (strsB_le M _ ?_) (Nat.mul_le_mul (by simp) (Nat.le_refl _))
    intro s hs
    simp only [List.mem_cons, List.not_mem_nil, or_false] at hs
    rcases hs with rfl | rfl | rfl <;> first | exact h | (refine Nat.le_trans ?_ hM; decide)
  · split
    · refine Nat.le_trans (strsB_le M _ ?_) (Nat.mul_le_mul (by simp) (Nat.le_refl _))
      intro s hs
      simp only [List.mem_cons, List.not_mem_nil, or_false] at hs
      rcases hs with rfl | rfl | rfl | rfl | rfl <;> first | exact h | (refine Nat.le_trans ?_ hM; decide)
    · refine Nat.le_trans (strsB_le M _ ?_) (Nat.mul_le_mul (by simp) (Nat.le_refl _))
      intro s hs
      simp only [List.mem_cons, List.not_mem_nil, or_false] at hs
      rcases hs with rfl | rfl | rfl <;> first | exact h | (refine Nat.le_trans ?_ hM; decide)
theorem oneB_le (n : Nd) (M : Nat) (hM : 10 ≤ M) (h : n.data.length ≤ M) : (oneB n).length ≤ 8 * (M + 15) := by
  unfold oneB
  have h1 : (strsB [wOpen, wType]).length = 32 := by decide
  have h2 : (strsB [wShut]).length = 16 := by decide
  have h3 : (strsB [wDir]).length = 24 := by decide
  have h4 := leafB_le n M hM h
  rw [List.length_append, List.length_append, h1, h2]
  split
  · omega
  · rw [h3]; omega
theorem entryB_le (nm body : List UInt8) (h : nm.length ≤ 1048576) : (entryB nm body).length ≤ body.length + 1048700 := by
  unfold entryB
  have h1 := strB_le nm
  have h2 : (strB wEntry).length = 16 := by decide
  have h3 : (strB wOpen).length = 16 := by decide
  have h4 : (strB wName).length = 16 := by decide
  have h5 : (strB wNode).length = 16 := by decide
  have h6 : (strsB [wShut]).length = 16 := by decide
  simp only [strsB, List.length_append, List.append_nil] at h6 ⊢
  rw [h2, h3, h4, h5, h6]
  omega
theorem pack_one (x : S37) (h0 : x.f0.data.toList = []) (h : okNode x = true) (hd : x.f2.size ≤ 65536) : nar_Pack.f [x] = some (bs (strB wMark ++ oneB (nd x)), 0) := by
  have hnd : (nd x).data.length ≤ 65536 := by
    show x.f2.data.toList.length ≤ _
    rw [← Lib.size_eq]; exact hd
  have h1 := oneB_le (nd x) 65536 (by decide) hnd
  have hroom : ∃ M, PackRoom [x] M := by
    refine ⟨2000000, by simp, ?_, ?_, by simp, by simp⟩
    · intro f i nm hi hn
      obtain rfl : i = 0 := by simp at hi; exact hi
      have h2 := entryB_le nm (packN f (nds [x]) 0) hn
      have h3 : (packN f (nds [x]) 0).length ≤ 600000 := by
        cases f with
        | zero => simp [packN]
        | succ f =>
          show (packN (f + 1) [nd x] 0).length ≤ _
          rw [packN_one]
          omega
      omega
    · intro y hy
      obtain rfl : y = x := by simpa using hy
      refine ⟨?_, by omega⟩
      rw [Lib.size_eq, h0]; simp
  unfold nar_Pack.f
  rw [may_one x h0 h]
  simp only [Option.bind_some, if_true]
  rw [if_pos hroom]
  show some (bs (strB wMark ++ packN (0 + 1) [nd x] 0), (0 : Int)) = _
  rw [packN_one]
theorem str_lit (k : Nat) (l : List UInt8) (h : l.length ≤ 1000) : nar_Str.f (k + 9) (bs l) = some (bs (strB l)) := by
  rw [str_any k (bs l) (by rw [bs_size]; omega), bs_toList]
theorem awake_true (k : Nat) : shelfmarklaw10_awake.f (k + 9) = some true := by
  unfold shelfmarklaw10_awake.f
  have e1 : nar_Str.f (k + 9) (⟨#[40]⟩ : ByteArray) = some (bs (strB wOpen)) := str_lit k wOpen (by decide)
  have e2 : nar_Str.f (k + 9) (⟨#[110, 105, 120, 45, 97, 114, 99, 104, 105, 118, 101, 45, 49]⟩ : ByteArray) = some (bs (strB wMark)) := str_lit k wMark (by decide)
  rw [pack_one ⟨⟨#[]⟩, 1, ⟨#[120]⟩⟩ rfl (by decide) (by decide), e1, e2]
  simp only [Option.bind_some, shelfmarklaw1_Err.f]
  rw [if_pos (by decide), if_pos trivial, if_pos (by decide +kernel), if_pos (by decide), if_pos (by decide +kernel)]
  rw [toList_data, toList_data]
  have h : ((bs (strB wMark ++ oneB (nd ⟨⟨#[]⟩, 1, ⟨#[120]⟩⟩))).extract 0 24).data.toList == (bs (strB wMark)).data.toList := by decide +kernel
  rw [h]
end Go.Proofs.Ytncokgdfkbgflaa

namespace Go.Proofs.Ytncokgdfkbgflaa
set_option linter.unusedVariables false
set_option linter.unusedSimpArgs false
open Go.RowKit Go.Proofs.YtncokgdfkbgflaaW.PrintWords Go.Proofs.YtncokgdfkbgflaaW.PrintMore P
theorem mayStep_path {op op' : List Lv} {n : Nd} (h : mayStep op n = some op') : n.path ≠ [] := by
  intro he
  unfold mayStep withinP at h
  rw [he] at h
  simp only [cutSlash] at h
  split at h
  · cases h
  · rename_i i name hw
    split at hw
    · cases hw
    · injection hw with hw
      have h2 : name = [] := (congrArg Prod.snd hw).symm
      subst h2
      simp [mayName] at h
theorem mayGo_path : ∀ (l : List Nd) (op : List Lv), mayGo op l = true → ∀ n ∈ l, n.path ≠ []
  | [], _, _, n, hn => by simp at hn
  | m :: l, op, h, n, hn => by
    unfold mayGo at h
    split at h
    · cases h
    · rename_i op' hs
      rcases List.mem_cons.mp hn with rfl | hn
      · exact mayStep_path hs
      · exact mayGo_path l op' h n hn
theorem okNd_le (n : Nd) (h : okNd n = true) : n.data.length ≤ 65536 := by
  unfold okNd at h
  split at h
  · simpa using h
  · split at h
    · simp only [Bool.and_eq_true, decide_eq_true_eq] at h; omega
    · split at h
      · have : n.data = [] := by simpa using h
        rw [this]; simp
      · cases h
theorem may_parts {l : List Nd} (h : May l = true) : 0 < l.length ∧ l.length ≤ 256 ∧ (∀ n ∈ l, okNd n = true) ∧ (∀ j (hj : j < l.length), 0 < j → l[j].path ≠ []) := by
  unfold May at h
  split at h
  · cases h
  · rename_i n r
    simp only [Bool.and_eq_true, decide_eq_true_eq] at h
    obtain ⟨h1, _, h3, h4⟩ := h
    refine ⟨by simp, h1, fun m hm => List.all_eq_true.1 h3 m hm, fun j hj hj0 => ?_⟩
    obtain ⟨j, rfl⟩ : ∃ i, j = i + 1 := ⟨j - 1, by omega⟩
    rw [List.getElem_cons_succ]
    exact mayGo_path r _ h4 _ (List.getElem_mem _)
theorem room_is (l : List S37) (hp : ∀ x ∈ l, x.f0.size ≤ 1048576) (h : May (nds l) = true) : PackRoom l 353771551 := by
  obtain ⟨h1, h2, h3, h4⟩ := may_parts h
  have hl : (nds l).length = l.length := by simp [nds]
  rw [hl] at h1 h2
  refine ⟨h1, ?_, ?_, by omega, ?_⟩
  · intro f i nm hi hn
    have h5 := packN_le (nds l) 327827 1048576 (by
      intro n hn
      have := leafB_le n 65536 (by decide) (okNd_le n (h3 n hn))
      omega) (by
      intro n hn
      obtain ⟨x, hx, rfl⟩ := List.mem_map.1 hn
      have := hp x hx
      rw [Lib.size_eq] at this
      exact this) (by decide) h4 f i
    have h6 := entryB_len nm (packN f (nds l) i)
    have h7 := holds_le (nds l) i
    have h8 : (327827 + (1048576 + 140)) * holds (nds l) i ≤ (327827 + (1048576 + 140)) * 257 := Nat.mul_le_mul (Nat.le_refl _) (by omega)
    omega
  · intro x hx
    have h5 := okNd_le (nd x) (h3 _ (List.mem_map.2 ⟨x, hx, rfl⟩))
    have h6 := hp x hx
    refine ⟨h6, ?_⟩
    rw [Lib.size_eq]
    have : x.f2.data.toList.length ≤ 65536 := h5
    omega
  · have h5 : l.length * ((l.length + 1) * 353771551) ≤ 256 * (257 * 353771551) := Nat.mul_le_mul h2 (Nat.mul_le_mul (by omega) (Nat.le_refl _))
    omega
theorem pack_is (l : List S37) (hT : TameAll l) (hp : ∀ x ∈ l, x.f0.size ≤ 1048576) :
    nar_Pack.f l = some (if May (nds l) = true then (bs (strB wMark ++ packN l.length (nds l) 0), 0) else (⟨#[]⟩, 1)) := by
  unfold nar_Pack.f
  rw [may_is l hT]
  simp only [Option.bind_some]
  by_cases h : May (nds l) = true
  · rw [if_pos h, if_pos h, if_pos ⟨_, room_is l hp h⟩]
  · rw [if_neg h, if_neg h]
end Go.Proofs.Ytncokgdfkbgflaa
