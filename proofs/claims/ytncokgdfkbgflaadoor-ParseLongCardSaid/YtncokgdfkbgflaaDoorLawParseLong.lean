/- A length that is far too great says nothing, whatever stands behind; one that may be asks for more. The tied card of shelfmarklaw11.ParseLong. Conditions: none but the statement's (the tables of unicode/utf8 as its text lays them). -/
import Derived.Test.YtncokgdfkbgflaaDoorLongM4
import Derived.Test.YtncokgdfkbgflaaDoorLongM5
import Derived.Test.YtncokgdfkbgflaaDoorLongM6
import Derived.KernelRfl
import Derived.Test.YtncokgdfkbgflaaDoorRows
import Derived.WalkKit
import Derived.ProofKit
import Derived.OpenShut
import Derived.ShutString
import Derived.ChangeOld
import Derived.Below
import Derived.SizedLaws
import Derived.LaidMore
import Derived.Lay
import Derived.SevenTiedAt
import Derived.Stop.Joined
import Derived.Test.YtncokgdfkbgflaaDoorTie
import Derived.Test.YtncokgdfkbgflaaDoorCards
set_option linter.unusedVariables false
set_option linter.unusedSimpArgs false
namespace Go.Proofs.YtncokgdfkbgflaaDoor.P
open Go.RowKit Go.Proofs.YtncokgdfkbgflaaDoorW.PrintWords Go.Proofs.YtncokgdfkbgflaaDoorW.PrintLast Go.Proofs.YtncokgdfkbgflaaDoorW.PrintMore
attribute [local go_sem] max2_int min2_int max_two min_two max_three min_three max_four min_four   -- for this text's walks alone
set_option linter.unusedVariables false
set_option linter.unusedSimpArgs false
def shelfmarklaw11_awake.f (k : Nat)  : Option (Bool) := (parse_Get.f (⟨#[]⟩ : ByteArray)).bind fun bt193 => ((shelfmarkref10_Pack.f k (([(⟨(⟨#[]⟩ : ByteArray), 2, (⟨#[120]⟩ : ByteArray)⟩ : S68)] : List (S68)))).bind fun bt200 => ((parse_Get.f bt200.1).bind fun bt202 => ((shelfmarklaw1_Err.f bt193.2).bind fun t206 => (if t206 = 5 then ((shelfmarklaw1_Err.f bt202.2).bind fun t207 => (if t207 = 0 then (if (bt202.1.length : Int) = 1 then (if 0 < (bt202.1.length : Int) then (if ((rd_T68 bt202.1 0).f1) = 2 then (some (((rd_T68 bt202.1 0).f2).toList == ([120] : List UInt8))) else (some false)) else (none)) else (some false)) else (some false))) else (some false)))))
set_option maxHeartbeats 8000000 in
set_option maxRecDepth 100000 in
theorem shelfmarklaw11_awake.calls (k : Nat)  (r : Bool) (w : World) (h : shelfmarklaw11_awake.f k  = some r) :
    Calls Tryd.prog 13 #[] w fun e w' => e = .returned (.bool r) ∧ Below w.heap.size w w' := by
  have hfd39_0 : ∀ (w : World) (fa0 : ByteArray) (fa1 : Int), (Instr.field 39 (.agg #[.string fa0, .int .i64 fa1]) 0).run Tryd.prog w = .ok (.string fa0) w := fun _ _ _ => by kernel_rfl
  have hfd39_1 : ∀ (w : World) (fa0 : ByteArray) (fa1 : Int), (Instr.field 39 (.agg #[.string fa0, .int .i64 fa1]) 1).run Tryd.prog w = .ok (.int .i64 fa1) w := fun _ _ _ => by kernel_rfl
  have hu68 := Tryd.underlying68
  have HB := Aside0.mk (Below.refl w.heap.size w)
  have H : ((parse_Get.f (⟨#[]⟩ : ByteArray)).bind fun bt193 => ((shelfmarkref10_Pack.f k (([(⟨(⟨#[]⟩ : ByteArray), 2, (⟨#[120]⟩ : ByteArray)⟩ : S68)] : List (S68)))).bind fun bt200 => ((parse_Get.f bt200.1).bind fun bt202 => ((shelfmarklaw1_Err.f bt193.2).bind fun t206 => (if t206 = 5 then ((shelfmarklaw1_Err.f bt202.2).bind fun t207 => (if t207 = 0 then (if (bt202.1.length : Int) = 1 then (if 0 < (bt202.1.length : Int) then (if ((rd_T68 bt202.1 0).f1) = 2 then (some (((rd_T68 bt202.1 0).f2).toList == ([120] : List UInt8))) else (some false)) else (none)) else (some false)) else (some false))) else (some false)))))) = some r := h
  clear h
  replace H := Option.bind_eq_some_iff.mp H
  obtain ⟨⟨t193, t194⟩, A10, H⟩ := H
  replace H : ((shelfmarkref10_Pack.f k (([(⟨(⟨#[]⟩ : ByteArray), 2, (⟨#[120]⟩ : ByteArray)⟩ : S68)] : List (S68)))).bind fun bt200 => ((parse_Get.f bt200.1).bind fun bt202 => ((shelfmarklaw1_Err.f t194).bind fun t206 => (if t206 = 5 then ((shelfmarklaw1_Err.f bt202.2).bind fun t207 => (if t207 = 0 then (if (bt202.1.length : Int) = 1 then (if 0 < (bt202.1.length : Int) then (if ((rd_T68 bt202.1 0).f1) = 2 then (some (((rd_T68 bt202.1 0).f2).toList == ([120] : List UInt8))) else (some false)) else (none)) else (some false)) else (some false))) else (some false))))) = some r := H
  have A1 := Aside0.mk A10
  clear A10
  obtain ⟨y197, hy197⟩ : ∃ y_ : List (S68), y_ = (([(⟨(⟨#[]⟩ : ByteArray), 2, (⟨#[120]⟩ : ByteArray)⟩ : S68)] : List (S68))) := ⟨_, rfl⟩
  replace H : ((shelfmarkref10_Pack.f k y197).bind fun bt200 => ((parse_Get.f bt200.1).bind fun bt202 => ((shelfmarklaw1_Err.f t194).bind fun t206 => (if t206 = 5 then ((shelfmarklaw1_Err.f bt202.2).bind fun t207 => (if t207 = 0 then (if (bt202.1.length : Int) = 1 then (if 0 < (bt202.1.length : Int) then (if ((rd_T68 bt202.1 0).f1) = 2 then (some (((rd_T68 bt202.1 0).f2).toList == ([120] : List UInt8))) else (some false)) else (none)) else (some false)) else (some false))) else (some false))))) = some r := by first | (rw [hy197]; with_reducible exact H) | (have H2_ := (Option.bind_some _ _).symm.trans H; rw [hy197]; with_reducible exact H2_) | (have H2_ := (Option.bind_some _ _).symm.trans H; with_reducible exact H2_) | with_reducible exact H | (rw [hy197]; exact H) | exact H
  have Ny197 := Aside0.mk hy197
  clear hy197
  replace H := Option.bind_eq_some_iff.mp H
  obtain ⟨⟨t200, t201⟩, A20, H⟩ := H
  replace H : ((parse_Get.f t200).bind fun bt202 => ((shelfmarklaw1_Err.f t194).bind fun t206 => (if t206 = 5 then ((shelfmarklaw1_Err.f bt202.2).bind fun t207 => (if t207 = 0 then (if (bt202.1.length : Int) = 1 then (if 0 < (bt202.1.length : Int) then (if ((rd_T68 bt202.1 0).f1) = 2 then (some (((rd_T68 bt202.1 0).f2).toList == ([120] : List UInt8))) else (some false)) else (none)) else (some false)) else (some false))) else (some false)))) = some r := H
  have A2 := Aside0.mk A20
  clear A20
  replace H := Option.bind_eq_some_iff.mp H
  obtain ⟨⟨t202, t203⟩, A30, H⟩ := H
  replace H : ((shelfmarklaw1_Err.f t194).bind fun t206 => (if t206 = 5 then ((shelfmarklaw1_Err.f t203).bind fun t207 => (if t207 = 0 then (if (t202.length : Int) = 1 then (if 0 < (t202.length : Int) then (if ((rd_T68 t202 0).f1) = 2 then (some (((rd_T68 t202 0).f2).toList == ([120] : List UInt8))) else (some false)) else (none)) else (some false)) else (some false))) else (some false))) = some r := H
  have A3 := Aside0.mk A30
  clear A30
  replace H := Option.bind_eq_some_iff.mp H
  obtain ⟨t206, A40, H⟩ := H
  replace H : (if t206 = 5 then ((shelfmarklaw1_Err.f t203).bind fun t207 => (if t207 = 0 then (if (t202.length : Int) = 1 then (if 0 < (t202.length : Int) then (if ((rd_T68 t202 0).f1) = 2 then (some (((rd_T68 t202 0).f2).toList == ([120] : List UInt8))) else (some false)) else (none)) else (some false)) else (some false))) else (some false)) = some r := H
  have A4 := Aside0.mk A40
  clear A40
  by_cases c5 : t206 = 5
  · rw [if_pos c5] at H
    have c5b0 : (t206 == 5) = true := beq_iff_eq.mpr c5
    have c5b1 : (t206 != 5) = false := bne_eq_false_iff_eq.mpr c5
    clear c5
    replace H := Option.bind_eq_some_iff.mp H
    obtain ⟨t207, A60, H⟩ := H
    replace H : (if t207 = 0 then (if (t202.length : Int) = 1 then (if 0 < (t202.length : Int) then (if ((rd_T68 t202 0).f1) = 2 then (some (((rd_T68 t202 0).f2).toList == ([120] : List UInt8))) else (some false)) else (none)) else (some false)) else (some false)) = some r := H
    have A6 := Aside0.mk A60
    clear A60
    by_cases c7 : t207 = 0
    · rw [if_pos c7] at H
      have c7b0 : (t207 == 0) = true := beq_iff_eq.mpr c7
      have c7b1 : (t207 != 0) = false := bne_eq_false_iff_eq.mpr c7
      clear c7
      by_cases c8 : (t202.length : Int) = 1
      · rw [if_pos c8] at H
        have c8b0 : ((t202.length : Int) == 1) = true := beq_iff_eq.mpr c8
        have c8b1 : ((t202.length : Int) != 1) = false := bne_eq_false_iff_eq.mpr c8
        clear c8
        by_cases c9 : 0 < (t202.length : Int)
        · rw [if_pos c9] at H
          have c9b0 : decide (0 < (t202.length : Int)) = true := decide_eq_true c9
          have c9b1 : decide (0 < t202.length) = true := decide_eq_true (by omega)
          clear c9
          by_cases c10 : ((rd_T68 t202 0).f1) = 2
          · rw [if_pos c10] at H
            have c10b0 : (((rd_T68 t202 0).f1) == 2) = true := beq_iff_eq.mpr c10
            have c10b1 : (((rd_T68 t202 0).f1) != 2) = false := bne_eq_false_iff_eq.mpr c10
            clear c10
            obtain rfl := Option.some.inj H
            go_enter Tryd.func13, Tryd.ntmps13
            go_wp2_with (first | ((with_reducible refine gate_callee (f := 14) rfl ?_); refine goesL_ (some 6) rfl rfl Tryd.func14 (by kernel_rfl) rfl #[.string (⟨#[]⟩ : ByteArray)] rfl (by (try simp only [List.map_toArray, List.map_cons, List.map_nil]); first | done | rfl | (simp only [List.length_drop, List.length_take]; rfl)) ?_; (with_reducible refine (parse_Get.calls (⟨#[]⟩ : ByteArray) t193 t194 _ A1.out).mono ?_); rintro e w11 ⟨v195, rfl, ho0, hb⟩; refine ⟨_, rfl, ?_⟩; have n0_ := Aside0.mk (Kd.R_lower ho0 (below_size (by repeat (first | (with_reducible first | exact HB.out | apply below_alloc | apply pw_below_drewN | apply below_drew1) | exact HB.out)))); have n1_ := Aside0.mk (below_step (by repeat (first | (with_reducible first | exact HB.out | apply below_alloc | apply pw_below_drewN | apply below_drew1) | exact HB.out)) hb); clear HB; have HO196 := n0_; have HB := n1_; clear n0_ n1_; (try clear hb); (try clear hb2); (try clear hk); (try clear hi); (try clear ho0)) | ((with_reducible refine gate_dst (N := 11) rfl ?_); (try (refine gate_guard (by rfl) ?_; dsimp only)); refine Kd.R_lit k68 _ 68 ?hg (N := 11) ?hd (xs := ([(⟨(⟨#[]⟩ : ByteArray), 2, (⟨#[120]⟩ : ByteArray)⟩ : S68)] : List (S68))) (inner := [.string (⟨#[]⟩ : ByteArray), .int .i64 2, .string (⟨#[120]⟩ : ByteArray)]) (ok := fun _ => True) (okp := fun _ => True) ?hr ?hp (fun _ hk => hk) trivial (Below.refl _ _) (Nat.le_refl _) (by simp) ?_; (case hd => rfl); (case hg => rfl); (case hr => first | (go_simp; done) | (go_simp; rfl)); (case hp => exact (Reps.c3 (show Kd.M k68 _ _ _ (⟨(⟨#[]⟩ : ByteArray), 2, (⟨#[120]⟩ : ByteArray)⟩ : S68) [.string (⟨#[]⟩ : ByteArray), .int .i64 2, .string (⟨#[120]⟩ : ByteArray)] from (k68_mkM _ _ _ (⟨(⟨#[]⟩ : ByteArray), 2, (⟨#[120]⟩ : ByteArray)⟩ : S68) )) (Reps.none _ _))); intro v198 w12 ho13 hb hg_ hnew_; clear hg_ hnew_; (first | rw [← Ny197.out] at ho13 | (simp only [Int.reduceToNat] at ho13; rw [← Ny197.out] at ho13)); have n0_ := Aside0.mk (Kd.R_elder' (by (with_reducible repeat (first | apply Kd.R_alloc | apply Kd.R_drewN | apply Kd.R_drew)); exact HO196.out) (Kd.R_base ho13) hb); have n1_ := Aside0.mk (Kd.R_lower (Kd.R_new' ho13 (Kd.R_lt (by (with_reducible repeat (first | apply Kd.R_alloc | apply Kd.R_drewN | apply Kd.R_drew)); exact HO196.out))) (below_size (by repeat (first | (with_reducible first | exact HB.out | apply below_alloc | apply pw_below_drewN | apply below_drew1) | exact HB.out)))); have n2_ := Aside0.mk (below_step (by repeat (first | (with_reducible first | exact HB.out | apply below_alloc | apply pw_below_drewN | apply below_drew1) | exact HB.out)) hb); clear HO196; clear HB; have HO196 := n0_; have HO199 := n1_; have HB := n2_; clear n0_ n1_ n2_; clear hb ho13; obtain ⟨Ao14, co14, eo14⟩ := Kd.R_slice HO199.out; subst eo14) | ((with_reducible refine gate_callee (f := 20) rfl ?_); refine goesL_ (some 12) rfl rfl Tryd.func20 (by kernel_rfl) rfl #[.slice Ao14 y197.length co14] rfl (by (try simp only [List.map_toArray, List.map_cons, List.map_nil]); first | done | rfl | (simp only [List.length_drop, List.length_take]; rfl)) ?_; (with_reducible refine (shelfmarkref10_Pack.calls k _ _ y197 t200 t201 _ ?side1 ?side2 A2.out).mono ?_); (case side1 => repeat (first | exact (Kd.R_reads' HO199.out).2.2 | (with_reducible refine Kd.C_alloc ?_ _) | (with_reducible refine Kd.C_drewN ?_ _) | (with_reducible refine Kd.C_drew ?_))); (case side2 => exact (Kd.R_reads' HO199.out).2.1); rintro e w15 ⟨rfl, hb⟩; refine ⟨_, rfl, ?_⟩; have n0_ := Aside0.mk (Kd.R_below (by (with_reducible repeat (first | apply Kd.R_alloc | apply Kd.R_drewN | apply Kd.R_drew)); exact HO196.out) hb); have n1_ := Aside0.mk (Kd.R_below (by (with_reducible repeat (first | apply Kd.R_alloc | apply Kd.R_drewN | apply Kd.R_drew)); exact HO199.out) hb); have n2_ := Aside0.mk (below_step (by repeat (first | (with_reducible first | exact HB.out | apply below_alloc | apply pw_below_drewN | apply below_drew1) | exact HB.out)) hb); clear HO196; clear HO199; clear HB; have HO196 := n0_; have HO199 := n1_; have HB := n2_; clear n0_ n1_ n2_; (try clear hb); (try clear hb2); (try clear hk); (try clear hi)) | ((with_reducible refine gate_callee (f := 14) rfl ?_); refine goesL_ (some 14) rfl rfl Tryd.func14 (by kernel_rfl) rfl #[.string t200] rfl (by (try simp only [List.map_toArray, List.map_cons, List.map_nil]); first | done | rfl | (simp only [List.length_drop, List.length_take]; rfl)) ?_; (with_reducible refine (parse_Get.calls t200 t202 t203 _ A3.out).mono ?_); rintro e w16 ⟨v204, rfl, ho0, hb⟩; refine ⟨_, rfl, ?_⟩; have n0_ := Aside0.mk (Kd.R_elder' (by (with_reducible repeat (first | apply Kd.R_alloc | apply Kd.R_drewN | apply Kd.R_drew)); exact HO196.out) (Kd.R_base ho0) hb); have n1_ := Aside0.mk (Kd.R_elder' (by (with_reducible repeat (first | apply Kd.R_alloc | apply Kd.R_drewN | apply Kd.R_drew)); exact HO199.out) (Kd.R_base ho0) hb); have n2_ := Aside0.mk (Kd.R_lower (Kd.R_new' (Kd.R_new' ho0 (Kd.R_lt (by (with_reducible repeat (first | apply Kd.R_alloc | apply Kd.R_drewN | apply Kd.R_drew)); exact HO196.out))) (Kd.R_lt (by (with_reducible repeat (first | apply Kd.R_alloc | apply Kd.R_drewN | apply Kd.R_drew)); exact HO199.out))) (below_size (by repeat (first | (with_reducible first | exact HB.out | apply below_alloc | apply pw_below_drewN | apply below_drew1) | exact HB.out)))); have n3_ := Aside0.mk (below_step (by repeat (first | (with_reducible first | exact HB.out | apply below_alloc | apply pw_below_drewN | apply below_drew1) | exact HB.out)) hb); clear HO196; clear HO199; clear HB; have HO196 := n0_; have HO199 := n1_; have HO205 := n2_; have HB := n3_; clear n0_ n1_ n2_ n3_; (try clear hb); (try clear hb2); (try clear hk); (try clear hi); (try clear ho0)) | ((with_reducible refine gate_callee (f := 17) rfl ?_); refine goesL_ (some 18) rfl rfl Tryd.func17 (by kernel_rfl) rfl #[.int .i64 t194] rfl (by (try simp only [List.map_toArray, List.map_cons, List.map_nil]); first | done | rfl | (simp only [List.length_drop, List.length_take]; rfl)) ?_; (with_reducible refine (shelfmarklaw1_Err.calls t194 t206 _ A4.out).mono ?_); rintro e w' ⟨rfl, ⟨nd, rfl⟩⟩; refine ⟨_, rfl, ?_⟩) | (go_at_call 17; (with_reducible refine (shelfmarklaw1_Err.calls t203 t207 _ A6.out).mono ?_); rintro e w' ⟨rfl, ⟨nd, rfl⟩⟩; obtain ⟨Ao17, co17, eo17⟩ := Kd.R_slice HO205.out; subst eo17; have p208 : 0 ≤ (0 : Int) := (by omega); have q208 : 0 < (t202.length : Int) := of_decide_eq_true (by first | (with_reducible assumption) | assumption); obtain ⟨ad208, e208, hx208_0, hx208_1, hx208_2⟩ := at_T68 (Kd.R_reads' HO205.out).2.2 0 p208 q208; cases e208; have qi208 : (0 < t202.length) = True := eq_true (by omega); (try rw [show ((0 : Int)).toNat = 0 from rfl] at hx208_0); (try rw [show 0 * 3 = 0 from rfl] at hx208_0); (try rw [Addr.add_zero'] at hx208_0); (try rw [show ((0 : Int)).toNat = 0 from rfl] at hx208_1); (try rw [show 0 * 3 = 0 from rfl] at hx208_1); (try rw [Addr.add_zero'] at hx208_1); (try rw [show ((0 : Int)).toNat = 0 from rfl] at hx208_2); (try rw [show 0 * 3 = 0 from rfl] at hx208_2); (try rw [Addr.add_zero'] at hx208_2); replace p208 := eq_true p208; replace q208 := eq_true q208; have p209 : 0 ≤ (0 : Int) := (by omega); have q209 : 0 < (t202.length : Int) := of_decide_eq_true (by first | (with_reducible assumption) | assumption); obtain ⟨ad209, e209, hx209_0, hx209_1, hx209_2⟩ := at_T68 (Kd.R_reads' HO205.out).2.2 0 p209 q209; obtain rfl : ad208 = ad209 := (by injection e209); have qi209 : (0 < t202.length) = True := eq_true (by omega); (try rw [show ((0 : Int)).toNat = 0 from rfl] at hx209_0); (try rw [show 0 * 3 = 0 from rfl] at hx209_0); (try rw [Addr.add_zero'] at hx209_0); (try rw [show ((0 : Int)).toNat = 0 from rfl] at hx209_1); (try rw [show 0 * 3 = 0 from rfl] at hx209_1); (try rw [Addr.add_zero'] at hx209_1); (try rw [show ((0 : Int)).toNat = 0 from rfl] at hx209_2); (try rw [show 0 * 3 = 0 from rfl] at hx209_2); (try rw [Addr.add_zero'] at hx209_2); replace p209 := eq_true p209; replace q209 := eq_true q209))
            go_ret
            exact ⟨by first | rfl | (simp [errW_none, errW_some] <;> rfl) | (simp [*, errW_none, errW_some] <;> rfl), by repeat (first | (with_reducible first | exact HB.out | apply below_alloc | apply pw_below_drewN | apply below_drew1) | exact HB.out)⟩
          · rw [if_neg c10] at H
            have c10b0 : (((rd_T68 t202 0).f1) == 2) = false := beq_eq_false_iff_ne.mpr c10
            have c10b1 : (((rd_T68 t202 0).f1) != 2) = true := bne_iff_ne.mpr c10
            obtain rfl := Option.some.inj H
            go_enter Tryd.func13, Tryd.ntmps13
            go_wp2_with (first | ((with_reducible refine gate_callee (f := 14) rfl ?_); refine goesL_ (some 6) rfl rfl Tryd.func14 (by kernel_rfl) rfl #[.string (⟨#[]⟩ : ByteArray)] rfl (by (try simp only [List.map_toArray, List.map_cons, List.map_nil]); first | done | rfl | (simp only [List.length_drop, List.length_take]; rfl)) ?_; (with_reducible refine (parse_Get.calls (⟨#[]⟩ : ByteArray) t193 t194 _ A1.out).mono ?_); rintro e w18 ⟨v195, rfl, ho0, hb⟩; refine ⟨_, rfl, ?_⟩; have n0_ := Aside0.mk (Kd.R_lower ho0 (below_size (by repeat (first | (with_reducible first | exact HB.out | apply below_alloc | apply pw_below_drewN | apply below_drew1) | exact HB.out)))); have n1_ := Aside0.mk (below_step (by repeat (first | (with_reducible first | exact HB.out | apply below_alloc | apply pw_below_drewN | apply below_drew1) | exact HB.out)) hb); clear HB; have HO196 := n0_; have HB := n1_; clear n0_ n1_; (try clear hb); (try clear hb2); (try clear hk); (try clear hi); (try clear ho0)) | ((with_reducible refine gate_dst (N := 11) rfl ?_); (try (refine gate_guard (by rfl) ?_; dsimp only)); refine Kd.R_lit k68 _ 68 ?hg (N := 11) ?hd (xs := ([(⟨(⟨#[]⟩ : ByteArray), 2, (⟨#[120]⟩ : ByteArray)⟩ : S68)] : List (S68))) (inner := [.string (⟨#[]⟩ : ByteArray), .int .i64 2, .string (⟨#[120]⟩ : ByteArray)]) (ok := fun _ => True) (okp := fun _ => True) ?hr ?hp (fun _ hk => hk) trivial (Below.refl _ _) (Nat.le_refl _) (by simp) ?_; (case hd => rfl); (case hg => rfl); (case hr => first | (go_simp; done) | (go_simp; rfl)); (case hp => exact (Reps.c3 (show Kd.M k68 _ _ _ (⟨(⟨#[]⟩ : ByteArray), 2, (⟨#[120]⟩ : ByteArray)⟩ : S68) [.string (⟨#[]⟩ : ByteArray), .int .i64 2, .string (⟨#[120]⟩ : ByteArray)] from (k68_mkM _ _ _ (⟨(⟨#[]⟩ : ByteArray), 2, (⟨#[120]⟩ : ByteArray)⟩ : S68) )) (Reps.none _ _))); intro v198 w19 ho20 hb hg_ hnew_; clear hg_ hnew_; (first | rw [← Ny197.out] at ho20 | (simp only [Int.reduceToNat] at ho20; rw [← Ny197.out] at ho20)); have n0_ := Aside0.mk (Kd.R_elder' (by (with_reducible repeat (first | apply Kd.R_alloc | apply Kd.R_drewN | apply Kd.R_drew)); exact HO196.out) (Kd.R_base ho20) hb); have n1_ := Aside0.mk (Kd.R_lower (Kd.R_new' ho20 (Kd.R_lt (by (with_reducible repeat (first | apply Kd.R_alloc | apply Kd.R_drewN | apply Kd.R_drew)); exact HO196.out))) (below_size (by repeat (first | (with_reducible first | exact HB.out | apply below_alloc | apply pw_below_drewN | apply below_drew1) | exact HB.out)))); have n2_ := Aside0.mk (below_step (by repeat (first | (with_reducible first | exact HB.out | apply below_alloc | apply pw_below_drewN | apply below_drew1) | exact HB.out)) hb); clear HO196; clear HB; have HO196 := n0_; have HO199 := n1_; have HB := n2_; clear n0_ n1_ n2_; clear hb ho20; obtain ⟨Ao21, co21, eo21⟩ := Kd.R_slice HO199.out; subst eo21) | ((with_reducible refine gate_callee (f := 20) rfl ?_); refine goesL_ (some 12) rfl rfl Tryd.func20 (by kernel_rfl) rfl #[.slice Ao21 y197.length co21] rfl (by (try simp only [List.map_toArray, List.map_cons, List.map_nil]); first | done | rfl | (simp only [List.length_drop, List.length_take]; rfl)) ?_; (with_reducible refine (shelfmarkref10_Pack.calls k _ _ y197 t200 t201 _ ?side1 ?side2 A2.out).mono ?_); (case side1 => repeat (first | exact (Kd.R_reads' HO199.out).2.2 | (with_reducible refine Kd.C_alloc ?_ _) | (with_reducible refine Kd.C_drewN ?_ _) | (with_reducible refine Kd.C_drew ?_))); (case side2 => exact (Kd.R_reads' HO199.out).2.1); rintro e w22 ⟨rfl, hb⟩; refine ⟨_, rfl, ?_⟩; have n0_ := Aside0.mk (Kd.R_below (by (with_reducible repeat (first | apply Kd.R_alloc | apply Kd.R_drewN | apply Kd.R_drew)); exact HO196.out) hb); have n1_ := Aside0.mk (Kd.R_below (by (with_reducible repeat (first | apply Kd.R_alloc | apply Kd.R_drewN | apply Kd.R_drew)); exact HO199.out) hb); have n2_ := Aside0.mk (below_step (by repeat (first | (with_reducible first | exact HB.out | apply below_alloc | apply pw_below_drewN | apply below_drew1) | exact HB.out)) hb); clear HO196; clear HO199; clear HB; have HO196 := n0_; have HO199 := n1_; have HB := n2_; clear n0_ n1_ n2_; (try clear hb); (try clear hb2); (try clear hk); (try clear hi)) | ((with_reducible refine gate_callee (f := 14) rfl ?_); refine goesL_ (some 14) rfl rfl Tryd.func14 (by kernel_rfl) rfl #[.string t200] rfl (by (try simp only [List.map_toArray, List.map_cons, List.map_nil]); first | done | rfl | (simp only [List.length_drop, List.length_take]; rfl)) ?_; (with_reducible refine (parse_Get.calls t200 t202 t203 _ A3.out).mono ?_); rintro e w23 ⟨v204, rfl, ho0, hb⟩; refine ⟨_, rfl, ?_⟩; have n0_ := Aside0.mk (Kd.R_elder' (by (with_reducible repeat (first | apply Kd.R_alloc | apply Kd.R_drewN | apply Kd.R_drew)); exact HO196.out) (Kd.R_base ho0) hb); have n1_ := Aside0.mk (Kd.R_elder' (by (with_reducible repeat (first | apply Kd.R_alloc | apply Kd.R_drewN | apply Kd.R_drew)); exact HO199.out) (Kd.R_base ho0) hb); have n2_ := Aside0.mk (Kd.R_lower (Kd.R_new' (Kd.R_new' ho0 (Kd.R_lt (by (with_reducible repeat (first | apply Kd.R_alloc | apply Kd.R_drewN | apply Kd.R_drew)); exact HO196.out))) (Kd.R_lt (by (with_reducible repeat (first | apply Kd.R_alloc | apply Kd.R_drewN | apply Kd.R_drew)); exact HO199.out))) (below_size (by repeat (first | (with_reducible first | exact HB.out | apply below_alloc | apply pw_below_drewN | apply below_drew1) | exact HB.out)))); have n3_ := Aside0.mk (below_step (by repeat (first | (with_reducible first | exact HB.out | apply below_alloc | apply pw_below_drewN | apply below_drew1) | exact HB.out)) hb); clear HO196; clear HO199; clear HB; have HO196 := n0_; have HO199 := n1_; have HO205 := n2_; have HB := n3_; clear n0_ n1_ n2_ n3_; (try clear hb); (try clear hb2); (try clear hk); (try clear hi); (try clear ho0)) | ((with_reducible refine gate_callee (f := 17) rfl ?_); refine goesL_ (some 18) rfl rfl Tryd.func17 (by kernel_rfl) rfl #[.int .i64 t194] rfl (by (try simp only [List.map_toArray, List.map_cons, List.map_nil]); first | done | rfl | (simp only [List.length_drop, List.length_take]; rfl)) ?_; (with_reducible refine (shelfmarklaw1_Err.calls t194 t206 _ A4.out).mono ?_); rintro e w' ⟨rfl, ⟨nd, rfl⟩⟩; refine ⟨_, rfl, ?_⟩) | (go_at_call 17; (with_reducible refine (shelfmarklaw1_Err.calls t203 t207 _ A6.out).mono ?_); rintro e w' ⟨rfl, ⟨nd, rfl⟩⟩; obtain ⟨Ao24, co24, eo24⟩ := Kd.R_slice HO205.out; subst eo24; have p208 : 0 ≤ (0 : Int) := (by omega); have q208 : 0 < (t202.length : Int) := of_decide_eq_true (by first | (with_reducible assumption) | assumption); obtain ⟨ad208, e208, hx208_0, hx208_1, hx208_2⟩ := at_T68 (Kd.R_reads' HO205.out).2.2 0 p208 q208; cases e208; have qi208 : (0 < t202.length) = True := eq_true (by omega); (try rw [show ((0 : Int)).toNat = 0 from rfl] at hx208_0); (try rw [show 0 * 3 = 0 from rfl] at hx208_0); (try rw [Addr.add_zero'] at hx208_0); (try rw [show ((0 : Int)).toNat = 0 from rfl] at hx208_1); (try rw [show 0 * 3 = 0 from rfl] at hx208_1); (try rw [Addr.add_zero'] at hx208_1); (try rw [show ((0 : Int)).toNat = 0 from rfl] at hx208_2); (try rw [show 0 * 3 = 0 from rfl] at hx208_2); (try rw [Addr.add_zero'] at hx208_2); replace p208 := eq_true p208; replace q208 := eq_true q208))
            go_ret
            exact ⟨by first | rfl | (simp [errW_none, errW_some] <;> rfl) | (simp [*, errW_none, errW_some] <;> rfl), by repeat (first | (with_reducible first | exact HB.out | apply below_alloc | apply pw_below_drewN | apply below_drew1) | exact HB.out)⟩
        · rw [if_neg c9] at H
          exact absurd H (by simp)
      · rw [if_neg c8] at H
        have c8b0 : ((t202.length : Int) == 1) = false := beq_eq_false_iff_ne.mpr c8
        have c8b1 : ((t202.length : Int) != 1) = true := bne_iff_ne.mpr c8
        obtain rfl := Option.some.inj H
        go_enter Tryd.func13, Tryd.ntmps13
        go_wp2_with (first | ((with_reducible refine gate_callee (f := 14) rfl ?_); refine goesL_ (some 6) rfl rfl Tryd.func14 (by kernel_rfl) rfl #[.string (⟨#[]⟩ : ByteArray)] rfl (by (try simp only [List.map_toArray, List.map_cons, List.map_nil]); first | done | rfl | (simp only [List.length_drop, List.length_take]; rfl)) ?_; (with_reducible refine (parse_Get.calls (⟨#[]⟩ : ByteArray) t193 t194 _ A1.out).mono ?_); rintro e w25 ⟨v195, rfl, ho0, hb⟩; refine ⟨_, rfl, ?_⟩; have n0_ := Aside0.mk (Kd.R_lower ho0 (below_size (by repeat (first | (with_reducible first | exact HB.out | apply below_alloc | apply pw_below_drewN | apply below_drew1) | exact HB.out)))); have n1_ := Aside0.mk (below_step (by repeat (first | (with_reducible first | exact HB.out | apply below_alloc | apply pw_below_drewN | apply below_drew1) | exact HB.out)) hb); clear HB; have HO196 := n0_; have HB := n1_; clear n0_ n1_; (try clear hb); (try clear hb2); (try clear hk); (try clear hi); (try clear ho0)) | ((with_reducible refine gate_dst (N := 11) rfl ?_); (try (refine gate_guard (by rfl) ?_; dsimp only)); refine Kd.R_lit k68 _ 68 ?hg (N := 11) ?hd (xs := ([(⟨(⟨#[]⟩ : ByteArray), 2, (⟨#[120]⟩ : ByteArray)⟩ : S68)] : List (S68))) (inner := [.string (⟨#[]⟩ : ByteArray), .int .i64 2, .string (⟨#[120]⟩ : ByteArray)]) (ok := fun _ => True) (okp := fun _ => True) ?hr ?hp (fun _ hk => hk) trivial (Below.refl _ _) (Nat.le_refl _) (by simp) ?_; (case hd => rfl); (case hg => rfl); (case hr => first | (go_simp; done) | (go_simp; rfl)); (case hp => exact (Reps.c3 (show Kd.M k68 _ _ _ (⟨(⟨#[]⟩ : ByteArray), 2, (⟨#[120]⟩ : ByteArray)⟩ : S68) [.string (⟨#[]⟩ : ByteArray), .int .i64 2, .string (⟨#[120]⟩ : ByteArray)] from (k68_mkM _ _ _ (⟨(⟨#[]⟩ : ByteArray), 2, (⟨#[120]⟩ : ByteArray)⟩ : S68) )) (Reps.none _ _))); intro v198 w26 ho27 hb hg_ hnew_; clear hg_ hnew_; (first | rw [← Ny197.out] at ho27 | (simp only [Int.reduceToNat] at ho27; rw [← Ny197.out] at ho27)); have n0_ := Aside0.mk (Kd.R_elder' (by (with_reducible repeat (first | apply Kd.R_alloc | apply Kd.R_drewN | apply Kd.R_drew)); exact HO196.out) (Kd.R_base ho27) hb); have n1_ := Aside0.mk (Kd.R_lower (Kd.R_new' ho27 (Kd.R_lt (by (with_reducible repeat (first | apply Kd.R_alloc | apply Kd.R_drewN | apply Kd.R_drew)); exact HO196.out))) (below_size (by repeat (first | (with_reducible first | exact HB.out | apply below_alloc | apply pw_below_drewN | apply below_drew1) | exact HB.out)))); have n2_ := Aside0.mk (below_step (by repeat (first | (with_reducible first | exact HB.out | apply below_alloc | apply pw_below_drewN | apply below_drew1) | exact HB.out)) hb); clear HO196; clear HB; have HO196 := n0_; have HO199 := n1_; have HB := n2_; clear n0_ n1_ n2_; clear hb ho27; obtain ⟨Ao28, co28, eo28⟩ := Kd.R_slice HO199.out; subst eo28) | ((with_reducible refine gate_callee (f := 20) rfl ?_); refine goesL_ (some 12) rfl rfl Tryd.func20 (by kernel_rfl) rfl #[.slice Ao28 y197.length co28] rfl (by (try simp only [List.map_toArray, List.map_cons, List.map_nil]); first | done | rfl | (simp only [List.length_drop, List.length_take]; rfl)) ?_; (with_reducible refine (shelfmarkref10_Pack.calls k _ _ y197 t200 t201 _ ?side1 ?side2 A2.out).mono ?_); (case side1 => repeat (first | exact (Kd.R_reads' HO199.out).2.2 | (with_reducible refine Kd.C_alloc ?_ _) | (with_reducible refine Kd.C_drewN ?_ _) | (with_reducible refine Kd.C_drew ?_))); (case side2 => exact (Kd.R_reads' HO199.out).2.1); rintro e w29 ⟨rfl, hb⟩; refine ⟨_, rfl, ?_⟩; have n0_ := Aside0.mk (Kd.R_below (by (with_reducible repeat (first | apply Kd.R_alloc | apply Kd.R_drewN | apply Kd.R_drew)); exact HO196.out) hb); have n1_ := Aside0.mk (Kd.R_below (by (with_reducible repeat (first | apply Kd.R_alloc | apply Kd.R_drewN | apply Kd.R_drew)); exact HO199.out) hb); have n2_ := Aside0.mk (below_step (by repeat (first | (with_reducible first | exact HB.out | apply below_alloc | apply pw_below_drewN | apply below_drew1) | exact HB.out)) hb); clear HO196; clear HO199; clear HB; have HO196 := n0_; have HO199 := n1_; have HB := n2_; clear n0_ n1_ n2_; (try clear hb); (try clear hb2); (try clear hk); (try clear hi)) | ((with_reducible refine gate_callee (f := 14) rfl ?_); refine goesL_ (some 14) rfl rfl Tryd.func14 (by kernel_rfl) rfl #[.string t200] rfl (by (try simp only [List.map_toArray, List.map_cons, List.map_nil]); first | done | rfl | (simp only [List.length_drop, List.length_take]; rfl)) ?_; (with_reducible refine (parse_Get.calls t200 t202 t203 _ A3.out).mono ?_); rintro e w30 ⟨v204, rfl, ho0, hb⟩; refine ⟨_, rfl, ?_⟩; have n0_ := Aside0.mk (Kd.R_elder' (by (with_reducible repeat (first | apply Kd.R_alloc | apply Kd.R_drewN | apply Kd.R_drew)); exact HO196.out) (Kd.R_base ho0) hb); have n1_ := Aside0.mk (Kd.R_elder' (by (with_reducible repeat (first | apply Kd.R_alloc | apply Kd.R_drewN | apply Kd.R_drew)); exact HO199.out) (Kd.R_base ho0) hb); have n2_ := Aside0.mk (Kd.R_lower (Kd.R_new' (Kd.R_new' ho0 (Kd.R_lt (by (with_reducible repeat (first | apply Kd.R_alloc | apply Kd.R_drewN | apply Kd.R_drew)); exact HO196.out))) (Kd.R_lt (by (with_reducible repeat (first | apply Kd.R_alloc | apply Kd.R_drewN | apply Kd.R_drew)); exact HO199.out))) (below_size (by repeat (first | (with_reducible first | exact HB.out | apply below_alloc | apply pw_below_drewN | apply below_drew1) | exact HB.out)))); have n3_ := Aside0.mk (below_step (by repeat (first | (with_reducible first | exact HB.out | apply below_alloc | apply pw_below_drewN | apply below_drew1) | exact HB.out)) hb); clear HO196; clear HO199; clear HB; have HO196 := n0_; have HO199 := n1_; have HO205 := n2_; have HB := n3_; clear n0_ n1_ n2_ n3_; (try clear hb); (try clear hb2); (try clear hk); (try clear hi); (try clear ho0)) | ((with_reducible refine gate_callee (f := 17) rfl ?_); refine goesL_ (some 18) rfl rfl Tryd.func17 (by kernel_rfl) rfl #[.int .i64 t194] rfl (by (try simp only [List.map_toArray, List.map_cons, List.map_nil]); first | done | rfl | (simp only [List.length_drop, List.length_take]; rfl)) ?_; (with_reducible refine (shelfmarklaw1_Err.calls t194 t206 _ A4.out).mono ?_); rintro e w' ⟨rfl, ⟨nd, rfl⟩⟩; refine ⟨_, rfl, ?_⟩) | (go_at_call 17; (with_reducible refine (shelfmarklaw1_Err.calls t203 t207 _ A6.out).mono ?_); rintro e w' ⟨rfl, ⟨nd, rfl⟩⟩; obtain ⟨Ao31, co31, eo31⟩ := Kd.R_slice HO205.out; subst eo31))
        go_ret
        exact ⟨by first | rfl | (simp [errW_none, errW_some] <;> rfl) | (simp [*, errW_none, errW_some] <;> rfl), by repeat (first | (with_reducible first | exact HB.out | apply below_alloc | apply pw_below_drewN | apply below_drew1) | exact HB.out)⟩
    · rw [if_neg c7] at H
      have c7b0 : (t207 == 0) = false := beq_eq_false_iff_ne.mpr c7
      have c7b1 : (t207 != 0) = true := bne_iff_ne.mpr c7
      obtain rfl := Option.some.inj H
      go_enter Tryd.func13, Tryd.ntmps13
      go_wp2_with (first | ((with_reducible refine gate_callee (f := 14) rfl ?_); refine goesL_ (some 6) rfl rfl Tryd.func14 (by kernel_rfl) rfl #[.string (⟨#[]⟩ : ByteArray)] rfl (by (try simp only [List.map_toArray, List.map_cons, List.map_nil]); first | done | rfl | (simp only [List.length_drop, List.length_take]; rfl)) ?_; (with_reducible refine (parse_Get.calls (⟨#[]⟩ : ByteArray) t193 t194 _ A1.out).mono ?_); rintro e w32 ⟨v195, rfl, ho0, hb⟩; refine ⟨_, rfl, ?_⟩; have n0_ := Aside0.mk (Kd.R_lower ho0 (below_size (by repeat (first | (with_reducible first | exact HB.out | apply below_alloc | apply pw_below_drewN | apply below_drew1) | exact HB.out)))); have n1_ := Aside0.mk (below_step (by repeat (first | (with_reducible first | exact HB.out | apply below_alloc | apply pw_below_drewN | apply below_drew1) | exact HB.out)) hb); clear HB; have HO196 := n0_; have HB := n1_; clear n0_ n1_; (try clear hb); (try clear hb2); (try clear hk); (try clear hi); (try clear ho0)) | ((with_reducible refine gate_dst (N := 11) rfl ?_); (try (refine gate_guard (by rfl) ?_; dsimp only)); refine Kd.R_lit k68 _ 68 ?hg (N := 11) ?hd (xs := ([(⟨(⟨#[]⟩ : ByteArray), 2, (⟨#[120]⟩ : ByteArray)⟩ : S68)] : List (S68))) (inner := [.string (⟨#[]⟩ : ByteArray), .int .i64 2, .string (⟨#[120]⟩ : ByteArray)]) (ok := fun _ => True) (okp := fun _ => True) ?hr ?hp (fun _ hk => hk) trivial (Below.refl _ _) (Nat.le_refl _) (by simp) ?_; (case hd => rfl); (case hg => rfl); (case hr => first | (go_simp; done) | (go_simp; rfl)); (case hp => exact (Reps.c3 (show Kd.M k68 _ _ _ (⟨(⟨#[]⟩ : ByteArray), 2, (⟨#[120]⟩ : ByteArray)⟩ : S68) [.string (⟨#[]⟩ : ByteArray), .int .i64 2, .string (⟨#[120]⟩ : ByteArray)] from (k68_mkM _ _ _ (⟨(⟨#[]⟩ : ByteArray), 2, (⟨#[120]⟩ : ByteArray)⟩ : S68) )) (Reps.none _ _))); intro v198 w33 ho34 hb hg_ hnew_; clear hg_ hnew_; (first | rw [← Ny197.out] at ho34 | (simp only [Int.reduceToNat] at ho34; rw [← Ny197.out] at ho34)); have n0_ := Aside0.mk (Kd.R_elder' (by (with_reducible repeat (first | apply Kd.R_alloc | apply Kd.R_drewN | apply Kd.R_drew)); exact HO196.out) (Kd.R_base ho34) hb); have n1_ := Aside0.mk (Kd.R_lower (Kd.R_new' ho34 (Kd.R_lt (by (with_reducible repeat (first | apply Kd.R_alloc | apply Kd.R_drewN | apply Kd.R_drew)); exact HO196.out))) (below_size (by repeat (first | (with_reducible first | exact HB.out | apply below_alloc | apply pw_below_drewN | apply below_drew1) | exact HB.out)))); have n2_ := Aside0.mk (below_step (by repeat (first | (with_reducible first | exact HB.out | apply below_alloc | apply pw_below_drewN | apply below_drew1) | exact HB.out)) hb); clear HO196; clear HB; have HO196 := n0_; have HO199 := n1_; have HB := n2_; clear n0_ n1_ n2_; clear hb ho34; obtain ⟨Ao35, co35, eo35⟩ := Kd.R_slice HO199.out; subst eo35) | ((with_reducible refine gate_callee (f := 20) rfl ?_); refine goesL_ (some 12) rfl rfl Tryd.func20 (by kernel_rfl) rfl #[.slice Ao35 y197.length co35] rfl (by (try simp only [List.map_toArray, List.map_cons, List.map_nil]); first | done | rfl | (simp only [List.length_drop, List.length_take]; rfl)) ?_; (with_reducible refine (shelfmarkref10_Pack.calls k _ _ y197 t200 t201 _ ?side1 ?side2 A2.out).mono ?_); (case side1 => repeat (first | exact (Kd.R_reads' HO199.out).2.2 | (with_reducible refine Kd.C_alloc ?_ _) | (with_reducible refine Kd.C_drewN ?_ _) | (with_reducible refine Kd.C_drew ?_))); (case side2 => exact (Kd.R_reads' HO199.out).2.1); rintro e w36 ⟨rfl, hb⟩; refine ⟨_, rfl, ?_⟩; have n0_ := Aside0.mk (Kd.R_below (by (with_reducible repeat (first | apply Kd.R_alloc | apply Kd.R_drewN | apply Kd.R_drew)); exact HO196.out) hb); have n1_ := Aside0.mk (Kd.R_below (by (with_reducible repeat (first | apply Kd.R_alloc | apply Kd.R_drewN | apply Kd.R_drew)); exact HO199.out) hb); have n2_ := Aside0.mk (below_step (by repeat (first | (with_reducible first | exact HB.out | apply below_alloc | apply pw_below_drewN | apply below_drew1) | exact HB.out)) hb); clear HO196; clear HO199; clear HB; have HO196 := n0_; have HO199 := n1_; have HB := n2_; clear n0_ n1_ n2_; (try clear hb); (try clear hb2); (try clear hk); (try clear hi)) | ((with_reducible refine gate_callee (f := 14) rfl ?_); refine goesL_ (some 14) rfl rfl Tryd.func14 (by kernel_rfl) rfl #[.string t200] rfl (by (try simp only [List.map_toArray, List.map_cons, List.map_nil]); first | done | rfl | (simp only [List.length_drop, List.length_take]; rfl)) ?_; (with_reducible refine (parse_Get.calls t200 t202 t203 _ A3.out).mono ?_); rintro e w37 ⟨v204, rfl, ho0, hb⟩; refine ⟨_, rfl, ?_⟩; have n0_ := Aside0.mk (Kd.R_elder' (by (with_reducible repeat (first | apply Kd.R_alloc | apply Kd.R_drewN | apply Kd.R_drew)); exact HO196.out) (Kd.R_base ho0) hb); have n1_ := Aside0.mk (Kd.R_elder' (by (with_reducible repeat (first | apply Kd.R_alloc | apply Kd.R_drewN | apply Kd.R_drew)); exact HO199.out) (Kd.R_base ho0) hb); have n2_ := Aside0.mk (Kd.R_lower (Kd.R_new' (Kd.R_new' ho0 (Kd.R_lt (by (with_reducible repeat (first | apply Kd.R_alloc | apply Kd.R_drewN | apply Kd.R_drew)); exact HO196.out))) (Kd.R_lt (by (with_reducible repeat (first | apply Kd.R_alloc | apply Kd.R_drewN | apply Kd.R_drew)); exact HO199.out))) (below_size (by repeat (first | (with_reducible first | exact HB.out | apply below_alloc | apply pw_below_drewN | apply below_drew1) | exact HB.out)))); have n3_ := Aside0.mk (below_step (by repeat (first | (with_reducible first | exact HB.out | apply below_alloc | apply pw_below_drewN | apply below_drew1) | exact HB.out)) hb); clear HO196; clear HO199; clear HB; have HO196 := n0_; have HO199 := n1_; have HO205 := n2_; have HB := n3_; clear n0_ n1_ n2_ n3_; (try clear hb); (try clear hb2); (try clear hk); (try clear hi); (try clear ho0)) | ((with_reducible refine gate_callee (f := 17) rfl ?_); refine goesL_ (some 18) rfl rfl Tryd.func17 (by kernel_rfl) rfl #[.int .i64 t194] rfl (by (try simp only [List.map_toArray, List.map_cons, List.map_nil]); first | done | rfl | (simp only [List.length_drop, List.length_take]; rfl)) ?_; (with_reducible refine (shelfmarklaw1_Err.calls t194 t206 _ A4.out).mono ?_); rintro e w' ⟨rfl, ⟨nd, rfl⟩⟩; refine ⟨_, rfl, ?_⟩) | (go_at_call 17; (with_reducible refine (shelfmarklaw1_Err.calls t203 t207 _ A6.out).mono ?_); rintro e w' ⟨rfl, ⟨nd, rfl⟩⟩))
      go_ret
      exact ⟨by first | rfl | (simp [errW_none, errW_some] <;> rfl) | (simp [*, errW_none, errW_some] <;> rfl), by repeat (first | (with_reducible first | exact HB.out | apply below_alloc | apply pw_below_drewN | apply below_drew1) | exact HB.out)⟩
  · rw [if_neg c5] at H
    have c5b0 : (t206 == 5) = false := beq_eq_false_iff_ne.mpr c5
    have c5b1 : (t206 != 5) = true := bne_iff_ne.mpr c5
    obtain rfl := Option.some.inj H
    go_enter Tryd.func13, Tryd.ntmps13
    go_wp2_with (first | ((with_reducible refine gate_callee (f := 14) rfl ?_); refine goesL_ (some 6) rfl rfl Tryd.func14 (by kernel_rfl) rfl #[.string (⟨#[]⟩ : ByteArray)] rfl (by (try simp only [List.map_toArray, List.map_cons, List.map_nil]); first | done | rfl | (simp only [List.length_drop, List.length_take]; rfl)) ?_; (with_reducible refine (parse_Get.calls (⟨#[]⟩ : ByteArray) t193 t194 _ A1.out).mono ?_); rintro e w38 ⟨v195, rfl, ho0, hb⟩; refine ⟨_, rfl, ?_⟩; have n0_ := Aside0.mk (Kd.R_lower ho0 (below_size (by repeat (first | (with_reducible first | exact HB.out | apply below_alloc | apply pw_below_drewN | apply below_drew1) | exact HB.out)))); have n1_ := Aside0.mk (below_step (by repeat (first | (with_reducible first | exact HB.out | apply below_alloc | apply pw_below_drewN | apply below_drew1) | exact HB.out)) hb); clear HB; have HO196 := n0_; have HB := n1_; clear n0_ n1_; (try clear hb); (try clear hb2); (try clear hk); (try clear hi); (try clear ho0)) | ((with_reducible refine gate_dst (N := 11) rfl ?_); (try (refine gate_guard (by rfl) ?_; dsimp only)); refine Kd.R_lit k68 _ 68 ?hg (N := 11) ?hd (xs := ([(⟨(⟨#[]⟩ : ByteArray), 2, (⟨#[120]⟩ : ByteArray)⟩ : S68)] : List (S68))) (inner := [.string (⟨#[]⟩ : ByteArray), .int .i64 2, .string (⟨#[120]⟩ : ByteArray)]) (ok := fun _ => True) (okp := fun _ => True) ?hr ?hp (fun _ hk => hk) trivial (Below.refl _ _) (Nat.le_refl _) (by simp) ?_; (case hd => rfl); (case hg => rfl); (case hr => first | (go_simp; done) | (go_simp; rfl)); (case hp => exact (Reps.c3 (show Kd.M k68 _ _ _ (⟨(⟨#[]⟩ : ByteArray), 2, (⟨#[120]⟩ : ByteArray)⟩ : S68) [.string (⟨#[]⟩ : ByteArray), .int .i64 2, .string (⟨#[120]⟩ : ByteArray)] from (k68_mkM _ _ _ (⟨(⟨#[]⟩ : ByteArray), 2, (⟨#[120]⟩ : ByteArray)⟩ : S68) )) (Reps.none _ _))); intro v198 w39 ho40 hb hg_ hnew_; clear hg_ hnew_; (first | rw [← Ny197.out] at ho40 | (simp only [Int.reduceToNat] at ho40; rw [← Ny197.out] at ho40)); have n0_ := Aside0.mk (Kd.R_elder' (by (with_reducible repeat (first | apply Kd.R_alloc | apply Kd.R_drewN | apply Kd.R_drew)); exact HO196.out) (Kd.R_base ho40) hb); have n1_ := Aside0.mk (Kd.R_lower (Kd.R_new' ho40 (Kd.R_lt (by (with_reducible repeat (first | apply Kd.R_alloc | apply Kd.R_drewN | apply Kd.R_drew)); exact HO196.out))) (below_size (by repeat (first | (with_reducible first | exact HB.out | apply below_alloc | apply pw_below_drewN | apply below_drew1) | exact HB.out)))); have n2_ := Aside0.mk (below_step (by repeat (first | (with_reducible first | exact HB.out | apply below_alloc | apply pw_below_drewN | apply below_drew1) | exact HB.out)) hb); clear HO196; clear HB; have HO196 := n0_; have HO199 := n1_; have HB := n2_; clear n0_ n1_ n2_; clear hb ho40; obtain ⟨Ao41, co41, eo41⟩ := Kd.R_slice HO199.out; subst eo41) | ((with_reducible refine gate_callee (f := 20) rfl ?_); refine goesL_ (some 12) rfl rfl Tryd.func20 (by kernel_rfl) rfl #[.slice Ao41 y197.length co41] rfl (by (try simp only [List.map_toArray, List.map_cons, List.map_nil]); first | done | rfl | (simp only [List.length_drop, List.length_take]; rfl)) ?_; (with_reducible refine (shelfmarkref10_Pack.calls k _ _ y197 t200 t201 _ ?side1 ?side2 A2.out).mono ?_); (case side1 => repeat (first | exact (Kd.R_reads' HO199.out).2.2 | (with_reducible refine Kd.C_alloc ?_ _) | (with_reducible refine Kd.C_drewN ?_ _) | (with_reducible refine Kd.C_drew ?_))); (case side2 => exact (Kd.R_reads' HO199.out).2.1); rintro e w42 ⟨rfl, hb⟩; refine ⟨_, rfl, ?_⟩; have n0_ := Aside0.mk (Kd.R_below (by (with_reducible repeat (first | apply Kd.R_alloc | apply Kd.R_drewN | apply Kd.R_drew)); exact HO196.out) hb); have n1_ := Aside0.mk (Kd.R_below (by (with_reducible repeat (first | apply Kd.R_alloc | apply Kd.R_drewN | apply Kd.R_drew)); exact HO199.out) hb); have n2_ := Aside0.mk (below_step (by repeat (first | (with_reducible first | exact HB.out | apply below_alloc | apply pw_below_drewN | apply below_drew1) | exact HB.out)) hb); clear HO196; clear HO199; clear HB; have HO196 := n0_; have HO199 := n1_; have HB := n2_; clear n0_ n1_ n2_; (try clear hb); (try clear hb2); (try clear hk); (try clear hi)) | ((with_reducible refine gate_callee (f := 14) rfl ?_); refine goesL_ (some 14) rfl rfl Tryd.func14 (by kernel_rfl) rfl #[.string t200] rfl (by (try simp only [List.map_toArray, List.map_cons, List.map_nil]); first | done | rfl | (simp only [List.length_drop, List.length_take]; rfl)) ?_; (with_reducible refine (parse_Get.calls t200 t202 t203 _ A3.out).mono ?_); rintro e w43 ⟨v204, rfl, ho0, hb⟩; refine ⟨_, rfl, ?_⟩; have n0_ := Aside0.mk (Kd.R_elder' (by (with_reducible repeat (first | apply Kd.R_alloc | apply Kd.R_drewN | apply Kd.R_drew)); exact HO196.out) (Kd.R_base ho0) hb); have n1_ := Aside0.mk (Kd.R_elder' (by (with_reducible repeat (first | apply Kd.R_alloc | apply Kd.R_drewN | apply Kd.R_drew)); exact HO199.out) (Kd.R_base ho0) hb); have n2_ := Aside0.mk (Kd.R_lower (Kd.R_new' (Kd.R_new' ho0 (Kd.R_lt (by (with_reducible repeat (first | apply Kd.R_alloc | apply Kd.R_drewN | apply Kd.R_drew)); exact HO196.out))) (Kd.R_lt (by (with_reducible repeat (first | apply Kd.R_alloc | apply Kd.R_drewN | apply Kd.R_drew)); exact HO199.out))) (below_size (by repeat (first | (with_reducible first | exact HB.out | apply below_alloc | apply pw_below_drewN | apply below_drew1) | exact HB.out)))); have n3_ := Aside0.mk (below_step (by repeat (first | (with_reducible first | exact HB.out | apply below_alloc | apply pw_below_drewN | apply below_drew1) | exact HB.out)) hb); clear HO196; clear HO199; clear HB; have HO196 := n0_; have HO199 := n1_; have HO205 := n2_; have HB := n3_; clear n0_ n1_ n2_ n3_; (try clear hb); (try clear hb2); (try clear hk); (try clear hi); (try clear ho0)) | ((with_reducible refine gate_callee (f := 17) rfl ?_); refine goesL_ (some 18) rfl rfl Tryd.func17 (by kernel_rfl) rfl #[.int .i64 t194] rfl (by (try simp only [List.map_toArray, List.map_cons, List.map_nil]); first | done | rfl | (simp only [List.length_drop, List.length_take]; rfl)) ?_; (with_reducible refine (shelfmarklaw1_Err.calls t194 t206 _ A4.out).mono ?_); rintro e w' ⟨rfl, ⟨nd, rfl⟩⟩; refine ⟨_, rfl, ?_⟩))
    go_ret
    exact ⟨by first | rfl | (simp [errW_none, errW_some] <;> rfl) | (simp [*, errW_none, errW_some] <;> rfl), by repeat (first | (with_reducible first | exact HB.out | apply below_alloc | apply pw_below_drewN | apply below_drew1) | exact HB.out)⟩
end Go.Proofs.YtncokgdfkbgflaaDoor.P

namespace Go.Proofs.YtncokgdfkbgflaaDoor.P
open Go.RowKit Go.Proofs.YtncokgdfkbgflaaDoorW.PrintWords Go.Proofs.YtncokgdfkbgflaaDoorW.PrintLast Go.Proofs.YtncokgdfkbgflaaDoorW.PrintMore
attribute [local go_sem] max2_int min2_int max_two min_two max_three min_three max_four min_four   -- for this text's walks alone
set_option linter.unusedVariables false
set_option linter.unusedSimpArgs false
def shelfmarklaw11_ParseLong.l0 : Nat → Int → Int → ByteArray → ByteArray → Int → Option (Bool)
  | 0, _, _, _, _, _ => none
  | k + 1, x0, x1, x5, x6, x7 => if x7 < 8 then (if 0 ≤ (wrap64 (8 * x7)) then ((some (([(shr .u64 x0 (wrap64 (8 * x7))) % 256] : List Int) : List Int)).bind fun y425 => (if x6.size + (strOfNums y425).size ≤ 9223372036854775807 then (shelfmarklaw11_ParseLong.l0 k x0 x1 x5 (x6 ++ (strOfNums y425)) (wrap64 (x7 + 1))) else (none))) else (none)) else (if x5.size + x6.size ≤ 9223372036854775807 then ((parse_Get.f (x5 ++ x6)).bind fun bt428 => ((shelfmarkref10_Word.f k (wrap64 (x1))).bind fun t432 => (if x5.size + t432.size ≤ 9223372036854775807 then ((parse_Get.f (x5 ++ t432)).bind fun bt433 => (if x0 ≤ 65536 then ((shelfmarklaw1_Err.f bt428.2).bind fun t437 => (if t437 = 5 then ((shelfmarklaw1_Err.f bt433.2).bind fun t438 => (if t438 = 5 then ((shelfmarklaw11_awake.f k).bind fun t439 => (some t439)) else (some false))) else (some false))) else ((shelfmarklaw1_Err.f bt428.2).bind fun t440 => (if t440 = 4 then ((shelfmarklaw1_Err.f bt433.2).bind fun t441 => (if t441 = 5 then ((shelfmarklaw11_awake.f k).bind fun t442 => (some t442)) else (some false))) else (some false))))) else (none)))) else (none))
def shelfmarklaw11_ParseLong.f (k : Nat) (a0 : Int) (a1 : Int) : Option (Bool) := (shelfmarkref10_Str.f k (⟨#[110, 105, 120, 45, 97, 114, 99, 104, 105, 118, 101, 45, 49]⟩ : ByteArray)).bind fun t420 => ((shelfmarkref10_Str.f k (⟨#[40]⟩ : ByteArray)).bind fun t421 => (if t420.size + t421.size ≤ 9223372036854775807 then ((shelfmarkref10_Str.f k (⟨#[116, 121, 112, 101]⟩ : ByteArray)).bind fun t422 => (if (t420 ++ t421).size + t422.size ≤ 9223372036854775807 then ((shelfmarkref10_Str.f k (⟨#[114, 101, 103, 117, 108, 97, 114]⟩ : ByteArray)).bind fun t423 => (if ((t420 ++ t421) ++ t422).size + t423.size ≤ 9223372036854775807 then ((shelfmarkref10_Str.f k (⟨#[99, 111, 110, 116, 101, 110, 116, 115]⟩ : ByteArray)).bind fun t424 => (if (((t420 ++ t421) ++ t422) ++ t423).size + t424.size ≤ 9223372036854775807 then (shelfmarklaw11_ParseLong.l0 k a0 a1 ((((t420 ++ t421) ++ t422) ++ t423) ++ t424) (⟨#[]⟩ : ByteArray) 0) else (none))) else (none))) else (none))) else (none)))
set_option maxHeartbeats 8000000 in
set_option maxRecDepth 100000 in
theorem shelfmarklaw11_ParseLong.calls (k : Nat) (a0 : Int) (a1 : Int) (r : Bool) (w : World) (h : shelfmarklaw11_ParseLong.f k a0 a1 = some r) :
    Calls Tryd.prog 8 #[.int .u64 a0, .int .u16 a1] w fun e w' => e = .returned (.bool r) ∧ Below w.heap.size w w' := by
  have HB := Aside0.mk (Below.refl w.heap.size w)
  have H : ((shelfmarkref10_Str.f k (⟨#[110, 105, 120, 45, 97, 114, 99, 104, 105, 118, 101, 45, 49]⟩ : ByteArray)).bind fun t420 => ((shelfmarkref10_Str.f k (⟨#[40]⟩ : ByteArray)).bind fun t421 => (if t420.size + t421.size ≤ 9223372036854775807 then ((shelfmarkref10_Str.f k (⟨#[116, 121, 112, 101]⟩ : ByteArray)).bind fun t422 => (if (t420 ++ t421).size + t422.size ≤ 9223372036854775807 then ((shelfmarkref10_Str.f k (⟨#[114, 101, 103, 117, 108, 97, 114]⟩ : ByteArray)).bind fun t423 => (if ((t420 ++ t421) ++ t422).size + t423.size ≤ 9223372036854775807 then ((shelfmarkref10_Str.f k (⟨#[99, 111, 110, 116, 101, 110, 116, 115]⟩ : ByteArray)).bind fun t424 => (if (((t420 ++ t421) ++ t422) ++ t423).size + t424.size ≤ 9223372036854775807 then (shelfmarklaw11_ParseLong.l0 k a0 a1 ((((t420 ++ t421) ++ t422) ++ t423) ++ t424) (⟨#[]⟩ : ByteArray) 0) else (none))) else (none))) else (none))) else (none)))) = some r := h
  clear h
  replace H := Option.bind_eq_some_iff.mp H
  obtain ⟨t420, A30, H⟩ := H
  replace H : ((shelfmarkref10_Str.f k (⟨#[40]⟩ : ByteArray)).bind fun t421 => (if t420.size + t421.size ≤ 9223372036854775807 then ((shelfmarkref10_Str.f k (⟨#[116, 121, 112, 101]⟩ : ByteArray)).bind fun t422 => (if (t420 ++ t421).size + t422.size ≤ 9223372036854775807 then ((shelfmarkref10_Str.f k (⟨#[114, 101, 103, 117, 108, 97, 114]⟩ : ByteArray)).bind fun t423 => (if ((t420 ++ t421) ++ t422).size + t423.size ≤ 9223372036854775807 then ((shelfmarkref10_Str.f k (⟨#[99, 111, 110, 116, 101, 110, 116, 115]⟩ : ByteArray)).bind fun t424 => (if (((t420 ++ t421) ++ t422) ++ t423).size + t424.size ≤ 9223372036854775807 then (shelfmarklaw11_ParseLong.l0 k a0 a1 ((((t420 ++ t421) ++ t422) ++ t423) ++ t424) (⟨#[]⟩ : ByteArray) 0) else (none))) else (none))) else (none))) else (none))) = some r := H
  have A3 := Aside0.mk A30
  clear A30
  replace H := Option.bind_eq_some_iff.mp H
  obtain ⟨t421, A40, H⟩ := H
  replace H : (if t420.size + t421.size ≤ 9223372036854775807 then ((shelfmarkref10_Str.f k (⟨#[116, 121, 112, 101]⟩ : ByteArray)).bind fun t422 => (if (t420 ++ t421).size + t422.size ≤ 9223372036854775807 then ((shelfmarkref10_Str.f k (⟨#[114, 101, 103, 117, 108, 97, 114]⟩ : ByteArray)).bind fun t423 => (if ((t420 ++ t421) ++ t422).size + t423.size ≤ 9223372036854775807 then ((shelfmarkref10_Str.f k (⟨#[99, 111, 110, 116, 101, 110, 116, 115]⟩ : ByteArray)).bind fun t424 => (if (((t420 ++ t421) ++ t422) ++ t423).size + t424.size ≤ 9223372036854775807 then (shelfmarklaw11_ParseLong.l0 k a0 a1 ((((t420 ++ t421) ++ t422) ++ t423) ++ t424) (⟨#[]⟩ : ByteArray) 0) else (none))) else (none))) else (none))) else (none)) = some r := H
  have A4 := Aside0.mk A40
  clear A40
  by_cases c5 : t420.size + t421.size ≤ 9223372036854775807
  · rw [if_pos c5] at H
    have c5b0 := eq_true c5
    have c5b1 : decide (t420.size + t421.size ≤ 9223372036854775807) = true := decide_eq_true c5
    try have c5b2 : (9223372036854775807 < t420.size + t421.size) = False := eq_false (Nat.not_lt.2 c5)
    replace H := Option.bind_eq_some_iff.mp H
    obtain ⟨t422, A60, H⟩ := H
    replace H : (if (t420 ++ t421).size + t422.size ≤ 9223372036854775807 then ((shelfmarkref10_Str.f k (⟨#[114, 101, 103, 117, 108, 97, 114]⟩ : ByteArray)).bind fun t423 => (if ((t420 ++ t421) ++ t422).size + t423.size ≤ 9223372036854775807 then ((shelfmarkref10_Str.f k (⟨#[99, 111, 110, 116, 101, 110, 116, 115]⟩ : ByteArray)).bind fun t424 => (if (((t420 ++ t421) ++ t422) ++ t423).size + t424.size ≤ 9223372036854775807 then (shelfmarklaw11_ParseLong.l0 k a0 a1 ((((t420 ++ t421) ++ t422) ++ t423) ++ t424) (⟨#[]⟩ : ByteArray) 0) else (none))) else (none))) else (none)) = some r := H
    have A6 := Aside0.mk A60
    clear A60
    by_cases c7 : (t420 ++ t421).size + t422.size ≤ 9223372036854775807
    · rw [if_pos c7] at H
      have c7b0 := eq_true c7
      have c7b1 : decide ((t420 ++ t421).size + t422.size ≤ 9223372036854775807) = true := decide_eq_true c7
      try have c7b2 : (9223372036854775807 < (t420 ++ t421).size + t422.size) = False := eq_false (Nat.not_lt.2 c7)
      (try (have c7b2_l := c7b2; simp only [ByteArray.size_append] at c7b2_l))
      replace H := Option.bind_eq_some_iff.mp H
      obtain ⟨t423, A80, H⟩ := H
      replace H : (if ((t420 ++ t421) ++ t422).size + t423.size ≤ 9223372036854775807 then ((shelfmarkref10_Str.f k (⟨#[99, 111, 110, 116, 101, 110, 116, 115]⟩ : ByteArray)).bind fun t424 => (if (((t420 ++ t421) ++ t422) ++ t423).size + t424.size ≤ 9223372036854775807 then (shelfmarklaw11_ParseLong.l0 k a0 a1 ((((t420 ++ t421) ++ t422) ++ t423) ++ t424) (⟨#[]⟩ : ByteArray) 0) else (none))) else (none)) = some r := H
      have A8 := Aside0.mk A80
      clear A80
      by_cases c9 : ((t420 ++ t421) ++ t422).size + t423.size ≤ 9223372036854775807
      · rw [if_pos c9] at H
        have c9b0 := eq_true c9
        have c9b1 : decide (((t420 ++ t421) ++ t422).size + t423.size ≤ 9223372036854775807) = true := decide_eq_true c9
        try have c9b2 : (9223372036854775807 < ((t420 ++ t421) ++ t422).size + t423.size) = False := eq_false (Nat.not_lt.2 c9)
        (try (have c9b2_l := c9b2; simp only [ByteArray.size_append] at c9b2_l))
        replace H := Option.bind_eq_some_iff.mp H
        obtain ⟨t424, A100, H⟩ := H
        replace H : (if (((t420 ++ t421) ++ t422) ++ t423).size + t424.size ≤ 9223372036854775807 then (shelfmarklaw11_ParseLong.l0 k a0 a1 ((((t420 ++ t421) ++ t422) ++ t423) ++ t424) (⟨#[]⟩ : ByteArray) 0) else (none)) = some r := H
        have A10 := Aside0.mk A100
        clear A100
        by_cases c11 : (((t420 ++ t421) ++ t422) ++ t423).size + t424.size ≤ 9223372036854775807
        · rw [if_pos c11] at H
          have c11b0 := eq_true c11
          have c11b1 : decide ((((t420 ++ t421) ++ t422) ++ t423).size + t424.size ≤ 9223372036854775807) = true := decide_eq_true c11
          try have c11b2 : (9223372036854775807 < (((t420 ++ t421) ++ t422) ++ t423).size + t424.size) = False := eq_false (Nat.not_lt.2 c11)
          (try (have c11b2_l := c11b2; simp only [ByteArray.size_append] at c11b2_l))
          have H' := Aside0.mk H
          clear H
          go_enter Tryd.func8, Tryd.ntmps8
          go_wp2_with (first | ((with_reducible refine gate_callee (f := 21) rfl ?_); refine goesL_ (some 13) rfl rfl Tryd.func21 (by kernel_rfl) rfl #[.string (⟨#[110, 105, 120, 45, 97, 114, 99, 104, 105, 118, 101, 45, 49]⟩ : ByteArray)] rfl (by (try simp only [List.map_toArray, List.map_cons, List.map_nil]); first | done | rfl | (simp only [List.length_drop, List.length_take]; rfl)) ?_; (with_reducible refine (shelfmarkref10_Str.calls k (⟨#[110, 105, 120, 45, 97, 114, 99, 104, 105, 118, 101, 45, 49]⟩ : ByteArray) t420 _ A3.out).mono ?_); rintro e w12 ⟨rfl, hb⟩; refine ⟨_, rfl, ?_⟩; have n0_ := Aside0.mk (below_step (by repeat (first | (with_reducible first | exact HB.out | apply below_alloc | apply pw_below_drewN | apply below_drew1) | exact HB.out)) hb); clear HB; have HB := n0_; clear n0_; (try clear hb); (try clear hb2); (try clear hk); (try clear hi)) | ((with_reducible refine gate_callee (f := 21) rfl ?_); refine goesL_ (some 14) rfl rfl Tryd.func21 (by kernel_rfl) rfl #[.string (⟨#[40]⟩ : ByteArray)] rfl (by (try simp only [List.map_toArray, List.map_cons, List.map_nil]); first | done | rfl | (simp only [List.length_drop, List.length_take]; rfl)) ?_; (with_reducible refine (shelfmarkref10_Str.calls k (⟨#[40]⟩ : ByteArray) t421 _ A4.out).mono ?_); rintro e w13 ⟨rfl, hb⟩; refine ⟨_, rfl, ?_⟩; have n0_ := Aside0.mk (below_step (by repeat (first | (with_reducible first | exact HB.out | apply below_alloc | apply pw_below_drewN | apply below_drew1) | exact HB.out)) hb); clear HB; have HB := n0_; clear n0_; (try clear hb); (try clear hb2); (try clear hk); (try clear hi)) | ((with_reducible refine gate_callee (f := 21) rfl ?_); refine goesL_ (some 16) rfl rfl Tryd.func21 (by kernel_rfl) rfl #[.string (⟨#[116, 121, 112, 101]⟩ : ByteArray)] rfl (by (try simp only [List.map_toArray, List.map_cons, List.map_nil]); first | done | rfl | (simp only [List.length_drop, List.length_take]; rfl)) ?_; (with_reducible refine (shelfmarkref10_Str.calls k (⟨#[116, 121, 112, 101]⟩ : ByteArray) t422 _ A6.out).mono ?_); rintro e w14 ⟨rfl, hb⟩; refine ⟨_, rfl, ?_⟩; have n0_ := Aside0.mk (below_step (by repeat (first | (with_reducible first | exact HB.out | apply below_alloc | apply pw_below_drewN | apply below_drew1) | exact HB.out)) hb); clear HB; have HB := n0_; clear n0_; (try clear hb); (try clear hb2); (try clear hk); (try clear hi)) | ((with_reducible refine gate_callee (f := 21) rfl ?_); refine goesL_ (some 18) rfl rfl Tryd.func21 (by kernel_rfl) rfl #[.string (⟨#[114, 101, 103, 117, 108, 97, 114]⟩ : ByteArray)] rfl (by (try simp only [List.map_toArray, List.map_cons, List.map_nil]); first | done | rfl | (simp only [List.length_drop, List.length_take]; rfl)) ?_; (with_reducible refine (shelfmarkref10_Str.calls k (⟨#[114, 101, 103, 117, 108, 97, 114]⟩ : ByteArray) t423 _ A8.out).mono ?_); rintro e w15 ⟨rfl, hb⟩; refine ⟨_, rfl, ?_⟩; have n0_ := Aside0.mk (below_step (by repeat (first | (with_reducible first | exact HB.out | apply below_alloc | apply pw_below_drewN | apply below_drew1) | exact HB.out)) hb); clear HB; have HB := n0_; clear n0_; (try clear hb); (try clear hb2); (try clear hk); (try clear hi)) | ((with_reducible refine gate_callee (f := 21) rfl ?_); refine goesL_ (some 20) rfl rfl Tryd.func21 (by kernel_rfl) rfl #[.string (⟨#[99, 111, 110, 116, 101, 110, 116, 115]⟩ : ByteArray)] rfl (by (try simp only [List.map_toArray, List.map_cons, List.map_nil]); first | done | rfl | (simp only [List.length_drop, List.length_take]; rfl)) ?_; (with_reducible refine (shelfmarkref10_Str.calls k (⟨#[99, 111, 110, 116, 101, 110, 116, 115]⟩ : ByteArray) t424 _ A10.out).mono ?_); rintro e w16 ⟨rfl, hb⟩; refine ⟨_, rfl, ?_⟩; have n0_ := Aside0.mk (below_step (by repeat (first | (with_reducible first | exact HB.out | apply below_alloc | apply pw_below_drewN | apply below_drew1) | exact HB.out)) hb); clear HB; have HB := n0_; clear n0_; (try clear hb); (try clear hb2); (try clear hk); (try clear hi)))
          go_loopg [6, 7] k (fun kq v6 v7 w' => ∃ (x6_1 : ByteArray) (x7_1 : Int), v6 = .string x6_1 ∧ v7 = .int .i64 x7_1 ∧ Aside0 (shelfmarklaw11_ParseLong.l0 kq a0 a1 ((((t420 ++ t421) ++ t422) ++ t423) ++ t424) x6_1 x7_1 = some r) ∧ Aside0 (kq ≤ k) ∧ Aside0 (Below w.heap.size w w'))
          case atStart => exact ⟨((⟨#[]⟩ : ByteArray)), (0), (by first | rfl | (simp; done) | (simp [*]; done) | (congr 1; rw [Bool.eq_iff_iff]; simp [bne]; done) | (rw [Bool.eq_iff_iff]; simp [bne]; done)), (by first | rfl | (simp; done) | (simp [*]; done) | (congr 1; rw [Bool.eq_iff_iff]; simp [bne]; done) | (rw [Bool.eq_iff_iff]; simp [bne]; done)), H', ⟨Nat.le_refl _⟩, ⟨by repeat (first | (with_reducible first | exact HB.out | apply below_alloc | apply pw_below_drewN | apply below_drew1) | exact HB.out)⟩⟩
          case round =>
            clear H'
            try clear c1
            try clear c2
            try clear p2
            try clear c5
            try clear c5b0
            try clear c5b1
            try clear c5b2
            try clear c7
            try clear c7b0
            try clear c7b1
            try clear c7b2
            try clear c8
            try clear c9
            try clear c9b0
            try clear c9b1
            try clear c9b2
            try clear c11
            try clear c11b0
            try clear c11b1
            try clear c11b2
            obtain ⟨x6_1, x7_1, rfl, rfl, HA, HK1, HB⟩ := hrel
            cases gk with
            | zero => exact absurd HA.out (by simp [shelfmarklaw11_ParseLong.l0])
            | succ k1 =>
              have H := HA.out
              clear HA
              simp only [shelfmarklaw11_ParseLong.l0] at H
              by_cases c17 : x7_1 < 8
              · rw [if_pos c17] at H
                have c17b0 : decide (x7_1 < 8) = true := decide_eq_true c17
                clear c17
                obtain ⟨ji18, hji18⟩ : ∃ j_ : Int, (wrap64 (8 * x7_1)) = j_ := ⟨_, rfl⟩
                replace H : (if 0 ≤ (ji18) then ((some (([(shr .u64 a0 (ji18)) % 256] : List Int) : List Int)).bind fun y425 => (if x6_1.size + (strOfNums y425).size ≤ 9223372036854775807 then (shelfmarklaw11_ParseLong.l0 k1 a0 a1 ((((t420 ++ t421) ++ t422) ++ t423) ++ t424) (x6_1 ++ (strOfNums y425)) (wrap64 (x7_1 + 1))) else (none))) else (none)) = some r := by first | (rw [hji18] at H; exact H) | (simp only [hji18] at H ⊢; exact H)
                have hji18w : (IntKind.i64.wrap (8 * x7_1)) = ji18 := (i64_w _).trans hji18
                by_cases c19 : 0 ≤ (ji18)
                · rw [if_pos c19] at H
                  have c19b0 := eq_true c19
                  have c19b1 : decide (0 ≤ (ji18)) = true := decide_eq_true c19
                  clear c19
                  obtain ⟨ji20, hji20⟩ : ∃ j_ : Int, (shr .u64 a0 (ji18)) = j_ := ⟨_, rfl⟩
                  replace H : ((some (([(ji20) % 256] : List Int) : List Int)).bind fun y425 => (if x6_1.size + (strOfNums y425).size ≤ 9223372036854775807 then (shelfmarklaw11_ParseLong.l0 k1 a0 a1 ((((t420 ++ t421) ++ t422) ++ t423) ++ t424) (x6_1 ++ (strOfNums y425)) (wrap64 (x7_1 + 1))) else (none))) = some r := by first | (rw [hji20] at H; exact H) | (simp only [hji20] at H ⊢; exact H)
                  have hji20_ : (a0 / 2 ^ min (ji18).toNat 64) = ji20 := hji20
                  have hji20z : (ji18) ≤ 64 → (a0 / 2 ^ (ji18).toNat) = ji20 := shr_small hji20
                  obtain ⟨y425, hy425⟩ : ∃ y_ : List Int, y_ = (([(ji20) % 256] : List Int)) := ⟨_, rfl⟩
                  replace H : (if x6_1.size + (strOfNums y425).size ≤ 9223372036854775807 then (shelfmarklaw11_ParseLong.l0 k1 a0 a1 ((((t420 ++ t421) ++ t422) ++ t423) ++ t424) (x6_1 ++ (strOfNums y425)) (wrap64 (x7_1 + 1))) else (none)) = some r := by first | (rw [hy425]; with_reducible exact H) | (have H2_ := (Option.bind_some _ _).symm.trans H; rw [hy425]; with_reducible exact H2_) | (have H2_ := (Option.bind_some _ _).symm.trans H; with_reducible exact H2_) | with_reducible exact H | (rw [hy425]; exact H) | exact H
                  have Ny425 := Aside0.mk hy425
                  clear hy425
                  by_cases c21 : x6_1.size + (strOfNums y425).size ≤ 9223372036854775807
                  · rw [if_pos c21] at H
                    have c21b0 := eq_true c21
                    have c21b1 : decide (x6_1.size + (strOfNums y425).size ≤ 9223372036854775807) = true := decide_eq_true c21
                    try have c21b2 : (9223372036854775807 < x6_1.size + (strOfNums y425).size) = False := eq_false (Nat.not_lt.2 c21)
                    have H' := Aside0.mk H
                    clear H
                    go_wp2_with (first | ((with_reducible refine gate_dst (N := 32) rfl ?_); refine Kd.R_lit (Kd.int .u8) _ 5 ?hg (N := 32) ?hd (xs := ([(ji20) % 256] : List Int)) (inner := [.int .u8 ((ji20) % 256)]) (ok := fun _ => True) (okp := fun _ => True) ?hr ?hp (fun _ hk => hk) trivial (Below.refl _ _) (Nat.le_refl _) (by simp) ?_; (case hd => rfl); (case hg => rfl); (case hr => first | (go_simp; done) | (go_simp; rfl)); (case hp => exact (Reps.one (show Kd.M (Kd.int .u8) _ _ _ ((ji20) % 256) [.int .u8 ((ji20) % 256)] from rfl) (Reps.none _ _))); intro v426 w22 ho23 hb hg_ hnew_; clear hg_ hnew_; (first | rw [← Ny425.out] at ho23 | (simp only [Int.reduceToNat] at ho23; rw [← Ny425.out] at ho23)); have n0_ := Aside0.mk (Kd.R_lower ho23 (below_size (by repeat (first | (with_reducible first | exact HB.out | apply below_alloc | apply pw_below_drewN | apply below_drew1) | exact HB.out)))); have n1_ := Aside0.mk (below_step (by repeat (first | (with_reducible first | exact HB.out | apply below_alloc | apply pw_below_drewN | apply below_drew1) | exact HB.out)) hb); clear HB; have HO427 := n0_; have HB := n1_; clear n0_ n1_; clear hb ho23; have hcv24 := own_string (P := Tryd.prog) Tryd.underlying33 Tryd.underlying5 Tryd.underlying9 (Kd.own_of_R HO427.out)))
                    go_roundg k1
                    case measure => have := HK1.out; omega
                    case rel => exact ⟨(x6_1 ++ (strOfNums y425)), (wrap64 (x7_1 + 1)), (by first | rfl | (simp; done) | (simp [*]; done) | (congr 1; rw [Bool.eq_iff_iff]; simp [bne]; done) | (rw [Bool.eq_iff_iff]; simp [bne]; done)), (by first | rfl | (simp; done) | (simp [*]; done) | (congr 1; rw [Bool.eq_iff_iff]; simp [bne]; done) | (rw [Bool.eq_iff_iff]; simp [bne]; done)), H', ⟨by have := HK1.out; omega⟩, ⟨by repeat (first | (with_reducible first | exact HB.out | apply below_alloc | apply pw_below_drewN | apply below_drew1) | exact HB.out)⟩⟩
                  · rw [if_neg c21] at H
                    exact absurd H (by simp)
                · rw [if_neg c19] at H
                  exact absurd H (by simp)
              · rw [if_neg c17] at H
                have c17b0 : decide (x7_1 < 8) = false := decide_eq_false c17
                clear c17
                by_cases c25 : ((((t420 ++ t421) ++ t422) ++ t423) ++ t424).size + x6_1.size ≤ 9223372036854775807
                · rw [if_pos c25] at H
                  have c25b0 := eq_true c25
                  have c25b1 : decide (((((t420 ++ t421) ++ t422) ++ t423) ++ t424).size + x6_1.size ≤ 9223372036854775807) = true := decide_eq_true c25
                  try have c25b2 : (9223372036854775807 < ((((t420 ++ t421) ++ t422) ++ t423) ++ t424).size + x6_1.size) = False := eq_false (Nat.not_lt.2 c25)
                  (try (have c25b2_l := c25b2; simp only [ByteArray.size_append] at c25b2_l))
                  replace H := Option.bind_eq_some_iff.mp H
                  obtain ⟨⟨t428, t429⟩, A260, H⟩ := H
                  replace H : ((shelfmarkref10_Word.f k1 (wrap64 (a1))).bind fun t432 => (if ((((t420 ++ t421) ++ t422) ++ t423) ++ t424).size + t432.size ≤ 9223372036854775807 then ((parse_Get.f (((((t420 ++ t421) ++ t422) ++ t423) ++ t424) ++ t432)).bind fun bt433 => (if a0 ≤ 65536 then ((shelfmarklaw1_Err.f t429).bind fun t437 => (if t437 = 5 then ((shelfmarklaw1_Err.f bt433.2).bind fun t438 => (if t438 = 5 then ((shelfmarklaw11_awake.f k1).bind fun t439 => (some t439)) else (some false))) else (some false))) else ((shelfmarklaw1_Err.f t429).bind fun t440 => (if t440 = 4 then ((shelfmarklaw1_Err.f bt433.2).bind fun t441 => (if t441 = 5 then ((shelfmarklaw11_awake.f k1).bind fun t442 => (some t442)) else (some false))) else (some false))))) else (none))) = some r := H
                  have A26 := Aside0.mk A260
                  clear A260
                  replace H := Option.bind_eq_some_iff.mp H
                  obtain ⟨t432, A270, H⟩ := H
                  replace H : (if ((((t420 ++ t421) ++ t422) ++ t423) ++ t424).size + t432.size ≤ 9223372036854775807 then ((parse_Get.f (((((t420 ++ t421) ++ t422) ++ t423) ++ t424) ++ t432)).bind fun bt433 => (if a0 ≤ 65536 then ((shelfmarklaw1_Err.f t429).bind fun t437 => (if t437 = 5 then ((shelfmarklaw1_Err.f bt433.2).bind fun t438 => (if t438 = 5 then ((shelfmarklaw11_awake.f k1).bind fun t439 => (some t439)) else (some false))) else (some false))) else ((shelfmarklaw1_Err.f t429).bind fun t440 => (if t440 = 4 then ((shelfmarklaw1_Err.f bt433.2).bind fun t441 => (if t441 = 5 then ((shelfmarklaw11_awake.f k1).bind fun t442 => (some t442)) else (some false))) else (some false))))) else (none)) = some r := H
                  have A27 := Aside0.mk A270
                  clear A270
                  by_cases c28 : ((((t420 ++ t421) ++ t422) ++ t423) ++ t424).size + t432.size ≤ 9223372036854775807
                  · rw [if_pos c28] at H
                    have c28b0 := eq_true c28
                    have c28b1 : decide (((((t420 ++ t421) ++ t422) ++ t423) ++ t424).size + t432.size ≤ 9223372036854775807) = true := decide_eq_true c28
                    try have c28b2 : (9223372036854775807 < ((((t420 ++ t421) ++ t422) ++ t423) ++ t424).size + t432.size) = False := eq_false (Nat.not_lt.2 c28)
                    (try (have c28b2_l := c28b2; simp only [ByteArray.size_append] at c28b2_l))
                    replace H := Option.bind_eq_some_iff.mp H
                    obtain ⟨⟨t433, t434⟩, A290, H⟩ := H
                    replace H : (if a0 ≤ 65536 then ((shelfmarklaw1_Err.f t429).bind fun t437 => (if t437 = 5 then ((shelfmarklaw1_Err.f t434).bind fun t438 => (if t438 = 5 then ((shelfmarklaw11_awake.f k1).bind fun t439 => (some t439)) else (some false))) else (some false))) else ((shelfmarklaw1_Err.f t429).bind fun t440 => (if t440 = 4 then ((shelfmarklaw1_Err.f t434).bind fun t441 => (if t441 = 5 then ((shelfmarklaw11_awake.f k1).bind fun t442 => (some t442)) else (some false))) else (some false)))) = some r := H
                    have A29 := Aside0.mk A290
                    clear A290
                    by_cases c30 : a0 ≤ 65536
                    · rw [if_pos c30] at H
                      have c30b0 : decide (a0 ≤ 65536) = true := decide_eq_true c30
                      clear c30
                      replace H := Option.bind_eq_some_iff.mp H
                      obtain ⟨t437, A310, H⟩ := H
                      replace H : (if t437 = 5 then ((shelfmarklaw1_Err.f t434).bind fun t438 => (if t438 = 5 then ((shelfmarklaw11_awake.f k1).bind fun t439 => (some t439)) else (some false))) else (some false)) = some r := H
                      have A31 := Aside0.mk A310
                      clear A310
                      by_cases c32 : t437 = 5
                      · rw [if_pos c32] at H
                        have c32b0 : (t437 == 5) = true := beq_iff_eq.mpr c32
                        have c32b1 : (t437 != 5) = false := bne_eq_false_iff_eq.mpr c32
                        clear c32
                        replace H := Option.bind_eq_some_iff.mp H
                        obtain ⟨t438, A330, H⟩ := H
                        replace H : (if t438 = 5 then ((shelfmarklaw11_awake.f k1).bind fun t439 => (some t439)) else (some false)) = some r := H
                        have A33 := Aside0.mk A330
                        clear A330
                        by_cases c34 : t438 = 5
                        · rw [if_pos c34] at H
                          have c34b0 : (t438 == 5) = true := beq_iff_eq.mpr c34
                          have c34b1 : (t438 != 5) = false := bne_eq_false_iff_eq.mpr c34
                          clear c34
                          replace H := Option.bind_eq_some_iff.mp H
                          obtain ⟨t439, A350, H⟩ := H
                          replace H : (some t439) = some r := H
                          have A35 := Aside0.mk A350
                          clear A350
                          obtain rfl := Option.some.inj H
                          go_wp2_with (first | ((with_reducible refine gate_callee (f := 14) rfl ?_); refine goesL_ (some 39) rfl rfl Tryd.func14 (by kernel_rfl) rfl #[.string (((((t420 ++ t421) ++ t422) ++ t423) ++ t424) ++ x6_1)] rfl (by (try simp only [List.map_toArray, List.map_cons, List.map_nil]); first | done | rfl | (simp only [List.length_drop, List.length_take]; rfl)) ?_; (with_reducible refine (parse_Get.calls (((((t420 ++ t421) ++ t422) ++ t423) ++ t424) ++ x6_1) t428 t429 _ A26.out).mono ?_); rintro e w36 ⟨v430, rfl, ho0, hb⟩; refine ⟨_, rfl, ?_⟩; have n0_ := Aside0.mk (Kd.R_lower ho0 (below_size (by repeat (first | (with_reducible first | exact HB.out | apply below_alloc | apply pw_below_drewN | apply below_drew1) | exact HB.out)))); have n1_ := Aside0.mk (below_step (by repeat (first | (with_reducible first | exact HB.out | apply below_alloc | apply pw_below_drewN | apply below_drew1) | exact HB.out)) hb); clear HB; have HO431 := n0_; have HB := n1_; clear n0_ n1_; (try clear hb); (try clear hb2); (try clear hk); (try clear hi); (try clear ho0)) | ((with_reducible refine gate_callee (f := 22) rfl ?_); refine goesL_ (some 46) rfl rfl Tryd.func22 (by kernel_rfl) rfl #[.int .i64 (wrap64 (a1))] rfl (by (try simp only [List.map_toArray, List.map_cons, List.map_nil]); first | done | rfl | (simp only [List.length_drop, List.length_take]; rfl)) ?_; (with_reducible refine (shelfmarkref10_Word.calls k1 (wrap64 (a1)) t432 _ A27.out).mono ?_); rintro e w37 ⟨rfl, hb⟩; refine ⟨_, rfl, ?_⟩; have n0_ := Aside0.mk (Kd.R_below (by (with_reducible repeat (first | apply Kd.R_alloc | apply Kd.R_drewN | apply Kd.R_drew)); exact HO431.out) hb); have n1_ := Aside0.mk (below_step (by repeat (first | (with_reducible first | exact HB.out | apply below_alloc | apply pw_below_drewN | apply below_drew1) | exact HB.out)) hb); clear HO431; clear HB; have HO431 := n0_; have HB := n1_; clear n0_ n1_; (try clear hb); (try clear hb2); (try clear hk); (try clear hi)) | ((with_reducible refine gate_callee (f := 14) rfl ?_); refine goesL_ (some 48) rfl rfl Tryd.func14 (by kernel_rfl) rfl #[.string (((((t420 ++ t421) ++ t422) ++ t423) ++ t424) ++ t432)] rfl (by (try simp only [List.map_toArray, List.map_cons, List.map_nil]); first | done | rfl | (simp only [List.length_drop, List.length_take]; rfl)) ?_; (with_reducible refine (parse_Get.calls (((((t420 ++ t421) ++ t422) ++ t423) ++ t424) ++ t432) t433 t434 _ A29.out).mono ?_); rintro e w38 ⟨v435, rfl, ho0, hb⟩; refine ⟨_, rfl, ?_⟩; have n0_ := Aside0.mk (Kd.R_elder' (by (with_reducible repeat (first | apply Kd.R_alloc | apply Kd.R_drewN | apply Kd.R_drew)); exact HO431.out) (Kd.R_base ho0) hb); have n1_ := Aside0.mk (Kd.R_lower (Kd.R_new' ho0 (Kd.R_lt (by (with_reducible repeat (first | apply Kd.R_alloc | apply Kd.R_drewN | apply Kd.R_drew)); exact HO431.out))) (below_size (by repeat (first | (with_reducible first | exact HB.out | apply below_alloc | apply pw_below_drewN | apply below_drew1) | exact HB.out)))); have n2_ := Aside0.mk (below_step (by repeat (first | (with_reducible first | exact HB.out | apply below_alloc | apply pw_below_drewN | apply below_drew1) | exact HB.out)) hb); clear HO431; clear HB; have HO431 := n0_; have HO436 := n1_; have HB := n2_; clear n0_ n1_ n2_; (try clear hb); (try clear hb2); (try clear hk); (try clear hi); (try clear ho0)) | ((with_reducible refine gate_callee (f := 17) rfl ?_); refine goesL_ (some 54) rfl rfl Tryd.func17 (by kernel_rfl) rfl #[.int .i64 t429] rfl (by (try simp only [List.map_toArray, List.map_cons, List.map_nil]); first | done | rfl | (simp only [List.length_drop, List.length_take]; rfl)) ?_; (with_reducible refine (shelfmarklaw1_Err.calls t429 t437 _ A31.out).mono ?_); rintro e w' ⟨rfl, ⟨nd, rfl⟩⟩; refine ⟨_, rfl, ?_⟩) | (go_at_call 17; (with_reducible refine (shelfmarklaw1_Err.calls t434 t438 _ A33.out).mono ?_); rintro e w' ⟨rfl, ⟨nd, rfl⟩⟩) | (go_at_call 13; (with_reducible refine (shelfmarklaw11_awake.calls k1  t439 _ A35.out).mono ?_); rintro e w39 ⟨rfl, hb⟩; have n0_ := Aside0.mk (Kd.R_below (by (with_reducible repeat (first | apply Kd.R_alloc | apply Kd.R_drewN | apply Kd.R_drew)); exact HO431.out) hb); have n1_ := Aside0.mk (Kd.R_below (by (with_reducible repeat (first | apply Kd.R_alloc | apply Kd.R_drewN | apply Kd.R_drew)); exact HO436.out) hb); have n2_ := Aside0.mk (below_step (by repeat (first | (with_reducible first | exact HB.out | apply below_alloc | apply pw_below_drewN | apply below_drew1) | exact HB.out)) hb); clear HO431; clear HO436; clear HB; have HO431 := n0_; have HO436 := n1_; have HB := n2_; clear n0_ n1_ n2_; (try clear hb); (try clear hb2); (try clear hk); (try clear hi)))
                          go_ret
                          exact ⟨by first | rfl | (simp [errW_none, errW_some] <;> rfl) | (simp [*, errW_none, errW_some] <;> rfl), by repeat (first | (with_reducible first | exact HB.out | apply below_alloc | apply pw_below_drewN | apply below_drew1) | exact HB.out)⟩
                        · rw [if_neg c34] at H
                          have c34b0 : (t438 == 5) = false := beq_eq_false_iff_ne.mpr c34
                          have c34b1 : (t438 != 5) = true := bne_iff_ne.mpr c34
                          obtain rfl := Option.some.inj H
                          go_wp2_with (first | ((with_reducible refine gate_callee (f := 14) rfl ?_); refine goesL_ (some 39) rfl rfl Tryd.func14 (by kernel_rfl) rfl #[.string (((((t420 ++ t421) ++ t422) ++ t423) ++ t424) ++ x6_1)] rfl (by (try simp only [List.map_toArray, List.map_cons, List.map_nil]); first | done | rfl | (simp only [List.length_drop, List.length_take]; rfl)) ?_; (with_reducible refine (parse_Get.calls (((((t420 ++ t421) ++ t422) ++ t423) ++ t424) ++ x6_1) t428 t429 _ A26.out).mono ?_); rintro e w40 ⟨v430, rfl, ho0, hb⟩; refine ⟨_, rfl, ?_⟩; have n0_ := Aside0.mk (Kd.R_lower ho0 (below_size (by repeat (first | (with_reducible first | exact HB.out | apply below_alloc | apply pw_below_drewN | apply below_drew1) | exact HB.out)))); have n1_ := Aside0.mk (below_step (by repeat (first | (with_reducible first | exact HB.out | apply below_alloc | apply pw_below_drewN | apply below_drew1) | exact HB.out)) hb); clear HB; have HO431 := n0_; have HB := n1_; clear n0_ n1_; (try clear hb); (try clear hb2); (try clear hk); (try clear hi); (try clear ho0)) | ((with_reducible refine gate_callee (f := 22) rfl ?_); refine goesL_ (some 46) rfl rfl Tryd.func22 (by kernel_rfl) rfl #[.int .i64 (wrap64 (a1))] rfl (by (try simp only [List.map_toArray, List.map_cons, List.map_nil]); first | done | rfl | (simp only [List.length_drop, List.length_take]; rfl)) ?_; (with_reducible refine (shelfmarkref10_Word.calls k1 (wrap64 (a1)) t432 _ A27.out).mono ?_); rintro e w41 ⟨rfl, hb⟩; refine ⟨_, rfl, ?_⟩; have n0_ := Aside0.mk (Kd.R_below (by (with_reducible repeat (first | apply Kd.R_alloc | apply Kd.R_drewN | apply Kd.R_drew)); exact HO431.out) hb); have n1_ := Aside0.mk (below_step (by repeat (first | (with_reducible first | exact HB.out | apply below_alloc | apply pw_below_drewN | apply below_drew1) | exact HB.out)) hb); clear HO431; clear HB; have HO431 := n0_; have HB := n1_; clear n0_ n1_; (try clear hb); (try clear hb2); (try clear hk); (try clear hi)) | ((with_reducible refine gate_callee (f := 14) rfl ?_); refine goesL_ (some 48) rfl rfl Tryd.func14 (by kernel_rfl) rfl #[.string (((((t420 ++ t421) ++ t422) ++ t423) ++ t424) ++ t432)] rfl (by (try simp only [List.map_toArray, List.map_cons, List.map_nil]); first | done | rfl | (simp only [List.length_drop, List.length_take]; rfl)) ?_; (with_reducible refine (parse_Get.calls (((((t420 ++ t421) ++ t422) ++ t423) ++ t424) ++ t432) t433 t434 _ A29.out).mono ?_); rintro e w42 ⟨v435, rfl, ho0, hb⟩; refine ⟨_, rfl, ?_⟩; have n0_ := Aside0.mk (Kd.R_elder' (by (with_reducible repeat (first | apply Kd.R_alloc | apply Kd.R_drewN | apply Kd.R_drew)); exact HO431.out) (Kd.R_base ho0) hb); have n1_ := Aside0.mk (Kd.R_lower (Kd.R_new' ho0 (Kd.R_lt (by (with_reducible repeat (first | apply Kd.R_alloc | apply Kd.R_drewN | apply Kd.R_drew)); exact HO431.out))) (below_size (by repeat (first | (with_reducible first | exact HB.out | apply below_alloc | apply pw_below_drewN | apply below_drew1) | exact HB.out)))); have n2_ := Aside0.mk (below_step (by repeat (first | (with_reducible first | exact HB.out | apply below_alloc | apply pw_below_drewN | apply below_drew1) | exact HB.out)) hb); clear HO431; clear HB; have HO431 := n0_; have HO436 := n1_; have HB := n2_; clear n0_ n1_ n2_; (try clear hb); (try clear hb2); (try clear hk); (try clear hi); (try clear ho0)) | ((with_reducible refine gate_callee (f := 17) rfl ?_); refine goesL_ (some 54) rfl rfl Tryd.func17 (by kernel_rfl) rfl #[.int .i64 t429] rfl (by (try simp only [List.map_toArray, List.map_cons, List.map_nil]); first | done | rfl | (simp only [List.length_drop, List.length_take]; rfl)) ?_; (with_reducible refine (shelfmarklaw1_Err.calls t429 t437 _ A31.out).mono ?_); rintro e w' ⟨rfl, ⟨nd, rfl⟩⟩; refine ⟨_, rfl, ?_⟩) | (go_at_call 17; (with_reducible refine (shelfmarklaw1_Err.calls t434 t438 _ A33.out).mono ?_); rintro e w' ⟨rfl, ⟨nd, rfl⟩⟩))
                          go_ret
                          exact ⟨by first | rfl | (simp [errW_none, errW_some] <;> rfl) | (simp [*, errW_none, errW_some] <;> rfl), by repeat (first | (with_reducible first | exact HB.out | apply below_alloc | apply pw_below_drewN | apply below_drew1) | exact HB.out)⟩
                      · rw [if_neg c32] at H
                        have c32b0 : (t437 == 5) = false := beq_eq_false_iff_ne.mpr c32
                        have c32b1 : (t437 != 5) = true := bne_iff_ne.mpr c32
                        obtain rfl := Option.some.inj H
                        go_wp2_with (first | ((with_reducible refine gate_callee (f := 14) rfl ?_); refine goesL_ (some 39) rfl rfl Tryd.func14 (by kernel_rfl) rfl #[.string (((((t420 ++ t421) ++ t422) ++ t423) ++ t424) ++ x6_1)] rfl (by (try simp only [List.map_toArray, List.map_cons, List.map_nil]); first | done | rfl | (simp only [List.length_drop, List.length_take]; rfl)) ?_; (with_reducible refine (parse_Get.calls (((((t420 ++ t421) ++ t422) ++ t423) ++ t424) ++ x6_1) t428 t429 _ A26.out).mono ?_); rintro e w43 ⟨v430, rfl, ho0, hb⟩; refine ⟨_, rfl, ?_⟩; have n0_ := Aside0.mk (Kd.R_lower ho0 (below_size (by repeat (first | (with_reducible first | exact HB.out | apply below_alloc | apply pw_below_drewN | apply below_drew1) | exact HB.out)))); have n1_ := Aside0.mk (below_step (by repeat (first | (with_reducible first | exact HB.out | apply below_alloc | apply pw_below_drewN | apply below_drew1) | exact HB.out)) hb); clear HB; have HO431 := n0_; have HB := n1_; clear n0_ n1_; (try clear hb); (try clear hb2); (try clear hk); (try clear hi); (try clear ho0)) | ((with_reducible refine gate_callee (f := 22) rfl ?_); refine goesL_ (some 46) rfl rfl Tryd.func22 (by kernel_rfl) rfl #[.int .i64 (wrap64 (a1))] rfl (by (try simp only [List.map_toArray, List.map_cons, List.map_nil]); first | done | rfl | (simp only [List.length_drop, List.length_take]; rfl)) ?_; (with_reducible refine (shelfmarkref10_Word.calls k1 (wrap64 (a1)) t432 _ A27.out).mono ?_); rintro e w44 ⟨rfl, hb⟩; refine ⟨_, rfl, ?_⟩; have n0_ := Aside0.mk (Kd.R_below (by (with_reducible repeat (first | apply Kd.R_alloc | apply Kd.R_drewN | apply Kd.R_drew)); exact HO431.out) hb); have n1_ := Aside0.mk (below_step (by repeat (first | (with_reducible first | exact HB.out | apply below_alloc | apply pw_below_drewN | apply below_drew1) | exact HB.out)) hb); clear HO431; clear HB; have HO431 := n0_; have HB := n1_; clear n0_ n1_; (try clear hb); (try clear hb2); (try clear hk); (try clear hi)) | ((with_reducible refine gate_callee (f := 14) rfl ?_); refine goesL_ (some 48) rfl rfl Tryd.func14 (by kernel_rfl) rfl #[.string (((((t420 ++ t421) ++ t422) ++ t423) ++ t424) ++ t432)] rfl (by (try simp only [List.map_toArray, List.map_cons, List.map_nil]); first | done | rfl | (simp only [List.length_drop, List.length_take]; rfl)) ?_; (with_reducible refine (parse_Get.calls (((((t420 ++ t421) ++ t422) ++ t423) ++ t424) ++ t432) t433 t434 _ A29.out).mono ?_); rintro e w45 ⟨v435, rfl, ho0, hb⟩; refine ⟨_, rfl, ?_⟩; have n0_ := Aside0.mk (Kd.R_elder' (by (with_reducible repeat (first | apply Kd.R_alloc | apply Kd.R_drewN | apply Kd.R_drew)); exact HO431.out) (Kd.R_base ho0) hb); have n1_ := Aside0.mk (Kd.R_lower (Kd.R_new' ho0 (Kd.R_lt (by (with_reducible repeat (first | apply Kd.R_alloc | apply Kd.R_drewN | apply Kd.R_drew)); exact HO431.out))) (below_size (by repeat (first | (with_reducible first | exact HB.out | apply below_alloc | apply pw_below_drewN | apply below_drew1) | exact HB.out)))); have n2_ := Aside0.mk (below_step (by repeat (first | (with_reducible first | exact HB.out | apply below_alloc | apply pw_below_drewN | apply below_drew1) | exact HB.out)) hb); clear HO431; clear HB; have HO431 := n0_; have HO436 := n1_; have HB := n2_; clear n0_ n1_ n2_; (try clear hb); (try clear hb2); (try clear hk); (try clear hi); (try clear ho0)) | ((with_reducible refine gate_callee (f := 17) rfl ?_); refine goesL_ (some 54) rfl rfl Tryd.func17 (by kernel_rfl) rfl #[.int .i64 t429] rfl (by (try simp only [List.map_toArray, List.map_cons, List.map_nil]); first | done | rfl | (simp only [List.length_drop, List.length_take]; rfl)) ?_; (with_reducible refine (shelfmarklaw1_Err.calls t429 t437 _ A31.out).mono ?_); rintro e w' ⟨rfl, ⟨nd, rfl⟩⟩; refine ⟨_, rfl, ?_⟩))
                        go_ret
                        exact ⟨by first | rfl | (simp [errW_none, errW_some] <;> rfl) | (simp [*, errW_none, errW_some] <;> rfl), by repeat (first | (with_reducible first | exact HB.out | apply below_alloc | apply pw_below_drewN | apply below_drew1) | exact HB.out)⟩
                    · rw [if_neg c30] at H
                      have c30b0 : decide (a0 ≤ 65536) = false := decide_eq_false c30
                      clear c30
                      replace H := Option.bind_eq_some_iff.mp H
                      obtain ⟨t440, A460, H⟩ := H
                      replace H : (if t440 = 4 then ((shelfmarklaw1_Err.f t434).bind fun t441 => (if t441 = 5 then ((shelfmarklaw11_awake.f k1).bind fun t442 => (some t442)) else (some false))) else (some false)) = some r := H
                      have A46 := Aside0.mk A460
                      clear A460
                      by_cases c47 : t440 = 4
                      · rw [if_pos c47] at H
                        have c47b0 : (t440 == 4) = true := beq_iff_eq.mpr c47
                        have c47b1 : (t440 != 4) = false := bne_eq_false_iff_eq.mpr c47
                        clear c47
                        replace H := Option.bind_eq_some_iff.mp H
                        obtain ⟨t441, A480, H⟩ := H
                        replace H : (if t441 = 5 then ((shelfmarklaw11_awake.f k1).bind fun t442 => (some t442)) else (some false)) = some r := H
                        have A48 := Aside0.mk A480
                        clear A480
                        by_cases c49 : t441 = 5
                        · rw [if_pos c49] at H
                          have c49b0 : (t441 == 5) = true := beq_iff_eq.mpr c49
                          have c49b1 : (t441 != 5) = false := bne_eq_false_iff_eq.mpr c49
                          clear c49
                          replace H := Option.bind_eq_some_iff.mp H
                          obtain ⟨t442, A500, H⟩ := H
                          replace H : (some t442) = some r := H
                          have A50 := Aside0.mk A500
                          clear A500
                          obtain rfl := Option.some.inj H
                          go_wp2_with (first | ((with_reducible refine gate_callee (f := 14) rfl ?_); refine goesL_ (some 39) rfl rfl Tryd.func14 (by kernel_rfl) rfl #[.string (((((t420 ++ t421) ++ t422) ++ t423) ++ t424) ++ x6_1)] rfl (by (try simp only [List.map_toArray, List.map_cons, List.map_nil]); first | done | rfl | (simp only [List.length_drop, List.length_take]; rfl)) ?_; (with_reducible refine (parse_Get.calls (((((t420 ++ t421) ++ t422) ++ t423) ++ t424) ++ x6_1) t428 t429 _ A26.out).mono ?_); rintro e w51 ⟨v430, rfl, ho0, hb⟩; refine ⟨_, rfl, ?_⟩; have n0_ := Aside0.mk (Kd.R_lower ho0 (below_size (by repeat (first | (with_reducible first | exact HB.out | apply below_alloc | apply pw_below_drewN | apply below_drew1) | exact HB.out)))); have n1_ := Aside0.mk (below_step (by repeat (first | (with_reducible first | exact HB.out | apply below_alloc | apply pw_below_drewN | apply below_drew1) | exact HB.out)) hb); clear HB; have HO431 := n0_; have HB := n1_; clear n0_ n1_; (try clear hb); (try clear hb2); (try clear hk); (try clear hi); (try clear ho0)) | ((with_reducible refine gate_callee (f := 22) rfl ?_); refine goesL_ (some 46) rfl rfl Tryd.func22 (by kernel_rfl) rfl #[.int .i64 (wrap64 (a1))] rfl (by (try simp only [List.map_toArray, List.map_cons, List.map_nil]); first | done | rfl | (simp only [List.length_drop, List.length_take]; rfl)) ?_; (with_reducible refine (shelfmarkref10_Word.calls k1 (wrap64 (a1)) t432 _ A27.out).mono ?_); rintro e w52 ⟨rfl, hb⟩; refine ⟨_, rfl, ?_⟩; have n0_ := Aside0.mk (Kd.R_below (by (with_reducible repeat (first | apply Kd.R_alloc | apply Kd.R_drewN | apply Kd.R_drew)); exact HO431.out) hb); have n1_ := Aside0.mk (below_step (by repeat (first | (with_reducible first | exact HB.out | apply below_alloc | apply pw_below_drewN | apply below_drew1) | exact HB.out)) hb); clear HO431; clear HB; have HO431 := n0_; have HB := n1_; clear n0_ n1_; (try clear hb); (try clear hb2); (try clear hk); (try clear hi)) | ((with_reducible refine gate_callee (f := 14) rfl ?_); refine goesL_ (some 48) rfl rfl Tryd.func14 (by kernel_rfl) rfl #[.string (((((t420 ++ t421) ++ t422) ++ t423) ++ t424) ++ t432)] rfl (by (try simp only [List.map_toArray, List.map_cons, List.map_nil]); first | done | rfl | (simp only [List.length_drop, List.length_take]; rfl)) ?_; (with_reducible refine (parse_Get.calls (((((t420 ++ t421) ++ t422) ++ t423) ++ t424) ++ t432) t433 t434 _ A29.out).mono ?_); rintro e w53 ⟨v435, rfl, ho0, hb⟩; refine ⟨_, rfl, ?_⟩; have n0_ := Aside0.mk (Kd.R_elder' (by (with_reducible repeat (first | apply Kd.R_alloc | apply Kd.R_drewN | apply Kd.R_drew)); exact HO431.out) (Kd.R_base ho0) hb); have n1_ := Aside0.mk (Kd.R_lower (Kd.R_new' ho0 (Kd.R_lt (by (with_reducible repeat (first | apply Kd.R_alloc | apply Kd.R_drewN | apply Kd.R_drew)); exact HO431.out))) (below_size (by repeat (first | (with_reducible first | exact HB.out | apply below_alloc | apply pw_below_drewN | apply below_drew1) | exact HB.out)))); have n2_ := Aside0.mk (below_step (by repeat (first | (with_reducible first | exact HB.out | apply below_alloc | apply pw_below_drewN | apply below_drew1) | exact HB.out)) hb); clear HO431; clear HB; have HO431 := n0_; have HO436 := n1_; have HB := n2_; clear n0_ n1_ n2_; (try clear hb); (try clear hb2); (try clear hk); (try clear hi); (try clear ho0)) | ((with_reducible refine gate_callee (f := 17) rfl ?_); refine goesL_ (some 54) rfl rfl Tryd.func17 (by kernel_rfl) rfl #[.int .i64 t429] rfl (by (try simp only [List.map_toArray, List.map_cons, List.map_nil]); first | done | rfl | (simp only [List.length_drop, List.length_take]; rfl)) ?_; (with_reducible refine (shelfmarklaw1_Err.calls t429 t440 _ A46.out).mono ?_); rintro e w' ⟨rfl, ⟨nd, rfl⟩⟩; refine ⟨_, rfl, ?_⟩) | (go_at_call 17; (with_reducible refine (shelfmarklaw1_Err.calls t434 t441 _ A48.out).mono ?_); rintro e w' ⟨rfl, ⟨nd, rfl⟩⟩) | (go_at_call 13; (with_reducible refine (shelfmarklaw11_awake.calls k1  t442 _ A50.out).mono ?_); rintro e w54 ⟨rfl, hb⟩; have n0_ := Aside0.mk (Kd.R_below (by (with_reducible repeat (first | apply Kd.R_alloc | apply Kd.R_drewN | apply Kd.R_drew)); exact HO431.out) hb); have n1_ := Aside0.mk (Kd.R_below (by (with_reducible repeat (first | apply Kd.R_alloc | apply Kd.R_drewN | apply Kd.R_drew)); exact HO436.out) hb); have n2_ := Aside0.mk (below_step (by repeat (first | (with_reducible first | exact HB.out | apply below_alloc | apply pw_below_drewN | apply below_drew1) | exact HB.out)) hb); clear HO431; clear HO436; clear HB; have HO431 := n0_; have HO436 := n1_; have HB := n2_; clear n0_ n1_ n2_; (try clear hb); (try clear hb2); (try clear hk); (try clear hi)))
                          go_ret
                          exact ⟨by first | rfl | (simp [errW_none, errW_some] <;> rfl) | (simp [*, errW_none, errW_some] <;> rfl), by repeat (first | (with_reducible first | exact HB.out | apply below_alloc | apply pw_below_drewN | apply below_drew1) | exact HB.out)⟩
                        · rw [if_neg c49] at H
                          have c49b0 : (t441 == 5) = false := beq_eq_false_iff_ne.mpr c49
                          have c49b1 : (t441 != 5) = true := bne_iff_ne.mpr c49
                          obtain rfl := Option.some.inj H
                          go_wp2_with (first | ((with_reducible refine gate_callee (f := 14) rfl ?_); refine goesL_ (some 39) rfl rfl Tryd.func14 (by kernel_rfl) rfl #[.string (((((t420 ++ t421) ++ t422) ++ t423) ++ t424) ++ x6_1)] rfl (by (try simp only [List.map_toArray, List.map_cons, List.map_nil]); first | done | rfl | (simp only [List.length_drop, List.length_take]; rfl)) ?_; (with_reducible refine (parse_Get.calls (((((t420 ++ t421) ++ t422) ++ t423) ++ t424) ++ x6_1) t428 t429 _ A26.out).mono ?_); rintro e w55 ⟨v430, rfl, ho0, hb⟩; refine ⟨_, rfl, ?_⟩; have n0_ := Aside0.mk (Kd.R_lower ho0 (below_size (by repeat (first | (with_reducible first | exact HB.out | apply below_alloc | apply pw_below_drewN | apply below_drew1) | exact HB.out)))); have n1_ := Aside0.mk (below_step (by repeat (first | (with_reducible first | exact HB.out | apply below_alloc | apply pw_below_drewN | apply below_drew1) | exact HB.out)) hb); clear HB; have HO431 := n0_; have HB := n1_; clear n0_ n1_; (try clear hb); (try clear hb2); (try clear hk); (try clear hi); (try clear ho0)) | ((with_reducible refine gate_callee (f := 22) rfl ?_); refine goesL_ (some 46) rfl rfl Tryd.func22 (by kernel_rfl) rfl #[.int .i64 (wrap64 (a1))] rfl (by (try simp only [List.map_toArray, List.map_cons, List.map_nil]); first | done | rfl | (simp only [List.length_drop, List.length_take]; rfl)) ?_; (with_reducible refine (shelfmarkref10_Word.calls k1 (wrap64 (a1)) t432 _ A27.out).mono ?_); rintro e w56 ⟨rfl, hb⟩; refine ⟨_, rfl, ?_⟩; have n0_ := Aside0.mk (Kd.R_below (by (with_reducible repeat (first | apply Kd.R_alloc | apply Kd.R_drewN | apply Kd.R_drew)); exact HO431.out) hb); have n1_ := Aside0.mk (below_step (by repeat (first | (with_reducible first | exact HB.out | apply below_alloc | apply pw_below_drewN | apply below_drew1) | exact HB.out)) hb); clear HO431; clear HB; have HO431 := n0_; have HB := n1_; clear n0_ n1_; (try clear hb); (try clear hb2); (try clear hk); (try clear hi)) | ((with_reducible refine gate_callee (f := 14) rfl ?_); refine goesL_ (some 48) rfl rfl Tryd.func14 (by kernel_rfl) rfl #[.string (((((t420 ++ t421) ++ t422) ++ t423) ++ t424) ++ t432)] rfl (by (try simp only [List.map_toArray, List.map_cons, List.map_nil]); first | done | rfl | (simp only [List.length_drop, List.length_take]; rfl)) ?_; (with_reducible refine (parse_Get.calls (((((t420 ++ t421) ++ t422) ++ t423) ++ t424) ++ t432) t433 t434 _ A29.out).mono ?_); rintro e w57 ⟨v435, rfl, ho0, hb⟩; refine ⟨_, rfl, ?_⟩; have n0_ := Aside0.mk (Kd.R_elder' (by (with_reducible repeat (first | apply Kd.R_alloc | apply Kd.R_drewN | apply Kd.R_drew)); exact HO431.out) (Kd.R_base ho0) hb); have n1_ := Aside0.mk (Kd.R_lower (Kd.R_new' ho0 (Kd.R_lt (by (with_reducible repeat (first | apply Kd.R_alloc | apply Kd.R_drewN | apply Kd.R_drew)); exact HO431.out))) (below_size (by repeat (first | (with_reducible first | exact HB.out | apply below_alloc | apply pw_below_drewN | apply below_drew1) | exact HB.out)))); have n2_ := Aside0.mk (below_step (by repeat (first | (with_reducible first | exact HB.out | apply below_alloc | apply pw_below_drewN | apply below_drew1) | exact HB.out)) hb); clear HO431; clear HB; have HO431 := n0_; have HO436 := n1_; have HB := n2_; clear n0_ n1_ n2_; (try clear hb); (try clear hb2); (try clear hk); (try clear hi); (try clear ho0)) | ((with_reducible refine gate_callee (f := 17) rfl ?_); refine goesL_ (some 54) rfl rfl Tryd.func17 (by kernel_rfl) rfl #[.int .i64 t429] rfl (by (try simp only [List.map_toArray, List.map_cons, List.map_nil]); first | done | rfl | (simp only [List.length_drop, List.length_take]; rfl)) ?_; (with_reducible refine (shelfmarklaw1_Err.calls t429 t440 _ A46.out).mono ?_); rintro e w' ⟨rfl, ⟨nd, rfl⟩⟩; refine ⟨_, rfl, ?_⟩) | (go_at_call 17; (with_reducible refine (shelfmarklaw1_Err.calls t434 t441 _ A48.out).mono ?_); rintro e w' ⟨rfl, ⟨nd, rfl⟩⟩))
                          go_ret
                          exact ⟨by first | rfl | (simp [errW_none, errW_some] <;> rfl) | (simp [*, errW_none, errW_some] <;> rfl), by repeat (first | (with_reducible first | exact HB.out | apply below_alloc | apply pw_below_drewN | apply below_drew1) | exact HB.out)⟩
                      · rw [if_neg c47] at H
                        have c47b0 : (t440 == 4) = false := beq_eq_false_iff_ne.mpr c47
                        have c47b1 : (t440 != 4) = true := bne_iff_ne.mpr c47
                        obtain rfl := Option.some.inj H
                        go_wp2_with (first | ((with_reducible refine gate_callee (f := 14) rfl ?_); refine goesL_ (some 39) rfl rfl Tryd.func14 (by kernel_rfl) rfl #[.string (((((t420 ++ t421) ++ t422) ++ t423) ++ t424) ++ x6_1)] rfl (by (try simp only [List.map_toArray, List.map_cons, List.map_nil]); first | done | rfl | (simp only [List.length_drop, List.length_take]; rfl)) ?_; (with_reducible refine (parse_Get.calls (((((t420 ++ t421) ++ t422) ++ t423) ++ t424) ++ x6_1) t428 t429 _ A26.out).mono ?_); rintro e w58 ⟨v430, rfl, ho0, hb⟩; refine ⟨_, rfl, ?_⟩; have n0_ := Aside0.mk (Kd.R_lower ho0 (below_size (by repeat (first | (with_reducible first | exact HB.out | apply below_alloc | apply pw_below_drewN | apply below_drew1) | exact HB.out)))); have n1_ := Aside0.mk (below_step (by repeat (first | (with_reducible first | exact HB.out | apply below_alloc | apply pw_below_drewN | apply below_drew1) | exact HB.out)) hb); clear HB; have HO431 := n0_; have HB := n1_; clear n0_ n1_; (try clear hb); (try clear hb2); (try clear hk); (try clear hi); (try clear ho0)) | ((with_reducible refine gate_callee (f := 22) rfl ?_); refine goesL_ (some 46) rfl rfl Tryd.func22 (by kernel_rfl) rfl #[.int .i64 (wrap64 (a1))] rfl (by (try simp only [List.map_toArray, List.map_cons, List.map_nil]); first | done | rfl | (simp only [List.length_drop, List.length_take]; rfl)) ?_; (with_reducible refine (shelfmarkref10_Word.calls k1 (wrap64 (a1)) t432 _ A27.out).mono ?_); rintro e w59 ⟨rfl, hb⟩; refine ⟨_, rfl, ?_⟩; have n0_ := Aside0.mk (Kd.R_below (by (with_reducible repeat (first | apply Kd.R_alloc | apply Kd.R_drewN | apply Kd.R_drew)); exact HO431.out) hb); have n1_ := Aside0.mk (below_step (by repeat (first | (with_reducible first | exact HB.out | apply below_alloc | apply pw_below_drewN | apply below_drew1) | exact HB.out)) hb); clear HO431; clear HB; have HO431 := n0_; have HB := n1_; clear n0_ n1_; (try clear hb); (try clear hb2); (try clear hk); (try clear hi)) | ((with_reducible refine gate_callee (f := 14) rfl ?_); refine goesL_ (some 48) rfl rfl Tryd.func14 (by kernel_rfl) rfl #[.string (((((t420 ++ t421) ++ t422) ++ t423) ++ t424) ++ t432)] rfl (by (try simp only [List.map_toArray, List.map_cons, List.map_nil]); first | done | rfl | (simp only [List.length_drop, List.length_take]; rfl)) ?_; (with_reducible refine (parse_Get.calls (((((t420 ++ t421) ++ t422) ++ t423) ++ t424) ++ t432) t433 t434 _ A29.out).mono ?_); rintro e w60 ⟨v435, rfl, ho0, hb⟩; refine ⟨_, rfl, ?_⟩; have n0_ := Aside0.mk (Kd.R_elder' (by (with_reducible repeat (first | apply Kd.R_alloc | apply Kd.R_drewN | apply Kd.R_drew)); exact HO431.out) (Kd.R_base ho0) hb); have n1_ := Aside0.mk (Kd.R_lower (Kd.R_new' ho0 (Kd.R_lt (by (with_reducible repeat (first | apply Kd.R_alloc | apply Kd.R_drewN | apply Kd.R_drew)); exact HO431.out))) (below_size (by repeat (first | (with_reducible first | exact HB.out | apply below_alloc | apply pw_below_drewN | apply below_drew1) | exact HB.out)))); have n2_ := Aside0.mk (below_step (by repeat (first | (with_reducible first | exact HB.out | apply below_alloc | apply pw_below_drewN | apply below_drew1) | exact HB.out)) hb); clear HO431; clear HB; have HO431 := n0_; have HO436 := n1_; have HB := n2_; clear n0_ n1_ n2_; (try clear hb); (try clear hb2); (try clear hk); (try clear hi); (try clear ho0)) | ((with_reducible refine gate_callee (f := 17) rfl ?_); refine goesL_ (some 54) rfl rfl Tryd.func17 (by kernel_rfl) rfl #[.int .i64 t429] rfl (by (try simp only [List.map_toArray, List.map_cons, List.map_nil]); first | done | rfl | (simp only [List.length_drop, List.length_take]; rfl)) ?_; (with_reducible refine (shelfmarklaw1_Err.calls t429 t440 _ A46.out).mono ?_); rintro e w' ⟨rfl, ⟨nd, rfl⟩⟩; refine ⟨_, rfl, ?_⟩))
                        go_ret
                        exact ⟨by first | rfl | (simp [errW_none, errW_some] <;> rfl) | (simp [*, errW_none, errW_some] <;> rfl), by repeat (first | (with_reducible first | exact HB.out | apply below_alloc | apply pw_below_drewN | apply below_drew1) | exact HB.out)⟩
                  · rw [if_neg c28] at H
                    exact absurd H (by simp)
                · rw [if_neg c25] at H
                  exact absurd H (by simp)
        · rw [if_neg c11] at H
          exact absurd H (by simp)
      · rw [if_neg c9] at H
        exact absurd H (by simp)
    · rw [if_neg c7] at H
      exact absurd H (by simp)
  · rw [if_neg c5] at H
    exact absurd H (by simp)
def shelfmarklaw11_ParseLong.Pure : Prop := ∀ (a0 : Int) (a1 : Int), (Lit.int .u64 a0).wf = true → (Lit.int .u16 a1).wf = true → ∃ k, shelfmarklaw11_ParseLong.f k a0 a1 = some true
theorem shelfmarklaw11_ParseLong.walk (P : shelfmarklaw11_ParseLong.Pure) (a0 : Int) (a1 : Int) (w : World) (w0 : (Lit.int .u64 a0).wf = true) (w1 : (Lit.int .u16 a1).wf = true) :
    Calls Tryd.prog 8 #[.int .u64 a0, .int .u16 a1] w fun e w' => e = .returned (.bool true) ∧ Below w.heap.size w w' := by
  obtain ⟨k, h⟩ := P a0 a1 w0 w1
  refine (shelfmarklaw11_ParseLong.calls k a0 a1 true w h).mono ?_
  rintro e w' ⟨rfl, hd⟩
  exact ⟨rfl, hd⟩
end Go.Proofs.YtncokgdfkbgflaaDoor.P

namespace Go.Proofs.YtncokgdfkbgflaaDoor.P
open Go.RowKit Go.Proofs.YtncokgdfkbgflaaDoorW.PrintWords Go.Proofs.YtncokgdfkbgflaaDoorW.PrintLast Go.Proofs.YtncokgdfkbgflaaDoorW.PrintMore
attribute [local go_sem] max2_int min2_int max_two min_two max_three min_three max_four min_four   -- for this text's walks alone
set_option linter.unusedVariables false
set_option linter.unusedSimpArgs false
theorem eqA68 (d : Nat) (w : World) (x0 y0 : ByteArray) (x1 y1 : Int) (x2 y2 : ByteArray) :
    (Op.equalIn (d + 2) 68 (.agg #[.string x0, .int .i64 x1, .string x2]) (.agg #[.string y0, .int .i64 y1, .string y2])).run Tryd.prog w = .ok (x0.toList == y0.toList && (x1 == y1 && (x2.toList == y2.toList))) w := by
  refine eqA_of Tryd.underlying68 (by kernel_rfl) ?_
  refine eqf_cons (by rfl) (by go_simp; rfl) (by go_simp; rfl) (by go_simp) ?_
  refine eqf_cons (by rfl) (by go_simp; rfl) (by go_simp; rfl) (by go_simp) ?_
  exact eqf_last (by rfl) (by go_simp; rfl) (by go_simp; rfl) (by go_simp)
end Go.Proofs.YtncokgdfkbgflaaDoor.P

namespace Go.Proofs.YtncokgdfkbgflaaDoor.P
open Go.RowKit Go.Proofs.YtncokgdfkbgflaaDoorW.PrintWords Go.Proofs.YtncokgdfkbgflaaDoorW.PrintLast Go.Proofs.YtncokgdfkbgflaaDoorW.PrintMore
attribute [local go_sem] max2_int min2_int max_two min_two max_three min_three max_four min_four   -- for this text's walks alone
set_option linter.unusedVariables false
set_option linter.unusedSimpArgs false
attribute [local go_sem high] eqA68
def shelfmarkref10_Same.l0 : Nat → List (S68) → List (S68) → Int → Option (Bool)
  | 0, _, _, _ => none
  | k + 1, x0, x1, x5 => if x5 < (x0.length : Int) then (if 0 ≤ x5 then (if x5 < (x1.length : Int) then (if (!((((rd_T68 x0 x5).f0).toList) == (((rd_T68 x1 x5).f0).toList)) || (!(((rd_T68 x0 x5).f1) == ((rd_T68 x1 x5).f1)) || (!((((rd_T68 x0 x5).f2).toList) == (((rd_T68 x1 x5).f2).toList))))) = true then (some false) else (shelfmarkref10_Same.l0 k x0 x1 (wrap64 (x5 + 1)))) else (none)) else (none)) else (some true)
def shelfmarkref10_Same.f (k : Nat) (l0 : List (S68)) (l1 : List (S68)) : Option (Bool) := if (l0.length : Int) = (l1.length : Int) then (shelfmarkref10_Same.l0 k l0 l1 0) else (some false)
end Go.Proofs.YtncokgdfkbgflaaDoor.P

namespace Go.Proofs.YtncokgdfkbgflaaDoor
set_option linter.unusedVariables false
set_option linter.unusedSimpArgs false
open Go.RowKit Go.Proofs.YtncokgdfkbgflaaDoorW.PrintWords Go.Proofs.YtncokgdfkbgflaaDoorW.PrintMore P
theorem extract_list (s : ByteArray) (i j : Nat) : (s.extract i j).data.toList = (s.data.toList.drop i).take (j - i) := by
  rw [ByteArray.data_extract, Array.toList_extract, List.extract_eq_take_drop]
theorem hasPrefix_false {l p : List UInt8} (h : ¬ ∃ t, l = p ++ t) : Lib.hasPrefix l p = false := by
  cases hp : Lib.hasPrefix l p with
  | false => rfl
  | true => exact absurd ((hasPrefix_iff _ _).1 hp) h
theorem name_f (a b : ByteArray) (ha : a.size < 4611686018427387904) (hb : b.size < 4611686018427387904) (k : Nat) (hk : a.size + 2 ≤ k) : ∃ r, shelfmarkref10_name.f k a b = some r ∧ r.data.toList = refName a.data.toList b.data.toList := by
  have hza := Lib.size_eq a
  have hzb := Lib.size_eq b
  obtain ⟨k, rfl⟩ : ∃ g, k = g + 1 := ⟨k - 1, by omega⟩
  unfold shelfmarkref10_name.f
  rw [toList_data b, toList_data]
  by_cases h0 : b.data.toList = []
  · rw [if_pos h0]
    have e47 : shelfmarkref10_has.f (k + 1) a 47 = some (a.data.toList.contains 47) := has_f a 47 ha (k + 1) (by omega)
    rw [e47]
    simp only [Option.bind_some]
    have e : refName a.data.toList b.data.toList = if a.data.toList.contains 47 = true then [] else a.data.toList := by
      rw [h0, refName, show headOf [] = [] from rfl, if_pos (show Lib.hasPrefix a.data.toList [] = true from (hasPrefix_iff _ _).2 ⟨a.data.toList, rfl⟩)]
      rfl
    rw [e]
    split
    · exact ⟨_, rfl, rfl⟩
    · exact ⟨_, rfl, rfl⟩
  · rw [if_neg h0]
    have hpos : 0 < b.data.toList.length := Nat.pos_of_ne_zero (fun e => h0 (List.length_eq_zero_iff.1 e))
    have j1 : shelfmarkref10_name.j0 (k + 1) a b true = some (⟨#[]⟩ : ByteArray) := by rw [shelfmarkref10_name.j0, if_pos rfl]
    have e0 : Lib.hasPrefix a.data.toList (headOf b.data.toList) = false → refName a.data.toList b.data.toList = [] := refName_stop
    have hh : headOf b.data.toList = b.data.toList ++ [47] := by rw [headOf, if_neg h0]
    by_cases h1 : a.data.toList.length ≤ b.data.toList.length
    · rw [if_pos (by omega), j1]
      refine ⟨_, rfl, ?_⟩
      rw [e0 (hasPrefix_false (by
        rintro ⟨t, ht⟩
        have := congrArg List.length ht
        rw [hh, List.length_append, List.length_append] at this
        simp only [List.length_cons, List.length_nil] at this
        omega))]
    · rw [if_neg (by omega), if_pos (by omega), if_pos (by omega), Int.toNat_natCast, extract_list]
      have hx : ((a.data.toList.drop 0).take (b.size - 0)) = a.data.toList.take b.data.toList.length := by rw [List.drop_zero, hzb]; rfl
      rw [hx]
      by_cases h2 : a.data.toList.take b.data.toList.length = b.data.toList
      · rw [if_pos h2, if_pos (by omega), show ((b.size : Nat) : Int) = ((b.data.toList.length : Nat) : Int) by omega, bt_is a _ (by omega)]
        have hlt : b.data.toList.length < a.data.toList.length := by omega
        have hs : a.data.toList = b.data.toList ++ (a.data.toList[b.data.toList.length] :: a.data.toList.drop (b.data.toList.length + 1)) := by
          rw [← List.drop_eq_getElem_cons hlt]
          conv => lhs; rw [← List.take_append_drop b.data.toList.length a.data.toList]
          rw [h2]
        by_cases h3 : a.data.toList[b.data.toList.length] = 47
        · have e4 : ((((a.data.toList[b.data.toList.length]).toNat : Nat) : Int) != 47) = false := by rw [h3]; rfl
          rw [e4, shelfmarkref10_name.j0, if_neg (by decide), show wrap64 ((b.size : Int) + 1) = ((b.data.toList.length + 1 : Nat) : Int) by unfold wrap64; omega, if_pos (by omega), if_pos (by omega), Int.toNat_natCast]
          have hxl : (a.extract (b.data.toList.length + 1) a.size).data.toList = a.data.toList.drop (b.data.toList.length + 1) := by
            rw [extract_list]
            exact List.take_of_length_le (by rw [List.length_drop]; omega)
          have hxs : (a.extract (b.data.toList.length + 1) a.size).size ≤ a.size := by
            rw [Lib.size_eq, hxl, List.length_drop]; omega
          have e47 : shelfmarkref10_has.f k (a.extract (b.data.toList.length + 1) a.size) 47 = some ((a.data.toList.drop (b.data.toList.length + 1)).contains 47) := by
            rw [← hxl]
            exact has_f _ 47 (by omega) k (by omega)
          rw [e47]
          simp only [Option.bind_some]
          have hex : ∃ t, a.data.toList = (b.data.toList ++ [47]) ++ t := ⟨a.data.toList.drop (b.data.toList.length + 1), by
            rw [List.append_assoc]
            rw [h3] at hs
            exact hs⟩
          have e : refName a.data.toList b.data.toList = if (a.data.toList.drop (b.data.toList.length + 1)).contains 47 = true then [] else a.data.toList.drop (b.data.toList.length + 1) := by
            rw [refName, hh, if_pos ((hasPrefix_iff _ _).2 hex)]
            rw [List.length_append]
            rfl
          rw [e]
          split
          · exact ⟨_, rfl, rfl⟩
          · exact ⟨_, rfl, hxl⟩
        · have e4 : ((((a.data.toList[b.data.toList.length]).toNat : Nat) : Int) != 47) = true := by
            rw [bne_iff_ne]
            intro e
            apply h3
            apply UInt8.toNat_inj.mp
            show _ = 47
            omega
          rw [e4, j1]
          refine ⟨_, rfl, ?_⟩
          rw [e0 (hasPrefix_false (by
            rintro ⟨t, ht⟩
            apply h3
            rw [hh, List.append_assoc] at ht
            have e5 := hs.symm.trans ht
            have e6 := List.append_cancel_left e5
            injection e6))]
      · rw [if_neg h2, j1]
        refine ⟨_, rfl, ?_⟩
        rw [e0 (hasPrefix_false (by
          rintro ⟨t, ht⟩
          apply h2
          rw [ht, hh, List.append_assoc]
          exact List.take_left' rfl))]
theorem nds_drop (l : List S68) (i : Nat) (h : i < l.length) : (nds l).drop i = nd l[i] :: (nds l).drop (i + 1) := by
  have h1 : i < (nds l).length := by simp [nds]; exact h
  rw [List.drop_eq_getElem_cons h1]
  congr 1
  simp [nds]
theorem nds_len (l : List S68) : (nds l).length = l.length := by simp [nds]
theorem under_next (l : List S68) (m next B k : Nat) (hn : next < l.length) (a1 : l.length - (next + 1) ≤ m) (a3 : 3 * m + B + 8 ≤ k) (hnx : rd_T68 l (next : Int) = l[next])
    (ih : l[next].f1 = 4 → ∃ j : Nat, shelfmarkref10_under.l0 k l (next : Int) ((next + 1 : Nat) : Int) (⟨#[]⟩ : ByteArray) = some (j : Int) ∧ next + 1 ≤ j ∧ j ≤ l.length ∧ ∀ f, l.length - (next + 1) < f → (nds l).drop j = takeDir f l[next].f0.data.toList [] ((nds l).drop (next + 1))) :
    ∃ j : Nat, shelfmarkref10_under.l0 k l (next : Int) ((next + 1 : Nat) : Int) (⟨#[]⟩ : ByteArray) = some (j : Int) ∧ next + 1 ≤ j ∧ j ≤ l.length ∧ ∀ f, l.length - (next + 1) < f → (nds l).drop j = if l[next].f1 = 4 then takeDir f l[next].f0.data.toList [] ((nds l).drop (next + 1)) else (nds l).drop (next + 1) := by
  by_cases h5 : l[next].f1 = 4
  · obtain ⟨j, a, b, c, d⟩ := ih h5
    exact ⟨j, a, b, c, fun f hf => by rw [if_pos h5]; exact d f hf⟩
  · refine ⟨next + 1, ?_, Nat.le_refl _, hn, fun f hf => by rw [if_neg h5]⟩
    obtain ⟨k, rfl⟩ : ∃ g, k = g + 2 := ⟨k - 2, by omega⟩
    have h6 : (l[next].f1 == 4) = false := beq_eq_false_iff_ne.2 h5
    by_cases h7 : next + 1 < l.length
    · rw [shelfmarkref10_under.l0, if_pos (by omega), if_pos (by omega), if_pos (by omega), hnx, h6, shelfmarkref10_under.j1, if_neg (by decide)]
    · rw [shelfmarkref10_under.l0, if_neg (by omega), shelfmarkref10_under.j1, if_neg (by decide)]
theorem under_rounds (l : List S68) (B : Nat) (hB : B < 1000000000) (hl : l.length < 1000000000) (hs : ∀ x ∈ l, x.f0.size ≤ B) : ∀ (m next at_ : Nat) (last : ByteArray) (k : Nat), l.length - next ≤ m → next ≤ l.length → (ha : at_ < l.length) → 3 * m + B + 8 ≤ k → l[at_].f1 = 4 →
    ∃ j : Nat, shelfmarkref10_under.l0 k l (at_ : Int) (next : Int) last = some (j : Int) ∧ next ≤ j ∧ j ≤ l.length ∧ ∀ f, l.length - next < f → (nds l).drop j = takeDir f l[at_].f0.data.toList last.data.toList ((nds l).drop next) := by
  intro m
  induction m with
  | zero =>
    intro next at_ last k h1 h2 ha hk h4
    obtain ⟨k, rfl⟩ : ∃ g, k = g + 2 := ⟨k - 2, by omega⟩
    refine ⟨next, ?_, Nat.le_refl _, h2, ?_⟩
    · rw [shelfmarkref10_under.l0, if_neg (by omega), shelfmarkref10_under.j1, if_neg (by decide)]
    · intro f hf
      obtain ⟨f, rfl⟩ : ∃ g, f = g + 1 := ⟨f - 1, by omega⟩
      rw [List.drop_eq_nil_of_le (by rw [nds_len]; omega), takeDir]
  | succ m ih =>
    intro next at_ last k h1 h2 ha hk h4
    by_cases hn : next < l.length
    · obtain ⟨k, rfl⟩ : ∃ g, k = g + 3 := ⟨k - 3, by omega⟩
      have hat : rd_T68 l (at_ : Int) = l[at_] := rd68_at l at_ ha
      have hnx : rd_T68 l (next : Int) = l[next] := rd68_at l next hn
      have hsn := hs l[next] (List.getElem_mem _)
      have hsa := hs l[at_] (List.getElem_mem _)
      obtain ⟨r, hr, hrl⟩ := name_f l[next].f0 l[at_].f0 (by omega) (by omega) (k + 1) (by omega)
      have hd := nds_drop l next hn
      have hkd : (nd l[next]).path = l[next].f0.data.toList := rfl
      have hkk : (nd l[next]).kind = l[next].f1 := rfl
      have hl0 : shelfmarkref10_under.l0 (k + 3) l (at_ : Int) (next : Int) last = (if r.toList = ([] : List UInt8) then (some (next : Int)) else (if (Op.bytesLess r.toList last.toList || r.toList == last.toList) = true then (some (next : Int)) else ((shelfmarkref10_under.f (k + 1) l (next : Int)).bind fun t213 => (shelfmarkref10_under.l0 (k + 1) l (at_ : Int) t213 r)))) := by
        rw [shelfmarkref10_under.l0, if_pos (by omega), if_pos (by omega), if_pos (by omega), hat, h4, shelfmarkref10_under.j1, if_pos (by rfl), if_pos (by omega), if_pos (by omega), if_pos (by omega), if_pos (by omega), hat, hnx, hr]
        rfl
      rw [hl0, toList_data, toList_data, hrl]
      by_cases hstop : refName l[next].f0.data.toList l[at_].f0.data.toList = [] ∨ (Op.bytesLess (refName l[next].f0.data.toList l[at_].f0.data.toList) last.data.toList || refName l[next].f0.data.toList l[at_].f0.data.toList == last.data.toList) = true
      · refine ⟨next, ?_, Nat.le_refl _, h2, ?_⟩
        · rcases hstop with h | h
          · rw [if_pos h]
          · rw [if_pos h]; split <;> rfl
        · intro f hf
          obtain ⟨f, rfl⟩ : ∃ g, f = g + 1 := ⟨f - 1, by omega⟩
          rw [hd, takeDir, hkd, if_pos hstop]
      · rw [if_neg (fun h => hstop (.inl h)), if_neg (fun h => hstop (.inr h))]
        have HS := Aside0.mk hstop
        have HL := Aside0.mk hl0
        clear hstop hl0
        have a0 : next < 4611686018427387904 := by omega
        have a1 : l.length - (next + 1) ≤ m := by omega
        have a3 : 3 * m + B + 8 ≤ k := by omega
        have a4 : 3 * m + B + 8 ≤ k + 1 := by omega
        rw [shelfmarkref10_under.f, wrap_up next a0]
        obtain ⟨j, hj, hj1, hj2, hj3⟩ := under_next l m next B k hn a1 a3 hnx (fun h5 => ih (next + 1) next (⟨#[]⟩ : ByteArray) k a1 hn hn a3 h5)
        rw [hj]
        simp only [Option.bind_some]
        obtain ⟨i, hi, hi1, hi2, hi3⟩ := ih j at_ r (k + 1) (Nat.le_trans (Nat.sub_le_sub_left hj1 _) a1) hj2 ha a4 h4
        refine ⟨i, hi, Nat.le_trans (Nat.le_of_succ_le hj1) hi1, hi2, ?_⟩
        intro f hf
        obtain ⟨f, rfl⟩ : ∃ g, f = g + 1 := ⟨f - 1, by omega⟩
        have b1 : l.length - (next + 1) < f := by omega
        rw [hi3 f (Nat.lt_of_le_of_lt (Nat.sub_le_sub_left hj1 _) b1), hd, takeDir, hkd, hkk, if_neg HS.out, hrl, hj3 f b1]
    · obtain ⟨k, rfl⟩ : ∃ g, k = g + 2 := ⟨k - 2, by omega⟩
      refine ⟨next, ?_, Nat.le_refl _, h2, ?_⟩
      · rw [shelfmarkref10_under.l0, if_neg (by omega), shelfmarkref10_under.j1, if_neg (by decide)]
      · intro f hf
        obtain ⟨f, rfl⟩ : ∃ g, f = g + 1 := ⟨f - 1, by omega⟩
        rw [List.drop_eq_nil_of_le (by rw [nds_len]; omega), takeDir]
theorem under_f (l : List S68) (B : Nat) (hB : B < 1000000000) (hl : l.length < 1000000000) (hs : ∀ x ∈ l, x.f0.size ≤ B) (h0 : 0 < l.length) (k : Nat) (hk : 3 * l.length + B + 9 ≤ k) :
    ∃ j : Nat, shelfmarkref10_under.f k l 0 = some (j : Int) ∧ j ≤ l.length ∧ (nds l).drop j = if l[0].f1 = 4 then takeDir l.length l[0].f0.data.toList [] ((nds l).drop 1) else (nds l).drop 1 := by
  obtain ⟨k, rfl⟩ : ∃ g, k = g + 3 := ⟨k - 3, by omega⟩
  have hat : rd_T68 l 0 = l[0] := rd68_at l 0 h0
  rw [shelfmarkref10_under.f, show wrap64 (0 + 1) = ((1 : Nat) : Int) by unfold wrap64; decide]
  by_cases h5 : l[0].f1 = 4
  · obtain ⟨j, a, b, c, d⟩ := under_rounds l B hB hl hs l.length 1 0 (⟨#[]⟩ : ByteArray) (k + 2) (by omega) (by omega) h0 (by omega) h5
    exact ⟨j, a, c, by rw [if_pos h5]; exact d l.length (by omega)⟩
  · refine ⟨1, ?_, h0, by rw [if_neg h5]⟩
    have h6 : (l[0].f1 == 4) = false := beq_eq_false_iff_ne.2 h5
    by_cases h7 : 1 < l.length
    · rw [shelfmarkref10_under.l0, if_pos (by omega), if_pos (by decide), if_pos (by omega), hat, h6, shelfmarkref10_under.j1, if_neg (by decide)]
    · rw [shelfmarkref10_under.l0, if_neg (by omega), shelfmarkref10_under.j1, if_neg (by decide)]
theorem refMay_rounds (l : List S68) (B : Nat) (hB : B < 1000000000) (hl : l.length < 1000000000) (hs : ∀ x ∈ l, x.f0.size ≤ B) (h0 : 0 < l.length) : ∀ (m i k : Nat), l.length - i ≤ m → i ≤ l.length → m + 3 * l.length + B + 6000 ≤ k →
    shelfmarkref10_May.l0 k l (i : Int) = some (((nds l).drop i).all refNode && (if l[0].f1 = 4 then (takeDir l.length l[0].f0.data.toList [] ((nds l).drop 1)).isEmpty else ((nds l).drop 1).isEmpty)) := by
  intro m
  induction m with
  | zero =>
    intro i k h1 h2 hk
    obtain ⟨k, rfl⟩ : ∃ g, k = g + 1 := ⟨k - 1, by omega⟩
    rw [shelfmarkref10_May.l0, if_neg (by omega), List.drop_eq_nil_of_le (by rw [nds_len]; omega), List.all_nil, Bool.true_and]
    obtain ⟨j, hj, hj1, hj2⟩ := under_f l B hB hl hs h0 k (by omega)
    rw [hj]
    simp only [Option.bind_some]
    congr 1
    have e : (((j : Int) == (l.length : Int)) : Bool) = ((nds l).drop j).isEmpty := by
      rw [Bool.eq_iff_iff, beq_iff_eq, List.isEmpty_iff, List.drop_eq_nil_iff, nds_len]; omega
    rw [e, hj2]
    split <;> rfl
  | succ m ih =>
    intro i k h1 h2 hk
    by_cases hi : i < l.length
    · obtain ⟨k, rfl⟩ : ∃ g, k = g + 1 := ⟨k - 1, by omega⟩
      have hx : rd_T68 l (i : Int) = l[i] := rd68_at l i hi
      have hsi := hs l[i] (List.getElem_mem _)
      obtain ⟨a, nm, hc, hcl⟩ := cut_f l[i].f0 (by omega) k (by omega)
      have hnmsz : nm.size ≤ l[i].f0.size := by
        rw [Lib.size_eq, hcl, Lib.size_eq]
        cases h : cutSlash l[i].f0.data.toList with
        | none => exact Nat.le_refl _
        | some y =>
          have := cutSlash_is _ y.1 y.2 h
          simp only
          rw [this]; simp; omega
      have e1 : shelfmarkref10_MayName.f k nm = some (mayName nm.data.toList) := refMayName_f nm k (by omega)
      have e2 := deep_f l[i].f0 (by omega) k (by omega)
      have e3 := mayData_f l[i] k (by omega)
      rw [shelfmarkref10_May.l0, if_pos (by omega), if_pos (by omega), hx, hc]
      simp only [Option.bind_some]
      rw [e1]
      simp only [Option.bind_some]
      rw [nds_drop l i hi, List.all_cons]
      have er : refNode (nd l[i]) = (okNd (nd l[i]) && (decide (slashes l[i].f0.data.toList < 64) && mayName nm.data.toList)) := by
        unfold refNode; rw [hcl]; rfl
      rw [er]
      by_cases h3 : mayName nm.data.toList = true
      · rw [if_pos h3, e2, h3]
        simp only [Option.bind_some]
        by_cases h4 : slashes l[i].f0.data.toList < 64
        · rw [if_neg (by omega), e3, decide_eq_true h4]
          simp only [Option.bind_some]
          by_cases h5 : okNd (nd l[i]) = true
          · rw [if_pos h5, h5, wrap_up i (by omega), ih (i + 1) k (by omega) (by omega) (by omega)]
            rfl
          · rw [if_neg h5, Bool.eq_false_iff.2 h5]; rfl
        · rw [if_pos (by omega), decide_eq_false h4]; simp
      · rw [if_neg h3, Bool.eq_false_iff.2 h3]; simp
    · exact ih i k (by omega) h2 (by omega)
theorem refMay_f (l : List S68) (hs : ∀ x ∈ l, x.f0.size ≤ 1048576) (k : Nat) (hk : 1100000 ≤ k) : shelfmarkref10_May.f k l = some (May (nds l)) := by
  rw [← refMay_is]
  obtain ⟨k, rfl⟩ : ∃ g, k = g + 1 := ⟨k - 1, by omega⟩
  unfold shelfmarkref10_May.f
  by_cases h0 : 0 < l.length
  · have hat : rd_T68 l 0 = l[0] := rd68_at l 0 h0
    have hc : nds l = nd l[0] :: (nds l).drop 1 := by
      have := nds_drop l 0 h0
      rw [List.drop_zero] at this
      exact this
    have hL := nds_len l
    have j1 : shelfmarkref10_May.j0 (k + 1) l true = some false := by rw [shelfmarkref10_May.j0, if_pos rfl]
    rw [if_neg (by omega)]
    have er : refMay (nds l) = (decide (l.length ≤ 256) && ((nd l[0]).path == [] && (okNd (nd l[0]) && (((nds l).drop 1).all refNode && (if (nd l[0]).kind = 4 then (takeDir l.length [] [] ((nds l).drop 1)).isEmpty else ((nds l).drop 1).isEmpty))))) := by
      conv => lhs; rw [hc]
      rw [refMay_cons, ← hc, hL]
      have e9 : ((nds l).drop 1).length + 1 = l.length := by rw [List.length_drop, hL]; omega
      rw [e9]
    rw [er]
    by_cases h1 : l.length ≤ 256
    · rw [if_neg (by omega), if_pos (by omega), hat, toList_data, decide_eq_true h1]
      have hp : (nd l[0]).path = l[0].f0.data.toList := rfl
      have hkd : (nd l[0]).kind = l[0].f1 := rfl
      rw [hp, hkd]
      by_cases h2 : l[0].f0.data.toList = []
      · have e3 := mayData_f l[0] (k + 1) (by omega)
        rw [if_pos h2, e3]
        simp only [Option.bind_some]
        by_cases h4 : okNd (nd l[0]) = true
        · have hm := refMay_rounds l 1048576 (by decide) (by omega) hs h0 l.length 1 k (by omega) (by omega) (by omega)
          rw [h4, show (!true) = false from rfl, shelfmarkref10_May.j0, if_neg (by decide)]
          have e1 : ((1 : Nat) : Int) = 1 := rfl
          rw [← e1, hm, h2]
          rfl
        · rw [Bool.eq_false_iff.2 h4, show (!false) = true from rfl, j1]
          simp
      · rw [if_neg h2, j1, beq_eq_false_iff_ne.2 h2]
        simp
    · rw [if_pos (by omega), j1, decide_eq_false h1]
      simp
  · have : l = [] := List.length_eq_zero_iff.1 (by omega)
    subst this
    rw [if_pos (by decide), shelfmarkref10_May.j0, if_pos rfl]
    rfl
end Go.Proofs.YtncokgdfkbgflaaDoor

namespace Go.Proofs.YtncokgdfkbgflaaDoor
set_option linter.unusedVariables false
set_option linter.unusedSimpArgs false
open Go.RowKit Go.Proofs.YtncokgdfkbgflaaDoorW.PrintWords Go.Proofs.YtncokgdfkbgflaaDoorW.PrintMore P
theorem little_step (k : Nat) (n : Nat) (xs : List Int) (i : Nat) (hi : i < 8) (hx : xs.length = 8) :
    shelfmarkref1_little.l0 (k + 1) (n : Int) 8 xs (i : Int) = shelfmarkref1_little.l0 k (n : Int) 8 (xs.set i (((n / 2 ^ (8 * i) : Nat) : Int) % 256)) ((i + 1 : Nat) : Int) := by
  have hw : wrap64 (8 * (i : Int)) = ((8 * i : Nat) : Int) := by unfold wrap64; omega
  have hw2 : wrap64 ((i : Int) + 1) = ((i + 1 : Nat) : Int) := by unfold wrap64; omega
  have hs : shr .u64 (n : Int) ((8 * i : Nat) : Int) = ((n / 2 ^ (8 * i) : Nat) : Int) := by
    unfold shr
    rw [Int.toNat_natCast, Nat.min_eq_left (by show 8 * i ≤ 64; omega)]
    simp
  simp only [shelfmarkref1_little.l0]
  rw [if_pos (by omega), hw, if_pos (by omega), if_pos (by omega), if_pos (by rw [hx]; omega), hw2, hs, Int.toNat_natCast]
theorem little_any (k : Nat) (n : Nat) : shelfmarkref1_little.f (k + 9) (n : Int) 8 = some (bs (le8 n)) := by
  unfold shelfmarkref1_little.f
  rw [if_pos (by decide), if_pos (by decide)]
  show shelfmarkref1_little.l0 (k + 8 + 1) (n : Int) 8 _ ((0 : Nat) : Int) = _
  rw [little_step (k + 8) n _ 0 (by omega) (by rfl)]
  rw [show k + 8 = (k + 7) + 1 from rfl, little_step (k + 7) n _ 1 (by omega) (by simp)]
  rw [show k + 7 = (k + 6) + 1 from rfl, little_step (k + 6) n _ 2 (by omega) (by simp)]
  rw [show k + 6 = (k + 5) + 1 from rfl, little_step (k + 5) n _ 3 (by omega) (by simp)]
  rw [show k + 5 = (k + 4) + 1 from rfl, little_step (k + 4) n _ 4 (by omega) (by simp)]
  rw [show k + 4 = (k + 3) + 1 from rfl, little_step (k + 3) n _ 5 (by omega) (by simp)]
  rw [show k + 3 = (k + 2) + 1 from rfl, little_step (k + 2) n _ 6 (by omega) (by simp)]
  rw [show k + 2 = (k + 1) + 1 from rfl, little_step (k + 1) n _ 7 (by omega) (by simp)]
  simp only [shelfmarkref1_little.l0]
  rw [if_neg (by omega)]
  congr 1
  have hb : ∀ m : Nat, UInt8.ofNat (((m : Int) % 256).toNat) = UInt8.ofNat m := by
    intro m
    have : ((m : Int) % 256).toNat = m % 256 := by omega
    rw [this]
    apply UInt8.toNat_inj.mp
    simp
  rw [show ((8 : Int)).toNat = 8 from rfl]
  simp only [List.replicate_succ, List.replicate_zero, List.set_cons_zero, List.set_cons_succ, strOfNums, List.map_cons, List.map_nil, hb, bs, le8]
  simp
theorem refWord_any (k : Nat) (n : Nat) (hn : n < 9223372036854775808) : shelfmarkref10_Word.f (k + 9) (n : Int) = some (bs (le8 n)) := by
  have hm : mx (n : Int) 0 = n := by unfold mx; split <;> omega
  have hw : IntKind.u64.wrap (n : Int) = (n : Int) := by simp [IntKind.wrap, IntKind.signed, IntKind.bits]; omega
  unfold shelfmarkref10_Word.f shelfmarkref1_Little.f
  rw [hm, hw, little_any]
  rfl
theorem fill_rounds : ∀ (m k : Nat) (x : List UInt8), x.length + m < 4611686018427387904 → m < 8 → (x.length + m) % 8 = 0 → m + 1 ≤ k → shelfmarkref10_Str.l0 k (bs x) = some (bs (x ++ List.replicate m 0)) := by
  intro m
  induction m with
  | zero =>
    intro k x hx h8 hm hk
    obtain ⟨k, rfl⟩ : ∃ g, k = g + 1 := ⟨k - 1, by omega⟩
    rw [shelfmarkref10_Str.l0, bs_size, if_pos (by omega), List.replicate_zero, List.append_nil]
  | succ m ih =>
    intro k x hx h8 hm hk
    obtain ⟨k, rfl⟩ : ∃ g, k = g + 1 := ⟨k - 1, by omega⟩
    rw [shelfmarkref10_Str.l0, bs_size, if_neg (by omega), if_pos (by omega)]
    have e : (bs x ++ (⟨#[0]⟩ : ByteArray)) = bs (x ++ [0]) := by rw [← bs_append]; rfl
    rw [e, ih k (x ++ [0]) (by rw [List.length_append]; simp; omega) (by omega) (by rw [List.length_append]; simp; omega) (by omega), List.append_assoc]
    rfl
theorem refStr_f (s : ByteArray) (hs : s.size < 4611686018427380000) (k : Nat) (hk : 17 ≤ k) : shelfmarkref10_Str.f k s = some (bs (strB s.data.toList)) := by
  have hz := Lib.size_eq s
  obtain ⟨k, rfl⟩ : ∃ g, k = g + 9 := ⟨k - 9, by omega⟩
  unfold shelfmarkref10_Str.f
  rw [refWord_any k s.size (by omega)]
  simp only [Option.bind_some]
  have hp8 : pad s.size < 8 := by unfold pad; omega
  have hp : (8 + s.size + pad s.size) % 8 = 0 := by unfold pad; omega
  rw [bs_size, le8_length, if_pos (by omega)]
  have e : bs (le8 s.size) ++ s = bs (le8 s.size ++ s.data.toList) := by rw [← bs_append, bs_data]
  rw [e, fill_rounds (pad s.size) (k + 9) _ (by rw [List.length_append, le8_length]; omega) hp8 (by rw [List.length_append, le8_length, ← hz]; exact hp) (by omega), strB, ← hz]
theorem strs_rounds (l : List ByteArray) (M : Nat) (hM : M < 1000000000) (hl : l.length < 1000000000) (hs : ∀ s ∈ l, s.size ≤ M) : ∀ (m i k : Nat) (x : List UInt8), l.length - i ≤ m → i ≤ l.length → x.length ≤ i * (M + 15) → m + 18 ≤ k →
    shelfmarkref10_strs.l0 k l (bs x) (i : Int) = some (bs (x ++ strsB (strsOf (l.drop i)))) := by
  intro m
  induction m with
  | zero =>
    intro i k x h1 h2 hx hk
    obtain ⟨k, rfl⟩ : ∃ g, k = g + 1 := ⟨k - 1, by omega⟩
    rw [shelfmarkref10_strs.l0, if_neg (by omega), List.drop_eq_nil_of_le (by omega)]
    simp [strsOf, strsB]
  | succ m ih =>
    intro i k x h1 h2 hx hk
    by_cases hi : i < l.length
    · obtain ⟨k, rfl⟩ : ∃ g, k = g + 1 := ⟨k - 1, by omega⟩
      have hr : rdOf ByteArray.empty l (i : Int) = l[i] := by simp [rdOf, List.getD_eq_getElem?_getD, List.getElem?_eq_getElem hi]
      have hsi := hs l[i] (List.getElem_mem _)
      have hb : i * (M + 15) ≤ 1000000000 * (M + 15) := Nat.mul_le_mul (by omega) (Nat.le_refl _)
      have hle := strB_le l[i].data.toList
      have hz := Lib.size_eq l[i]
      rw [shelfmarkref10_strs.l0, if_pos (by omega), if_pos (by omega), hr, refStr_f l[i] (by omega) k (by omega)]
      simp only [Option.bind_some]
      rw [bs_size, bs_size, if_pos (by omega), bs_append, show wrap64 ((i : Int) + 1) = ((i + 1 : Nat) : Int) by unfold wrap64; omega,
        ih (i + 1) k _ (by omega) (by omega) (by rw [List.length_append, Nat.succ_mul]; omega) (by omega), List.drop_eq_getElem_cons hi]
      show _ = some (bs (x ++ strsB (l[i].data.toList :: strsOf (l.drop (i + 1)))))
      rw [strsB, List.append_assoc]
    · exact ih i k x (by omega) h2 hx (by omega)
theorem refStrs_f (l : List ByteArray) (M : Nat) (hM : M < 1000000000) (hl : l.length < 1000000000) (hs : ∀ s ∈ l, s.size ≤ M) (k : Nat) (hk : l.length + 18 ≤ k) : shelfmarkref10_strs.f k l = some (bs (strsB (strsOf l))) := by
  unfold shelfmarkref10_strs.f
  have := strs_rounds l M hM hl hs l.length 0 k [] (by omega) (by omega) (by simp) hk
  rw [List.drop_zero, List.nil_append] at this
  exact this
end Go.Proofs.YtncokgdfkbgflaaDoor

namespace Go.Proofs.YtncokgdfkbgflaaDoor
set_option linter.unusedVariables false
set_option linter.unusedSimpArgs false
open Go.RowKit Go.Proofs.YtncokgdfkbgflaaDoorW.PrintWords Go.Proofs.YtncokgdfkbgflaaDoorW.PrintMore P
theorem strs1 (k : Nat) (hk : 30 ≤ k) : shelfmarkref10_strs.f k [(⟨#[40]⟩ : ByteArray), (⟨#[116, 121, 112, 101]⟩ : ByteArray)] = some (bs (strsB [wOpen, wType])) := refStrs_f _ 300 (by decide) (by decide) (by decide) k (by simp; omega)
theorem strs2 (k : Nat) (hk : 30 ≤ k) : shelfmarkref10_strs.f k [(⟨#[41]⟩ : ByteArray)] = some (bs (strsB [wShut])) := refStrs_f _ 300 (by decide) (by decide) (by decide) k (by simp; omega)
theorem strs3 (k : Nat) (hk : 30 ≤ k) : shelfmarkref10_strs.f k [(⟨#[100, 105, 114, 101, 99, 116, 111, 114, 121]⟩ : ByteArray)] = some (bs (strsB [wDir])) := refStrs_f _ 300 (by decide) (by decide) (by decide) k (by simp; omega)
theorem strs4 (k : Nat) (hk : 30 ≤ k) : shelfmarkref10_strs.f k [(⟨#[110, 105, 120, 45, 97, 114, 99, 104, 105, 118, 101, 45, 49]⟩ : ByteArray)] = some (bs (strsB [wMark])) := refStrs_f _ 300 (by decide) (by decide) (by decide) k (by simp; omega)
theorem strs5 (k : Nat) (hk : 30 ≤ k) (d : ByteArray) (hd : d.size ≤ 70000) : shelfmarkref10_strs.f k [(⟨#[114, 101, 103, 117, 108, 97, 114]⟩ : ByteArray), (⟨#[99, 111, 110, 116, 101, 110, 116, 115]⟩ : ByteArray), d] = some (bs (strsB [wRegular, wContents, d.data.toList])) :=
  refStrs_f _ 70000 (by decide) (by simp) (by intro s hs; simp only [List.mem_cons, List.not_mem_nil, or_false] at hs; rcases hs with rfl | rfl | rfl; all_goals first | exact hd | decide) k (by simp; omega)
theorem strs6 (k : Nat) (hk : 30 ≤ k) (d : ByteArray) (hd : d.size ≤ 70000) : shelfmarkref10_strs.f k [(⟨#[114, 101, 103, 117, 108, 97, 114]⟩ : ByteArray), (⟨#[101, 120, 101, 99, 117, 116, 97, 98, 108, 101]⟩ : ByteArray), (⟨#[]⟩ : ByteArray), (⟨#[99, 111, 110, 116, 101, 110, 116, 115]⟩ : ByteArray), d] = some (bs (strsB [wRegular, wExec, [], wContents, d.data.toList])) :=
  refStrs_f _ 70000 (by decide) (by simp) (by intro s hs; simp only [List.mem_cons, List.not_mem_nil, or_false] at hs; rcases hs with rfl | rfl | rfl | rfl | rfl; all_goals first | exact hd | decide) k (by simp; omega)
theorem strs7 (k : Nat) (hk : 30 ≤ k) (d : ByteArray) (hd : d.size ≤ 70000) : shelfmarkref10_strs.f k [(⟨#[115, 121, 109, 108, 105, 110, 107]⟩ : ByteArray), (⟨#[116, 97, 114, 103, 101, 116]⟩ : ByteArray), d] = some (bs (strsB [wSymlink, wTarget, d.data.toList])) :=
  refStrs_f _ 70000 (by decide) (by simp) (by intro s hs; simp only [List.mem_cons, List.not_mem_nil, or_false] at hs; rcases hs with rfl | rfl | rfl; all_goals first | exact hd | decide) k (by simp; omega)
theorem strs8 (k : Nat) (hk : 30 ≤ k) (d : ByteArray) (hd : d.size ≤ 70000) : shelfmarkref10_strs.f k [(⟨#[101, 110, 116, 114, 121]⟩ : ByteArray), (⟨#[40]⟩ : ByteArray), (⟨#[110, 97, 109, 101]⟩ : ByteArray), d, (⟨#[110, 111, 100, 101]⟩ : ByteArray)] = some (bs (strsB [wEntry, wOpen, wName, d.data.toList, wNode])) :=
  refStrs_f _ 70000 (by decide) (by simp) (by intro s hs; simp only [List.mem_cons, List.not_mem_nil, or_false] at hs; rcases hs with rfl | rfl | rfl | rfl | rfl; all_goals first | exact hd | decide) k (by simp; omega)
theorem nds_here {l : List S68} {pre post : List Nd} {n : Nd} (h : nds l = pre ++ (n :: post)) : ∃ hi : pre.length < l.length, nd l[pre.length] = n := by
  have hl : pre.length < l.length := by rw [← nds_len, h, List.length_append, List.length_cons]; omega
  refine ⟨hl, ?_⟩
  have h1 : (nds l)[pre.length]? = some n := by rw [h]; simp
  have h2 : (nds l)[pre.length]? = some (nd l[pre.length]) := by simp [nds, List.getElem?_eq_getElem hl]
  rw [h2] at h1
  exact Option.some.inj h1
theorem mayName_len {t : List UInt8} (h : mayName t = true) : t.length ≤ 255 := by
  unfold mayName at h
  simp only [Bool.and_eq_true, decide_eq_true_eq] at h
  exact h.2.1
mutual
theorem Tr.node_is (l : List S68) (B : Nat) (hB : B < 1000000000) (hl : l.length < 1000000000) (hs : ∀ x ∈ l, x.f0.size ≤ B) : ∀ (t : Tr) (d : Nat) (p : List UInt8) (pre post : List Nd) (k : Nat), t.ok d = true → StopsAt (headOf p) post → nds l = pre ++ (t.nodes p ++ post) → t.enc.length < 1000000000000000 → 3 * t.size + B + 60 ≤ k →
    shelfmarkref10_node.f k l (pre.length : Int) = some (bs t.enc, ((pre.length + t.size : Nat) : Int))
  | .leaf kk x, d, p, pre, post, k, h, hst, hn, he, hk => by
    obtain ⟨k, rfl⟩ : ∃ g, k = g + 1 := ⟨k - 1, by omega⟩
    rw [Tr.ok] at h
    simp only [Bool.and_eq_true, decide_eq_true_eq] at h
    rw [Tr.nodes] at hn
    obtain ⟨hi, hnd⟩ := nds_here hn
    have hat : rd_T68 l (pre.length : Int) = l[pre.length] := rd68_at l _ hi
    have h1 : l[pre.length].f1 = kk := congrArg Nd.kind hnd
    have h2 : l[pre.length].f2.data.toList = x := congrArg Nd.data hnd
    have hx := okNd_le _ h.2
    have hx2 : x.length ≤ 65536 := hx
    have hsz : l[pre.length].f2.size ≤ 70000 := by rw [Lib.size_eq, h2]; omega
    have HW := Aside0.mk (wrap_up pre.length (by omega))
    rw [Tr.enc] at he ⊢
    simp only [List.length_append] at he
    rw [shelfmarkref10_node.f, if_pos (by omega), if_pos (by omega), strs1 k (by omega)]
    simp only [Option.bind_some]
    rw [hat, h1, strs5 k (by omega) _ hsz, strs6 k (by omega) _ hsz, strs7 k (by omega) _ hsz, h2, strs2 k (by omega), HW.out, Tr.size]
    simp only [Option.bind_some]
    rcases h.1 with rfl | rfl | rfl
    · rw [if_pos rfl, bs_size, bs_size, if_pos (by simp only [leafB, if_pos] at he; omega), bs_append, bs_size, bs_size, if_pos (by simp only [leafB, if_pos] at he; rw [List.length_append]; omega), bs_append]
      rfl
    · rw [if_neg (by decide), if_pos rfl, bs_size, bs_size]
      have hb : leafB ⟨[], 2, x⟩ = strsB [wRegular, wExec, [], wContents, x] := by simp [leafB]
      rw [hb] at he ⊢
      rw [if_pos (by omega), bs_append, bs_size, bs_size, if_pos (by rw [List.length_append]; omega), bs_append]
    · rw [if_neg (by decide), if_neg (by decide), if_pos rfl, bs_size, bs_size]
      have hb : leafB ⟨[], 3, x⟩ = strsB [wSymlink, wTarget, x] := by simp [leafB]
      rw [hb] at he ⊢
      rw [if_pos (by omega), bs_append, bs_size, bs_size, if_pos (by rw [List.length_append]; omega), bs_append]
  | .dir es, d, p, pre, post, k, h, hst, hn, he, hk => by
    obtain ⟨k, rfl⟩ : ∃ g, k = g + 1 := ⟨k - 1, by omega⟩
    rw [Tr.ok] at h
    rw [Tr.size] at hk ⊢
    rw [Tr.nodes] at hn
    obtain ⟨hi, hnd⟩ := nds_here hn
    have hat : rd_T68 l (pre.length : Int) = l[pre.length] := rd68_at l _ hi
    have h1 : l[pre.length].f1 = 4 := congrArg Nd.kind hnd
    have h0 : l[pre.length].f0.data.toList = p := congrArg Nd.path hnd
    have hsi := hs l[pre.length] (List.getElem_mem _)
    have HW := Aside0.mk (wrap_up pre.length (by omega))
    rw [Tr.enc] at he ⊢
    simp only [List.length_append] at he
    have hn2 : nds l = (pre ++ [⟨p, 4, []⟩]) ++ (es.nodes p ++ post) := by rw [hn]; simp
    have hr := Es.node_is l B hB hl hs es d [] p (pre ++ [⟨p, 4, []⟩]) post k l[pre.length].f0 l[pre.length].f1 l[pre.length].f2 (strsB [wOpen, wType] ++ strsB [wDir]) h hst hn2 ⟨h0, hsi⟩ (by simp only [List.length_append]; omega) (by omega)
    rw [List.length_append, List.length_singleton] at hr
    rw [shelfmarkref10_node.f, if_pos (by omega), if_pos (by omega), strs1 k (by omega)]
    simp only [Option.bind_some]
    rw [hat]
    have g1 : ¬ l[pre.length].f1 = 1 := by omega
    have g2 : ¬ l[pre.length].f1 = 2 := by omega
    have g3 : ¬ l[pre.length].f1 = 3 := by omega
    rw [if_neg g1, if_neg g2, if_neg g3, strs3 k (by omega)]
    simp only [Option.bind_some]
    rw [bs_size, bs_size, if_pos (by omega), bs_append, HW.out, hr]
    have e1 : strsB [wOpen, wType] ++ strsB [wDir] ++ (es.enc ++ strsB [wShut]) = strsB [wOpen, wType] ++ (strsB [wDir] ++ es.enc) ++ strsB [wShut] := by simp only [List.append_assoc]
    have e2 : pre.length + 1 + es.size = pre.length + (1 + es.size) := by omega
    rw [e1, e2]
theorem Es.node_is (l : List S68) (B : Nat) (hB : B < 1000000000) (hl : l.length < 1000000000) (hs : ∀ x ∈ l, x.f0.size ≤ B) : ∀ (es : Es) (d : Nat) (last p : List UInt8) (pre post : List Nd) (k : Nat) (y0 : ByteArray) (y1 : Int) (y2 : ByteArray) (acc : List UInt8), es.ok d last = true → StopsAt (headOf p) post → nds l = pre ++ (es.nodes p ++ post) → y0.data.toList = p ∧ y0.size ≤ B →
    acc.length + es.enc.length + (strsB [wShut]).length < 1000000000000000 → 3 * es.size + B + 62 ≤ k →
    shelfmarkref10_node.l0 k l (bs acc) (pre.length : Int) y0 y1 y2 = some (bs (acc ++ (es.enc ++ strsB [wShut])), ((pre.length + es.size : Nat) : Int))
  | .nil, d, last, p, pre, post, k, y0, y1, y2, acc, h, hst, hn, ⟨hy, hyB⟩, he, hk => by
    obtain ⟨k, rfl⟩ : ∃ g, k = g + 2 := ⟨k - 2, by omega⟩
    rw [Es.nodes, List.nil_append] at hn
    rw [Es.enc] at he ⊢
    rw [Es.size, List.nil_append]
    have hj : shelfmarkref10_node.j1 (k + 1) l (bs acc) (pre.length : Int) false y0 y1 y2 = some (bs (acc ++ strsB [wShut]), ((pre.length + 0 : Nat) : Int)) := by
      rw [shelfmarkref10_node.j1, if_neg (by decide), strs2 k (by omega)]
      simp only [Option.bind_some]
      rw [bs_size, bs_size, if_pos (by simp only [List.length_nil] at he; omega), bs_append]
      rfl
    rw [shelfmarkref10_node.l0]
    by_cases hlt : pre.length < l.length
    · obtain ⟨n, post2, hpost⟩ : ∃ n post2, post = n :: post2 := by
        cases post with
        | nil => have := nds_len l; rw [hn, List.append_nil] at this; omega
        | cons n q => exact ⟨n, q, rfl⟩
      rw [hpost] at hn
      obtain ⟨hi, hnd⟩ := nds_here hn
      have hat : rd_T68 l (pre.length : Int) = l[pre.length] := rd68_at l _ hi
      have h0 : l[pre.length].f0.data.toList = n.path := congrArg Nd.path hnd
      have hsi := hs l[pre.length] (List.getElem_mem _)
      have hpfx := hst n post2 hpost
      obtain ⟨r, hr, hrl⟩ := name_f l[pre.length].f0 y0 (by omega) (by omega) (k + 1) (by omega)
      rw [h0, hy, refName_stop hpfx] at hrl
      have ht : (r.toList != ([] : List UInt8)) = false := by rw [toList_data, hrl]; rfl
      rw [if_pos (by omega), if_pos (by omega), hat, hr]
      simp only [Option.bind_some]
      rw [ht, hj]
    · rw [if_neg (by omega), hj]
  | .cons nm t es, d, last, p, pre, post, k, y0, y1, y2, acc, h, hst, hn, ⟨hy, hyB⟩, he, hk => by
    have h' := h
    rw [Es.ok] at h
    simp only [Bool.and_eq_true, Bool.not_eq_true', decide_eq_true_eq] at h
    obtain ⟨h1, h2, h3, h4, h5⟩ := h
    rw [Es.size] at hk ⊢
    have hp := Tr.size_pos t
    obtain ⟨k, rfl⟩ : ∃ g, k = g + 2 := ⟨k - 2, by omega⟩
    rw [Es.nodes, List.append_assoc] at hn
    obtain ⟨hne, h47⟩ := mayName_ne h1
    have hstop := Es.stops d nm p _ es post nm rfl hne h5 hst
    rw [Es.enc, entryB] at he ⊢
    simp only [List.length_append] at he
    have hnode := Tr.node_is l B hB hl hs t (d + 1) (headOf p ++ nm) pre (es.nodes p ++ post) k h4 hstop hn (by omega) (by omega)
    obtain ⟨m, q, hm, hmp⟩ := Tr.first (headOf p ++ nm) t
    have hn1 : nds l = pre ++ m :: (q ++ (es.nodes p ++ post)) := by rw [hn, hm]; rfl
    obtain ⟨hi, hnd⟩ := nds_here hn1
    have hat : rd_T68 l (pre.length : Int) = l[pre.length] := rd68_at l _ hi
    have h0 : l[pre.length].f0.data.toList = headOf p ++ nm := by rw [← hmp]; exact congrArg Nd.path hnd
    have hsi := hs l[pre.length] (List.getElem_mem _)
    obtain ⟨r, hr, hrl⟩ := name_f l[pre.length].f0 y0 (by omega) (by omega) (k + 1) (by omega)
    obtain ⟨r2, hr2, hrl2⟩ := name_f l[pre.length].f0 y0 (by omega) (by omega) k (by omega)
    rw [h0, hy, refName_in p nm h47] at hrl hrl2
    have ht : (r.toList != ([] : List UInt8)) = true := by rw [toList_data, hrl, bne_iff_ne]; exact hne
    have hnml := mayName_len h1
    have hn2 : nds l = (pre ++ t.nodes (headOf p ++ nm)) ++ (es.nodes p ++ post) := by rw [hn, List.append_assoc]
    have hih := Es.node_is l B hB hl hs es d nm p (pre ++ t.nodes (headOf p ++ nm)) post k y0 y1 y2 (acc ++ strsB [wEntry, wOpen, wName, nm, wNode] ++ t.enc ++ strsB [wShut]) h5 hst hn2 ⟨hy, hyB⟩ (by simp only [List.length_append]; omega) (by omega)
    rw [List.length_append, Tr.nodes_length] at hih
    rw [shelfmarkref10_node.l0, if_pos (by omega), if_pos (by omega), hat, hr]
    simp only [Option.bind_some]
    rw [ht, shelfmarkref10_node.j1, if_pos rfl, hnode]
    simp only [Option.bind_some]
    rw [if_pos (by omega), if_pos (by omega), hat, hr2]
    simp only [Option.bind_some]
    rw [strs8 k (by omega) r2 (by rw [Lib.size_eq, hrl2]; omega), strs2 k (by omega), hrl2]
    simp only [Option.bind_some]
    rw [bs_size, bs_size, if_pos (by omega), bs_append, bs_size, bs_size, if_pos (by rw [List.length_append]; omega), bs_append, bs_size, bs_size, if_pos (by simp only [List.length_append]; omega), bs_append, hih]
    have e1 : acc ++ strsB [wEntry, wOpen, wName, nm, wNode] ++ t.enc ++ strsB [wShut] ++ (es.enc ++ strsB [wShut]) = acc ++ (strsB [wEntry, wOpen, wName, nm, wNode] ++ t.enc ++ strsB [wShut] ++ es.enc ++ strsB [wShut]) := by simp only [List.append_assoc]
    have e2 : pre.length + t.size + es.size = pre.length + (t.size + es.size) := by omega
    rw [e1, e2]
end
theorem encT_le (t : Tr) (h : t.ok 0 = true) (hs : t.size ≤ 256) (hp : ∀ n ∈ t.nodes [], n.path.length ≤ 1048576) : t.enc.length ≤ 353771551 * 257 := by
  have hm := tree_may t h hs
  obtain ⟨h1, h2, h3, h4⟩ := may_parts hm
  rw [← packN_tree t h]
  have h5 := packN_le (t.nodes []) 327827 1048576 (by
    intro n hn
    have := leafB_le n 65536 (by decide) (okNd_le n (h3 n hn))
    omega) hp (by decide) h4 (t.nodes []).length 0
  have h7 := holds_le (t.nodes []) 0
  have h8 : (327827 + (1048576 + 140)) * holds (t.nodes []) 0 ≤ (327827 + (1048576 + 140)) * 257 := Nat.mul_le_mul (Nat.le_refl _) (by omega)
  omega
theorem refPack_f (l : List S68) (hs : ∀ x ∈ l, x.f0.size ≤ 1048576) (k : Nat) (hk : 1200000 ≤ k) : shelfmarkref10_Pack.f k l = some (if May (nds l) = true then (bs (strB wMark ++ packN l.length (nds l) 0), 0) else (⟨#[]⟩, 1)) := by
  unfold shelfmarkref10_Pack.f
  rw [refMay_f l hs k (by omega)]
  simp only [Option.bind_some]
  by_cases h : May (nds l) = true
  · rw [if_pos h, if_pos h]
    obtain ⟨t, ht, hl⟩ := may_tree _ h
    obtain ⟨h1, h2, _, _⟩ := may_parts h
    rw [nds_len] at h1 h2
    have hsz : t.size = l.length := by rw [← Tr.nodes_length [] t, ← hl, nds_len]
    have hpp : ∀ n ∈ t.nodes [], n.path.length ≤ 1048576 := by
      intro n hn
      rw [← hl] at hn
      obtain ⟨x, hx, rfl⟩ := List.mem_map.1 hn
      have := hs x hx
      rw [Lib.size_eq] at this
      exact this
    have he := encT_le t ht (by omega) hpp
    have hn := Tr.node_is l 1048576 (by decide) (by omega) hs t 0 [] [] [] k ht (fun n q e => by cases e) (by rw [hl]; simp) (by omega) (by omega)
    have e0 : (([] : List Nd).length : Int) = 0 := rfl
    rw [e0] at hn
    rw [hn]
    simp only [Option.bind_some]
    rw [strs4 k (by omega)]
    simp only [Option.bind_some]
    have hmk : (strsB [wMark]).length = 24 := by decide
    have e1 : packN l.length (nds l) 0 = t.enc := by
      have := packN_tree t ht
      rw [← hl, nds_len] at this
      exact this
    rw [bs_size, bs_size, if_pos (by omega), bs_append, e1]
    have e2 : strsB [wMark] = strB wMark := by simp only [strsB, List.append_nil]
    rw [e2]
  · rw [if_neg h, if_neg h]
end Go.Proofs.YtncokgdfkbgflaaDoor

namespace Go.Proofs.YtncokgdfkbgflaaDoor
set_option linter.unusedVariables false
set_option linter.unusedSimpArgs false
open Go.RowKit Go.Proofs.YtncokgdfkbgflaaDoorW.PrintWords Go.Proofs.YtncokgdfkbgflaaDoorW.PrintMore P
end Go.Proofs.YtncokgdfkbgflaaDoor

namespace Go.Proofs.YtncokgdfkbgflaaDoor
set_option linter.unusedVariables false
set_option linter.unusedSimpArgs false
open Go.RowKit Go.Proofs.YtncokgdfkbgflaaDoorW.PrintWords Go.Proofs.YtncokgdfkbgflaaDoorW.PrintMore P
def xS : S68 := ⟨⟨#[]⟩, 2, ⟨#[120]⟩⟩
def xB : List UInt8 := strB wMark ++ packN 1 (nds [xS]) 0
theorem may_x : May (nds [xS]) = true := by kernel_rfl
theorem get_none : getP (⟨#[]⟩ : ByteArray).data.toList = .error 5 := by kernel_rfl
theorem get_x : getP (bs xB).data.toList = .ok (nds [xS]) := by
  rw [bs_toList]
  kernel_rfl
theorem size_x : (bs xB).size < 1000000000 := by rw [bs_size]; decide +kernel
theorem parse_small {a : ByteArray} (h : a.size < 1000000000) : parse_Get.f a = some (getT (getP a.data.toList)) := by unfold parse_Get.f; rw [if_pos h]
theorem pack_x (k : Nat) (hk : 1200000 ≤ k) : shelfmarkref10_Pack.f k [xS] = some (bs xB, 0) := by
  have h1 : ∀ x ∈ [xS], x.f0.size ≤ 1048576 := fun x hx => by
    obtain rfl := List.mem_singleton.1 hx
    exact Nat.zero_le _
  rw [refPack_f [xS] h1 k hk, if_pos may_x]
  rfl
theorem awake_f (k : Nat) (hk : 1200000 ≤ k) : shelfmarklaw11_awake.f k = some true := by
  unfold shelfmarklaw11_awake.f
  have hp := pack_x k hk
  unfold xS at hp
  rw [parse_small (by decide), get_none, Option.bind_some, hp, Option.bind_some, parse_small size_x, get_x]
  show (some (((⟨#[120]⟩ : ByteArray).toList == ([120] : List UInt8))) : Option Bool) = some true
  rw [toList_data]
  rfl
end Go.Proofs.YtncokgdfkbgflaaDoor

namespace Go.Proofs.YtncokgdfkbgflaaDoor
set_option linter.unusedVariables false
set_option linter.unusedSimpArgs false
open Go.RowKit Go.Proofs.YtncokgdfkbgflaaDoorW.PrintWords
theorem must_step (t : List UInt8) (l : List (List UInt8)) (r : List UInt8) (ht : t.length < 18446744073709551616) : mustP (t :: l) (strB t ++ r) = mustP l r := by
  show (oneP [t] (strB t ++ r)).then _ = _
  rw [one_complete [t] t r (List.mem_singleton.2 rfl) ht]
  rfl
theorem get_mark (X : List UInt8) : ∃ f, X.length < f ∧ getP (strB wMark ++ X) = finP (nodeP f [] 0 [] X) := by
  refine ⟨(strB wMark ++ X).length + 1, by rw [List.length_append]; omega, ?_⟩
  rw [getP, must_step wMark [] X (by decide)]
  rfl
theorem node_open (f : Nat) (path : List UInt8) (deep : Nat) (l : List Nd) (X : List UInt8) : nodeP (f + 1) path deep l (strB wOpen ++ (strB wType ++ X)) = (oneP [wRegular, wSymlink, wDir] X).then fun t r =>
      if t = wDir then dirP f path deep [] (l ++ [⟨path, 4, []⟩]) r
      else (if t = wRegular then fileP r else linkP r).then fun x r => (mustP [wShut] r).then fun _ r => .ok (l ++ [⟨path, x.1, x.2⟩], r) := by
  rw [nodeP, must_step wOpen _ _ (by decide), must_step wType _ _ (by decide)]
  rfl
theorem node_file (f : Nat) (path : List UInt8) (deep : Nat) (l : List Nd) (X : List UInt8) : nodeP (f + 1) path deep l (strB wOpen ++ (strB wType ++ (strB wRegular ++ (strB wContents ++ X)))) = (textP 65536 X).then fun d r => (mustP [wShut] r).then fun _ r => .ok (l ++ [⟨path, 1, d⟩], r) := by
  rw [node_open, one_complete _ wRegular _ (by decide) (by decide), Rd.then_ok, if_neg (by decide), if_pos rfl, fileP, one_complete _ wContents _ (by decide) (by decide), Rd.then_ok, if_neg (by decide)]
  cases textP 65536 X with
  | error e => rfl
  | ok y => rfl
end Go.Proofs.YtncokgdfkbgflaaDoor

namespace Go.Proofs.YtncokgdfkbgflaaDoor
set_option linter.unusedVariables false
open Go.RowKit Go.Proofs.YtncokgdfkbgflaaDoor.P Go.Proofs.YtncokgdfkbgflaaDoorW.PrintWords Go.Proofs.YtncokgdfkbgflaaDoorW.PrintLast Go.Proofs.YtncokgdfkbgflaaDoorW.PrintMore
theorem str_bs (l : List UInt8) (k : Nat) (hk : 17 ≤ k) (hl : l.length < 1000000) : shelfmarkref10_Str.f k (bs l) = some (bs (strB l)) := by
  rw [refStr_f (bs l) (by rw [bs_size]; omega) k hk, bs_toList]
def longHead : List UInt8 := strB wMark ++ strB wOpen ++ strB wType ++ strB wRegular ++ strB wContents
theorem head_get (n : Nat) (hn : n < 18446744073709551616) : getP (longHead ++ le8 n) = .error (if n ≤ 65536 then 5 else 4) := by
  have hsplit : longHead ++ le8 n = strB wMark ++ (strB wOpen ++ (strB wType ++ (strB wRegular ++ (strB wContents ++ le8 n)))) := by simp only [longHead, List.append_assoc]
  rw [hsplit]
  obtain ⟨f, hf, hg⟩ := get_mark (strB wOpen ++ (strB wType ++ (strB wRegular ++ (strB wContents ++ le8 n))))
  obtain ⟨f, rfl⟩ : ∃ f', f = f' + 1 := ⟨f - 1, by omega⟩
  rw [hg, node_file]
  have ht : textP 65536 (le8 n) = if n ≤ 65536 then (if n = 0 then .ok ([], []) else .error 5) else .error 4 := by
    unfold textP
    have h8 : (le8 n).take 8 = le8 n := List.take_of_length_le (by rw [le8_length]; exact Nat.le_refl _)
    have hd : (le8 n).drop 8 = [] := List.drop_eq_nil_of_le (by rw [le8_length]; exact Nat.le_refl _)
    rw [h8, hd, leN_le8 n hn, if_neg (by rw [le8_length]; omega)]
    by_cases h1 : n ≤ 65536
    · rw [if_neg (by omega), if_pos h1]
      by_cases h0 : n = 0
      · subst h0; rfl
      · rw [if_neg h0, if_pos (by rw [List.length_nil]; omega)]
    · rw [if_pos (by omega), if_neg h1]
  rw [ht]
  by_cases h1 : n ≤ 65536
  · rw [if_pos h1, if_pos h1]
    by_cases h0 : n = 0
    · rw [if_pos h0]; rfl
    · rw [if_neg h0]; rfl
  · rw [if_neg h1, if_neg h1]; rfl
theorem byte_at (n i : Nat) (hi : i < 8) : strOfNums [(shr .u64 (n : Int) ((8 * i : Nat) : Int)) % 256] = bs [UInt8.ofNat (n / 2 ^ (8 * i))] := by
  have h1 : (shr .u64 (n : Int) ((8 * i : Nat) : Int)) % 256 = ((n / 2 ^ (8 * i) % 256 : Nat) : Int) := by
    unfold shr
    rw [Int.toNat_natCast, Nat.min_eq_left (show 8 * i ≤ IntKind.u64.bits from by show 8 * i ≤ 64; omega)]
    rw [Int.natCast_emod, Int.natCast_ediv, Int.natCast_pow]
    rfl
  rw [h1]
  unfold strOfNums
  simp only [List.map_cons, List.map_nil, Int.toNat_natCast]
  apply ByteArray.ext
  apply Array.toList_inj.1
  simp only [bs]
  rw [show UInt8.ofNat (n / 2 ^ (8 * i) % 256) = UInt8.ofNat (n / 2 ^ (8 * i)) from by
    apply UInt8.toNat_inj.1
    simp]
theorem long_rounds (n small : Nat) (head : ByteArray) (hh : head.size < 1000) : ∀ (m i k : Nat) (x : List UInt8), i + m = 8 → x.length = i →
    shelfmarklaw11_ParseLong.l0 (k + m) (n : Int) (small : Int) head (bs x) (i : Int) = shelfmarklaw11_ParseLong.l0 k (n : Int) (small : Int) head (bs (x ++ (List.range' i m).map fun j => UInt8.ofNat (n / 2 ^ (8 * j)))) ((8 : Nat) : Int)
  | 0, i, k, x, h, hx => by
    obtain rfl : i = 8 := by omega
    rw [List.range'_zero, List.map_nil, List.append_nil]
    rfl
  | m + 1, i, k, x, h, hx => by
    have hi : i < 8 := by omega
    have b1 : i < 461168601842738 := by omega
    have b2 : i < 4611686018427387900 := by omega
    have t1 : (i : Int) < 8 := by omega
    have t2 : (0 : Int) ≤ ((8 * i : Nat) : Int) := Int.natCast_nonneg _
    have ih := long_rounds n small head hh m (i + 1) k (x ++ [UInt8.ofNat (n / 2 ^ (8 * i))]) (by omega) (by rw [List.length_append, List.length_singleton, hx])
    have t3 : (bs x).size + (bs [UInt8.ofNat (n / 2 ^ (8 * i))]).size ≤ 9223372036854775807 := by rw [bs_size, bs_size, hx, List.length_singleton]; omega
    rw [show k + (m + 1) = (k + m) + 1 by omega, shelfmarklaw11_ParseLong.l0, if_pos t1, wrapM8 i b1, if_pos t2, Option.bind_some, byte_at n i hi, if_pos t3, bs_append, wrapA1 i b2, ih, List.range'_succ, List.map_cons, List.append_assoc]
    rfl
theorem le8_range (n : Nat) : le8 n = (List.range' 0 8).map fun j => UInt8.ofNat (n / 2 ^ (8 * j)) := by
  have h : List.range' 0 8 = [0, 1, 2, 3, 4, 5, 6, 7] := by decide
  rw [h]
  simp [le8]
theorem Pure.ParseLong : shelfmarklaw11_ParseLong.Pure := by
  intro a0 a1 w0 w1
  obtain ⟨n, rfl, hn⟩ : ∃ n : Nat, a0 = (n : Int) ∧ n < 18446744073709551616 := by
    have h0 : IntKind.u64.min ≤ a0 ∧ a0 ≤ IntKind.u64.max := by simpa [Lit.wf] using w0
    have h1 : (0 : Int) ≤ a0 ∧ a0 ≤ 18446744073709551615 := h0
    exact ⟨a0.toNat, by omega, by omega⟩
  obtain ⟨m, rfl, hm⟩ : ∃ m : Nat, a1 = (m : Int) ∧ m < 65536 := by
    have h0 : IntKind.u16.min ≤ a1 ∧ a1 ≤ IntKind.u16.max := by simpa [Lit.wf] using w1
    have h1 : (0 : Int) ≤ a1 ∧ a1 ≤ 65535 := h0
    exact ⟨a1.toNat, by omega, by omega⟩
  refine ⟨1200000 + 9, ?_⟩
  unfold shelfmarklaw11_ParseLong.f
  have s1 := str_bs wMark (1200000 + 9) (by decide) (by decide)
  have s2 := str_bs wOpen (1200000 + 9) (by decide) (by decide)
  have s3 := str_bs wType (1200000 + 9) (by decide) (by decide)
  have s4 := str_bs wRegular (1200000 + 9) (by decide) (by decide)
  have s5 := str_bs wContents (1200000 + 9) (by decide) (by decide)
  have e1 : (⟨#[110, 105, 120, 45, 97, 114, 99, 104, 105, 118, 101, 45, 49]⟩ : ByteArray) = bs wMark := rfl
  have e2 : (⟨#[40]⟩ : ByteArray) = bs wOpen := rfl
  have e3 : (⟨#[116, 121, 112, 101]⟩ : ByteArray) = bs wType := rfl
  have e4 : (⟨#[114, 101, 103, 117, 108, 97, 114]⟩ : ByteArray) = bs wRegular := rfl
  have e5 : (⟨#[99, 111, 110, 116, 101, 110, 116, 115]⟩ : ByteArray) = bs wContents := rfl
  have z1 : (bs (strB wMark)).size + (bs (strB wOpen)).size ≤ 9223372036854775807 := by decide +kernel
  have z2 : (bs (strB wMark ++ strB wOpen)).size + (bs (strB wType)).size ≤ 9223372036854775807 := by decide +kernel
  have z3 : (bs (strB wMark ++ strB wOpen ++ strB wType)).size + (bs (strB wRegular)).size ≤ 9223372036854775807 := by decide +kernel
  have z4 : (bs (strB wMark ++ strB wOpen ++ strB wType ++ strB wRegular)).size + (bs (strB wContents)).size ≤ 9223372036854775807 := by decide +kernel
  rw [e1, e2, e3, e4, e5, s1, Option.bind_some, s2, Option.bind_some, if_pos z1, s3, Option.bind_some, bs_append, if_pos z2, s4, Option.bind_some, bs_append, if_pos z3, s5, Option.bind_some, bs_append, if_pos z4, bs_append]
  have hlen : longHead.length = 88 := by decide +kernel
  have hr := long_rounds n m (bs longHead) (by rw [bs_size, hlen]; omega) 8 0 (1200000 + 1) [] rfl rfl
  rw [List.nil_append, ← le8_range] at hr
  have hr' : shelfmarklaw11_ParseLong.l0 (1200000 + 9) (n : Int) (m : Int) (bs longHead) (⟨#[]⟩ : ByteArray) 0 = _ := hr
  show shelfmarklaw11_ParseLong.l0 (1200000 + 9) (n : Int) (m : Int) (bs longHead) (⟨#[]⟩ : ByteArray) 0 = some true
  rw [hr', shelfmarklaw11_ParseLong.l0, if_neg (show ¬ ((8 : Nat) : Int) < 8 by decide)]
  have y1 : (bs longHead).size + (bs (le8 n)).size ≤ 9223372036854775807 := by rw [bs_size, bs_size, hlen, le8_length]; omega
  have y2 : (bs longHead).size + (bs (le8 m)).size ≤ 9223372036854775807 := by rw [bs_size, bs_size, hlen, le8_length]; omega
  have y3 : (bs (longHead ++ le8 n)).size < 1000000000 := by rw [bs_size, List.length_append, hlen, le8_length]; omega
  have y4 : (bs (longHead ++ le8 m)).size < 1000000000 := by rw [bs_size, List.length_append, hlen, le8_length]; omega
  have hw : shelfmarkref10_Word.f 1200000 (wrap64 (m : Int)) = some (bs (le8 m)) := by
    rw [wrapN m (by omega)]
    exact refWord_any 1199991 m (by omega)
  rw [if_pos y1, bs_append, parse_small y3, bs_toList, head_get n hn, Option.bind_some, hw, Option.bind_some, if_pos y2, bs_append, parse_small y4, bs_toList, head_get m (by omega), Option.bind_some, if_pos (show m ≤ 65536 by omega), awake_f 1200000 (Nat.le_refl _)]
  by_cases h1 : n ≤ 65536
  · rw [if_pos h1, if_pos (show ((n : Nat) : Int) ≤ 65536 by omega)]
    rfl
  · rw [if_neg h1, if_neg (show ¬ ((n : Nat) : Int) ≤ 65536 by omega)]
    rfl
end Go.Proofs.YtncokgdfkbgflaaDoor

namespace Go.Proofs.YtncokgdfkbgflaaDoor.parseLong
open Go.ChangeShapes Go.WideShapes Go.ChangeAt Go.RowKit
open Go.ChangeMaps (open_string shut_string)
set_option linter.unusedVariables false
abbrev lay : List (String × DataW Unit) := Rows.parseLongRow.laid
theorem own : ownKnob Tryd.prog.godebug = none := by kernel_rfl
set_option maxRecDepth 100000 in
theorem lifted (os : Os) (started : os.Started) (H : Type) (enc : TypeId × Value → H) :
    ReturnsInHanded {} Tryd.checked os 8 .any (fun w args => (Rows.parseLongSpec.pre enc Tryd.prog Tryd.f8 Rows.parseLongRow.domain false w args ∧ laidMetH Tryd.prog lay w) ∧ sizedMet enc Tryd.prog Tryd.f8 (OpenSpec.ofChange Rows.parseLongSpec) false w args) (Rows.parseLongSpec.post enc Tryd.prog Tryd.f8 false true false false) := by
  refine returnsInHanded_of_change_and (C := Tryd.checked) (X := fun w _ => laidMetH Tryd.prog lay w) (fun _ _ _ hh h => h.of_heap hh) own started (by kernel_rfl) Tryd.func8
    (ChangeSpec.witness_shaped (enc := enc) (C := Tryd.checked) (os := os) (X := fun w _ => laidMetH Tryd.prog lay w) false (World.laidAll Tryd.prog os lay) #[.int .u64 0, .int .u16 0] 8 (World.laidAll_os _ _ _)
      (World.shaped_of_ZipB (by kernel_rfl) (by kernel_rfl)) (by kernel_rfl) (by kernel_rfl) (by kernel_rfl)
      (by rw [MakeChecks.laidMetH_plain _ _ _ (by kernel_rfl)]; exact laidMet_laidAll _ (by kernel_rfl) (by kernel_rfl))) ?_
  intro W base args ds gs before hval0 hW hcnd hsz0 _ _
  have hsz : (DataW.weightsEach Tryd.prog (Tryd.f8.params.toList ++ Rows.parseLongSpec.plain.varTypes Tryd.prog) (ds ++ gs)).all (· ≤ reachBytes) = true := hsz0
  have hval : ∀ (j : Nat) t v, Tryd.f8.params[j]? = some t → args[j]? = some v → Value.okWide Tryd.prog W .any base t v := hval0
  have hW' := hW
  obtain ⟨p, q, hA0, hV, rfl, hfz, hnd⟩ := hW
  have hA : DataW.TrodAll enc Tryd.prog W 0 (fun _ => true) true Tryd.f8.params.toList args.toList ds p := hA0
  rw [Tryd.params8] at hA hval hsz
  obtain ⟨v0, vs0, d0, ds0, p0, q0, hargs, rfl, rfl, h0, r0⟩ := trodAll_cons hA
  obtain ⟨v1, vs1, d1, ds1, p1, q1, rfl, rfl, rfl, h1, r1⟩ := trodAll_cons r0
  obtain ⟨rfl, rfl, rfl⟩ := trodAll_nil r1
  obtain rfl : args = #[v0, v1] := by cases args; simp_all
  obtain ⟨rfl, rfl⟩ := trodVars_none hV
  obtain ⟨a0, rfl, rfl, rfl, w0⟩ := open_int Tryd.underlying46 (hval 0 46 v0 rfl rfl) h0
  obtain ⟨a1, rfl, rfl, rfl, w1⟩ := open_int Tryd.underlying35 (hval 1 35 v1 rfl rfl) h1
  clear hA0 hval0 hsz0 hsz
  refine (P.shelfmarklaw11_ParseLong.walk Pure.ParseLong a0 a1 W w0 w1).mono fun e W' ⟨he, bel⟩ => ?_
  subst he
  exact ⟨_, rfl, _, _, _, [], _, [], hW', trodAll_mk1 (shut_bool Tryd.underlying4 _), (trodAll_cons_mk (shut_int Tryd.underlying46 w0) (trodAll_cons_mk (shut_int Tryd.underlying35 w1) trodAll_mk0)), rfl, bel.frame _, fun h => by cases h⟩
theorem over : Rows.parseLongRow.holds Tryd.pinned (OpenSpec.ofChange Rows.parseLongSpec) :=
  OpenClaim.holds_of_wide 8 Tryd.f8 rfl rfl rfl rfl rfl rfl rfl ⟨rfl, rfl, rfl, rfl, rfl⟩ rfl rfl rfl rfl rfl (by kernel_rfl) Tryd.func8 (by kernel_rfl)
    (of_decide_eq_true (by kernel_rfl)) (by unfold Func.isWrapper; first | (rw [if_pos (by decide +kernel)]; kernel_rfl) | (rw [if_neg (by decide +kernel)]; exact ⟨rfl, rfl⟩))
    (fun os started H enc _ => lifted os started H enc)
theorem proved : Rows.ParseLongSaid := over
theorem card : Rows.ParseLongCardSaid :=
  Claim7.holds_tied_plain_at .later [] [.data, .pinned] true (true, "b5780a01a299d0a4eb1cfa2f9637976170e62c33c800462f2ef118ded39c1aa3") false
    proved (fun _ h => by cases h) (by kernel_rfl) (fun _ h => by cases h) parseLong_row_tie rfl ⟨rfl, rfl⟩ (by kernel_rfl) rfl
    (fun f fn hf hfn => by
      obtain rfl : f = 8 := Option.some.inj ((show Tryd.prog.funcNamed "shelfmark/shelfmarklaw11.ParseLong" = some 8 by kernel_rfl).symm.trans hf) |>.symm
      obtain rfl : fn = Tryd.f8 := (Option.some.inj (Tryd.func8.symm.trans hfn)).symm
      exact ⟨by kernel_rfl, fun j t ht => by
        have hall : (Tryd.f8.params.all fun u => !Tryd.prog.wantsStandIn u) = true := by kernel_rfl
        have hm := Array.mem_of_getElem? ht
        exact (show Tryd.prog.wantsStandIn t = false by simpa using Array.all_eq_true_iff_forall_mem.1 hall t hm)⟩)
    (by kernel_rfl)
end Go.Proofs.YtncokgdfkbgflaaDoor.parseLong
namespace Go.Proofs.YtncokgdfkbgflaaDoor
theorem parseLong_holds : Rows.ParseLongCardSaid := parseLong.card
end Go.Proofs.YtncokgdfkbgflaaDoor
