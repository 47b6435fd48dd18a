/- Printed for this claim by a program (wip/tools/print2.py over the kit's print): functions of the given program as plain Lean functions, and that the machine's calls do what they say. -/
import Derived.Test.YtncokgdfkbgflaaPx0
import Derived.Test.YtncokgdfkbgflaaPx8
import Derived.Test.YtncokgdfkbgflaaG2
import Derived.Test.YtncokgdfkbgflaaG3
namespace Go.Proofs.Ytncokgdfkbgflaa.P
open Go.RowKit Go.Proofs.YtncokgdfkbgflaaW.PrintWords Go.Proofs.YtncokgdfkbgflaaW.PrintLast Go.Proofs.YtncokgdfkbgflaaW.PrintMore
attribute [local go_sem] max2_int min2_int max_two min_two max_three min_three max_four min_four   -- for this text's walks alone
set_option linter.unusedVariables false
set_option linter.unusedSimpArgs false

/-! ### nar_May: function 14 -/
mutual
def nar_May.j0 : Nat → List (S37) → Bool → Option (Bool)
  | 0, _, _ => none
  | k + 1, x0, x27 => if x27 = true then (some false) else (if 0 < (x0.length : Int) then (if ((rd_T37 x0 0).f1) = 4 then (if ([] : List (S74)).length < 4398046511104 then (nar_May.j1 k x0 (([] : List (S74)) ++ [(⟨(⟨#[]⟩ : ByteArray), (⟨#[]⟩ : ByteArray)⟩ : S74)])) else (none)) else (nar_May.j1 k x0 ([] : List (S74)))) else (none))
def nar_May.j1 : Nat → List (S37) → List (S74) → Option (Bool)
  | 0, _, _ => none
  | k + 1, x0, x3 => if 1 ≤ (x0.length : Int) then ((some (x0.drop 1 : List (S37))).bind fun y185 => (nar_May.l0 k x3 y185 (y185.length : Int) 0)) else (none)
def nar_May.l0 : Nat → List (S74) → List (S37) → Int → Int → Option (Bool)
  | 0, _, _, _, _ => none
  | k + 1, x3, x38, x39, x40 => if x40 < x39 then (if 0 ≤ x40 then (if x40 < (x38.length : Int) then ((nar_within.f x3 ((rd_T37 x38 x40).f0)).bind fun bt191 => (if bt191.2.2 = true then ((nar_MayName.f bt191.2.1).bind fun t194 => (if t194 = true then (if 0 ≤ bt191.1 then (if bt191.1 < (x3.length : Int) then (if (Op.bytesLess bt191.2.1.toList (((rd_T74 x3 bt191.1).f1).toList) || bt191.2.1.toList == (((rd_T74 x3 bt191.1).f1).toList)) = true then (nar_May.j3 k x3 bt191.1 bt191.2.1 x38 x39 x40 true ((rd_T37 x38 x40).f0) ((rd_T37 x38 x40).f1) ((rd_T37 x38 x40).f2)) else (nar_May.j3 k x3 bt191.1 bt191.2.1 x38 x39 x40 (decide (bt191.1 ≥ 64)) ((rd_T37 x38 x40).f0) ((rd_T37 x38 x40).f1) ((rd_T37 x38 x40).f2))) else (none)) else (none)) else (nar_May.j3 k x3 bt191.1 bt191.2.1 x38 x39 x40 true ((rd_T37 x38 x40).f0) ((rd_T37 x38 x40).f1) ((rd_T37 x38 x40).f2)))) else (nar_May.j3 k x3 bt191.1 bt191.2.1 x38 x39 x40 true ((rd_T37 x38 x40).f0) ((rd_T37 x38 x40).f1) ((rd_T37 x38 x40).f2)))) else (none)) else (none)) else (some true)
def nar_May.j3 : Nat → List (S74) → Int → ByteArray → List (S37) → Int → Int → Bool → ByteArray → Int → ByteArray → Option (Bool)
  | 0, _, _, _, _, _, _, _, _, _, _ => none
  | k + 1, x3, x6, x7, x38, x39, x40, x71, x191000, x191001, x191002 => if x71 = true then (some false) else (if 0 ≤ (wrap64 (x6 + 1)) then (if (wrap64 (x6 + 1)) ≤ (x3.length : Int) then ((some (x3.take ((wrap64 (x6 + 1)) : Int).toNat : List (S74))).bind fun y196 => (if 0 ≤ x6 then (if x6 < (y196.length : Int) then ((some (y196.set (x6 : Int).toNat (⟨(rd_T74 y196 x6).f0, x7⟩ : S74) : List (S74))).bind fun y199 => (if x191001 = 4 then (if y199.length < 4398046511104 then (nar_May.l0 k (y199 ++ [(⟨x191000, (⟨#[]⟩ : ByteArray)⟩ : S74)]) x38 x39 (wrap64 (x40 + 1))) else (none)) else (nar_May.l0 k y199 x38 x39 (wrap64 (x40 + 1))))) else (none)) else (none))) else (none)) else (none))
end
def nar_May.f (k : Nat) (l0 : List (S37)) : Option (Bool) := if (l0.length : Int) < 1 then (nar_May.j0 k l0 true) else (if (l0.length : Int) > 256 then (nar_May.j0 k l0 true) else (if 0 < (l0.length : Int) then (if ((rd_T37 l0 0).f0).toList = ([] : List UInt8) then ((containsMay1.f l0).bind fun t180 => (nar_May.j0 k l0 t180)) else (nar_May.j0 k l0 true)) else (none)))
theorem nar_May.mono_l : ∀ k, (∀ y0 y1, LeO (nar_May.j0 k y0 y1) (nar_May.j0 (k + 1) y0 y1)) ∧ (∀ y0 y1, LeO (nar_May.j1 k y0 y1) (nar_May.j1 (k + 1) y0 y1)) ∧ (∀ y0 y1 y2 y3, LeO (nar_May.l0 k y0 y1 y2 y3) (nar_May.l0 (k + 1) y0 y1 y2 y3)) ∧ (∀ y0 y1 y2 y3 y4 y5 y6 y7 y8 y9, LeO (nar_May.j3 k y0 y1 y2 y3 y4 y5 y6 y7 y8 y9) (nar_May.j3 (k + 1) y0 y1 y2 y3 y4 y5 y6 y7 y8 y9))
  | 0 => ⟨fun _ _ r h => by simp [nar_May.j0] at h, fun _ _ r h => by simp [nar_May.j1] at h, fun _ _ _ _ r h => by simp [nar_May.l0] at h, fun _ _ _ _ _ _ _ _ _ _ r h => by simp [nar_May.j3] at h⟩
  | k + 1 => by
    obtain ⟨ih0, ih1, ih2, ih3⟩ := nar_May.mono_l k
    refine ⟨?_, ?_, ?_, ?_⟩
    · intro y0 y1
      unfold nar_May.j0
      repeat' first
      | (with_reducible exact ih0 _ _)
      | (with_reducible exact ih1 _ _)
      | (with_reducible exact ih2 _ _ _ _)
      | (with_reducible exact ih3 _ _ _ _ _ _ _ _ _ _)
      | (with_reducible exact LeO.refl _)
      | (with_reducible exact LeO.none _)
      | (with_reducible refine LeO.ite ?_ ?_)
      | (with_reducible refine LeO.bind ?_ (fun _ => ?_))
      | exact ih0 _ _
      | exact ih1 _ _
      | exact ih2 _ _ _ _
      | exact ih3 _ _ _ _ _ _ _ _ _ _
      | exact LeO.none _
      | refine LeO.ite ?_ ?_
      | refine LeO.bind ?_ (fun _ => ?_)
    · intro y0 y1
      unfold nar_May.j1
      repeat' first
      | (with_reducible exact ih0 _ _)
      | (with_reducible exact ih1 _ _)
      | (with_reducible exact ih2 _ _ _ _)
      | (with_reducible exact ih3 _ _ _ _ _ _ _ _ _ _)
      | (with_reducible exact LeO.refl _)
      | (with_reducible exact LeO.none _)
      | (with_reducible refine LeO.ite ?_ ?_)
      | (with_reducible refine LeO.bind ?_ (fun _ => ?_))
      | exact ih0 _ _
      | exact ih1 _ _
      | exact ih2 _ _ _ _
      | exact ih3 _ _ _ _ _ _ _ _ _ _
      | exact LeO.none _
      | refine LeO.ite ?_ ?_
      | refine LeO.bind ?_ (fun _ => ?_)
    · intro y0 y1 y2 y3
      unfold nar_May.l0
      repeat' first
      | (with_reducible exact ih0 _ _)
      | (with_reducible exact ih1 _ _)
      | (with_reducible exact ih2 _ _ _ _)
      | (with_reducible exact ih3 _ _ _ _ _ _ _ _ _ _)
      | (with_reducible exact LeO.refl _)
      | (with_reducible exact LeO.none _)
      | (with_reducible refine LeO.ite ?_ ?_)
      | (with_reducible refine LeO.bind ?_ (fun _ => ?_))
      | exact ih0 _ _
      | exact ih1 _ _
      | exact ih2 _ _ _ _
      | exact ih3 _ _ _ _ _ _ _ _ _ _
      | exact LeO.none _
      | refine LeO.ite ?_ ?_
      | refine LeO.bind ?_ (fun _ => ?_)
    · intro y0 y1 y2 y3 y4 y5 y6 y7 y8 y9
      unfold nar_May.j3
      repeat' first
      | (with_reducible exact ih0 _ _)
      | (with_reducible exact ih1 _ _)
      | (with_reducible exact ih2 _ _ _ _)
      | (with_reducible exact ih3 _ _ _ _ _ _ _ _ _ _)
      | (with_reducible exact LeO.refl _)
      | (with_reducible exact LeO.none _)
      | (with_reducible refine LeO.ite ?_ ?_)
      | (with_reducible refine LeO.bind ?_ (fun _ => ?_))
      | exact ih0 _ _
      | exact ih1 _ _
      | exact ih2 _ _ _ _
      | exact ih3 _ _ _ _ _ _ _ _ _ _
      | exact LeO.none _
      | refine LeO.ite ?_ ?_
      | refine LeO.bind ?_ (fun _ => ?_)
theorem nar_May.mono : ∀ a0 k, LeO (nar_May.f k a0) (nar_May.f (k + 1) a0) := by
  intro a0 k
  obtain ⟨ih0, ih1, ih2, ih3⟩ := nar_May.mono_l k
  unfold nar_May.f
  repeat' first
      | (with_reducible exact ih0 _ _)
      | (with_reducible exact ih1 _ _)
      | (with_reducible exact ih2 _ _ _ _)
      | (with_reducible exact ih3 _ _ _ _ _ _ _ _ _ _)
      | (with_reducible exact LeO.refl _)
      | (with_reducible exact LeO.none _)
      | (with_reducible refine LeO.ite ?_ ?_)
      | (with_reducible refine LeO.bind ?_ (fun _ => ?_))
      | exact ih0 _ _
      | exact ih1 _ _
      | exact ih2 _ _ _ _
      | exact ih3 _ _ _ _ _ _ _ _ _ _
      | exact LeO.none _
      | refine LeO.ite ?_ ?_
      | refine LeO.bind ?_ (fun _ => ?_)
set_option maxHeartbeats 8000000 in
set_option maxRecDepth 100000 in
theorem nar_May.calls (k : Nat) (A0 : Option Addr) (c0 : Nat) (l0 : List (S37)) (r : Bool) (w : World) (hr0 : Kd.C k37 w A0 l0.length l0) (hc0 : l0.length ≤ c0) (h : nar_May.f k l0 = some r) :
    Calls Try.prog 14 #[.slice A0 l0.length c0] w fun e w' => e = .returned (.bool r) ∧ Below w.heap.size w w' := by
  have hu74 := Try.underlying74
  have hu37 := Try.underlying37
  have HR0 := Aside0.mk hr0
  have HC0 := Aside0.mk hc0
  clear hr0 hc0
  have HB := Aside0.mk (Below.refl w.heap.size w)
  have H : (if (l0.length : Int) < 1 then (nar_May.j0 k l0 true) else (if (l0.length : Int) > 256 then (nar_May.j0 k l0 true) else (if 0 < (l0.length : Int) then (if ((rd_T37 l0 0).f0).toList = ([] : List UInt8) then ((containsMay1.f l0).bind fun t180 => (nar_May.j0 k l0 t180)) else (nar_May.j0 k l0 true)) else (none)))) = some r := h
  clear h
  have HC2 := Aside0.mk H
  clear H
  go_enter Try.func14, Try.ntmps14
  go_upto_region 1 with (fail)
  go_cut [27] (fun v27 wc => ∃ (kq : Nat) (x27_1 : Bool), v27 = .bool x27_1 ∧ Aside0 (nar_May.j0 kq l0 x27_1 = some r) ∧ Aside0 (kq ≤ k) ∧ Aside0 (Below w.heap.size w wc))
  case first =>
    have H := HC2.out
    clear HC2
    by_cases c3 : (l0.length : Int) < 1
    · rw [if_pos c3] at H
      have c3b0 : decide ((l0.length : Int) < 1) = true := decide_eq_true c3
      have c3b1 : decide (l0.length < 1) = true := decide_eq_true (by omega)
      clear c3
      (first | rw [c3b0] | (simp only [i64_w, i32_w]; rw [c3b0]) | skip)
      have H' := Aside0.mk H
      clear H
      go_wp2
      go_meet
      case rel => exact ⟨_, (true), (by first | rfl | (simp; done) | (simp [*]; done) | (congr 1; rw [Bool.eq_iff_iff]; simp [bne]; done) | (rw [Bool.eq_iff_iff]; simp [bne]; done)), H', ⟨by first | omega | exact Nat.le_refl _⟩, ⟨by repeat (first | (with_reducible first | exact HB.out | apply below_alloc | apply pw_below_drewN | apply below_drew1) | exact HB.out)⟩⟩
    · rw [if_neg c3] at H
      have c3b0 : decide ((l0.length : Int) < 1) = false := decide_eq_false c3
      have c3b1 : decide (l0.length < 1) = false := decide_eq_false (by omega)
      clear c3
      (first | rw [c3b0] | (simp only [i64_w, i32_w]; rw [c3b0]) | skip)
      by_cases c4 : (l0.length : Int) > 256
      · rw [if_pos c4] at H
        have c4b0 : decide (256 < (l0.length : Int)) = true := decide_eq_true c4
        have c4b1 : decide (256 < l0.length) = true := decide_eq_true (by omega)
        clear c4
        have H' := Aside0.mk H
        clear H
        go_wp2
        go_meet
        case rel => exact ⟨_, (true), (by first | rfl | (simp; done) | (simp [*]; done) | (congr 1; rw [Bool.eq_iff_iff]; simp [bne]; done) | (rw [Bool.eq_iff_iff]; simp [bne]; done)), H', ⟨by first | omega | exact Nat.le_refl _⟩, ⟨by repeat (first | (with_reducible first | exact HB.out | apply below_alloc | apply pw_below_drewN | apply below_drew1) | exact HB.out)⟩⟩
      · rw [if_neg c4] at H
        have c4b0 : decide (256 < (l0.length : Int)) = false := decide_eq_false c4
        have c4b1 : decide (256 < l0.length) = false := decide_eq_false (by omega)
        clear c4
        by_cases c5 : 0 < (l0.length : Int)
        · rw [if_pos c5] at H
          have c5b0 : decide (0 < (l0.length : Int)) = true := decide_eq_true c5
          have c5b1 : decide (0 < l0.length) = true := decide_eq_true (by omega)
          clear c5
          by_cases c6 : ((rd_T37 l0 0).f0).toList = ([] : List UInt8)
          · rw [if_pos c6] at H
            have c6b0 : (((rd_T37 l0 0).f0).toList == ([] : List UInt8)) = true := beq_iff_eq.mpr c6
            have c6b1 : (((rd_T37 l0 0).f0).toList != ([] : List UInt8)) = false := bne_eq_false_iff_eq.mpr c6
            clear c6
            replace H := Option.bind_eq_some_iff.mp H
            obtain ⟨t180, A70, H⟩ := H
            replace H : (nar_May.j0 k l0 t180) = some r := H
            have A7 := Aside0.mk A70
            clear A70
            have H' := Aside0.mk H
            clear H
            have p179 : 0 ≤ (0 : Int) := (by omega)
            have q179 : 0 < (l0.length : Int) := of_decide_eq_true (by first | (with_reducible assumption) | assumption)
            obtain ⟨ad179, e179, hx179_0, hx179_1, hx179_2⟩ := at_T37 HR0.out 0 p179 q179
            cases e179
            have qi179 : (0 < l0.length) = True := eq_true (by omega)
            (try rw [show ((0 : Int)).toNat = 0 from rfl] at hx179_0)
            (try rw [show 0 * 3 = 0 from rfl] at hx179_0)
            (try rw [Addr.add_zero'] at hx179_0)
            (try rw [show ((0 : Int)).toNat = 0 from rfl] at hx179_1)
            (try rw [show 0 * 3 = 0 from rfl] at hx179_1)
            (try rw [Addr.add_zero'] at hx179_1)
            (try rw [show ((0 : Int)).toNat = 0 from rfl] at hx179_2)
            (try rw [show 0 * 3 = 0 from rfl] at hx179_2)
            (try rw [Addr.add_zero'] at hx179_2)
            replace hx179_0 := (HB.out.cell (World.block_lt_of_cell? w _ hx179_0)).trans hx179_0
            replace hx179_1 := (HB.out.cell (World.block_lt_of_cell? w _ hx179_1)).trans hx179_1
            replace hx179_2 := (HB.out.cell (World.block_lt_of_cell? w _ hx179_2)).trans hx179_2
            replace p179 := eq_true p179
            replace q179 := eq_true q179
            go_wp2_with (first | (go_at_call 41; (with_reducible refine (containsMay1.calls _ _ l0 t180 _ ?side1 ?side2 A7.out).mono ?_); (case side1 => repeat (first | exact (Kd.C_below HR0.out HB.out) | (with_reducible refine Kd.C_alloc ?_ _) | (with_reducible refine Kd.C_drewN ?_ _) | (with_reducible refine Kd.C_drew ?_))); (case side2 => exact HC0.out); rintro e w8 ⟨rfl, hb⟩; have n0_ := Aside0.mk (below_step (by repeat (first | (with_reducible first | exact HB.out | apply below_alloc | apply pw_below_drewN | apply below_drew1) | exact HB.out)) hb); clear HB; have HB := n0_; clear n0_; (try clear hb); (try clear hb2); (try clear hk); (try clear hi)))
            go_meet
            case rel => exact ⟨_, (t180), (by first | rfl | (simp; done) | (simp [*]; done) | (congr 1; rw [Bool.eq_iff_iff]; simp [bne]; done) | (rw [Bool.eq_iff_iff]; simp [bne]; done)), H', ⟨by first | omega | exact Nat.le_refl _⟩, ⟨by repeat (first | (with_reducible first | exact HB.out | apply below_alloc | apply pw_below_drewN | apply below_drew1) | exact HB.out)⟩⟩
          · rw [if_neg c6] at H
            have c6b0 : (((rd_T37 l0 0).f0).toList == ([] : List UInt8)) = false := beq_eq_false_iff_ne.mpr c6
            have c6b1 : (((rd_T37 l0 0).f0).toList != ([] : List UInt8)) = true := bne_iff_ne.mpr c6
            have H' := Aside0.mk H
            clear H
            have p179 : 0 ≤ (0 : Int) := (by omega)
            have q179 : 0 < (l0.length : Int) := of_decide_eq_true (by first | (with_reducible assumption) | assumption)
            obtain ⟨ad179, e179, hx179_0, hx179_1, hx179_2⟩ := at_T37 HR0.out 0 p179 q179
            cases e179
            have qi179 : (0 < l0.length) = True := eq_true (by omega)
            (try rw [show ((0 : Int)).toNat = 0 from rfl] at hx179_0)
            (try rw [show 0 * 3 = 0 from rfl] at hx179_0)
            (try rw [Addr.add_zero'] at hx179_0)
            (try rw [show ((0 : Int)).toNat = 0 from rfl] at hx179_1)
            (try rw [show 0 * 3 = 0 from rfl] at hx179_1)
            (try rw [Addr.add_zero'] at hx179_1)
            (try rw [show ((0 : Int)).toNat = 0 from rfl] at hx179_2)
            (try rw [show 0 * 3 = 0 from rfl] at hx179_2)
            (try rw [Addr.add_zero'] at hx179_2)
            replace hx179_0 := (HB.out.cell (World.block_lt_of_cell? w _ hx179_0)).trans hx179_0
            replace hx179_1 := (HB.out.cell (World.block_lt_of_cell? w _ hx179_1)).trans hx179_1
            replace hx179_2 := (HB.out.cell (World.block_lt_of_cell? w _ hx179_2)).trans hx179_2
            replace p179 := eq_true p179
            replace q179 := eq_true q179
            go_wp2
            go_meet
            case rel => exact ⟨_, (true), (by first | rfl | (simp; done) | (simp [*]; done) | (congr 1; rw [Bool.eq_iff_iff]; simp [bne]; done) | (rw [Bool.eq_iff_iff]; simp [bne]; done)), H', ⟨by first | omega | exact Nat.le_refl _⟩, ⟨by repeat (first | (with_reducible first | exact HB.out | apply below_alloc | apply pw_below_drewN | apply below_drew1) | exact HB.out)⟩⟩
        · rw [if_neg c5] at H
          exact absurd H (by simp)
  case rest =>
    clear HC2
    try clear c1
    try clear p1
    try clear q1
    try clear hx1
    try clear qi1
    try clear p2
    try clear c3
    try clear c3b0
    try clear c3b1
    try clear c4
    try clear c4b0
    try clear c4b1
    try clear c5
    try clear c5b0
    try clear c5b1
    try clear c6
    try clear c6b0
    try clear c6b1
    try clear hx179_0
    try clear hx179_1
    try clear hx179_2
    try clear p179
    try clear q179
    obtain ⟨kq, x27_1, rfl, HA, HJ1, HB⟩ := hcut
    cases kq with
    | zero => exact absurd HA.out (by simp [nar_May.j0])
    | succ kj1 =>
      have H := HA.out
      clear HA
      simp only [nar_May.j0] at H
      by_cases c9 : x27_1 = true
      · subst c9
        have H1 : (some false) = some r := by rw [if_pos rfl] at H; exact H
        clear H
        have H := H1
        clear H1
        obtain rfl := Option.some.inj H
        go_wp2
        go_ret
        exact ⟨by first | rfl | (simp [errW_none, errW_some] <;> rfl) | (simp [*, errW_none, errW_some] <;> rfl), by repeat (first | (with_reducible first | exact HB.out | apply below_alloc | apply pw_below_drewN | apply below_drew1) | exact HB.out)⟩
      · replace c9 := Bool.eq_false_iff.mpr c9
        subst c9
        have H1 : (if 0 < (l0.length : Int) then (if ((rd_T37 l0 0).f1) = 4 then (if ([] : List (S74)).length < 4398046511104 then (nar_May.j1 kj1 l0 (([] : List (S74)) ++ [(⟨(⟨#[]⟩ : ByteArray), (⟨#[]⟩ : ByteArray)⟩ : S74)])) else (none)) else (nar_May.j1 kj1 l0 ([] : List (S74)))) else (none)) = some r := by rw [if_neg (show ¬ (false = true) by decide)] at H; exact H
        clear H
        have H := H1
        clear H1
        by_cases c10 : 0 < (l0.length : Int)
        · rw [if_pos c10] at H
          have c10b0 : decide (0 < (l0.length : Int)) = true := decide_eq_true c10
          have c10b1 : decide (0 < l0.length) = true := decide_eq_true (by omega)
          clear c10
          have HC11 := Aside0.mk H
          clear H
          have p181 : 0 ≤ (0 : Int) := (by omega)
          have q181 : 0 < (l0.length : Int) := of_decide_eq_true (by first | (with_reducible assumption) | assumption)
          obtain ⟨ad181, e181, hx181_0, hx181_1, hx181_2⟩ := at_T37 HR0.out 0 p181 q181
          cases e181
          have qi181 : (0 < l0.length) = True := eq_true (by omega)
          (try rw [show ((0 : Int)).toNat = 0 from rfl] at hx181_0)
          (try rw [show 0 * 3 = 0 from rfl] at hx181_0)
          (try rw [Addr.add_zero'] at hx181_0)
          (try rw [show ((0 : Int)).toNat = 0 from rfl] at hx181_1)
          (try rw [show 0 * 3 = 0 from rfl] at hx181_1)
          (try rw [Addr.add_zero'] at hx181_1)
          (try rw [show ((0 : Int)).toNat = 0 from rfl] at hx181_2)
          (try rw [show 0 * 3 = 0 from rfl] at hx181_2)
          (try rw [Addr.add_zero'] at hx181_2)
          replace hx181_0 := (HB.out.cell (World.block_lt_of_cell? w _ hx181_0)).trans hx181_0
          replace hx181_1 := (HB.out.cell (World.block_lt_of_cell? w _ hx181_1)).trans hx181_1
          replace hx181_2 := (HB.out.cell (World.block_lt_of_cell? w _ hx181_2)).trans hx181_2
          replace p181 := eq_true p181
          replace q181 := eq_true q181
          go_upto_if 32 with (fail)
          go_cut [3] (fun v3 wc => ∃ (kq : Nat) (x3_10 : List (S74)), Aside0 (nar_May.j1 kq l0 x3_10 = some r) ∧ Aside0 (kq ≤ kj1) ∧ Aside0 (Kd.R k74 74 wc w.heap.size (fun _ => True) v3 x3_10) ∧ Aside0 (Below w.heap.size w wc))
          case first =>
            have H := HC11.out
            clear HC11
            by_cases c12 : ((rd_T37 l0 0).f1) = 4
            · rw [if_pos c12] at H
              have c12b0 : (((rd_T37 l0 0).f1) == 4) = true := beq_iff_eq.mpr c12
              have c12b1 : (((rd_T37 l0 0).f1) != 4) = false := bne_eq_false_iff_eq.mpr c12
              clear c12
              (first | rw [c12b0] | (simp only [i64_w, i32_w]; rw [c12b0]) | skip)
              by_cases c13 : ([] : List (S74)).length < 4398046511104
              · rw [if_pos c13] at H
                have LMc13 := Aside0.mk c13
                clear c13
                obtain ⟨y182, hy182⟩ : ∃ y_ : List (S74), y_ = (([] : List (S74)) ++ [(⟨(⟨#[]⟩ : ByteArray), (⟨#[]⟩ : ByteArray)⟩ : S74)]) := ⟨_, rfl⟩
                replace H : (nar_May.j1 kj1 l0 y182) = some r := by first | (rw [hy182]; with_reducible exact H) | (have H2_ := (Option.bind_some _ _).symm.trans H; rw [hy182]; with_reducible exact H2_) | (have H2_ := (Option.bind_some _ _).symm.trans H; with_reducible exact H2_) | with_reducible exact H | (rw [hy182]; exact H) | exact H
                have Ny182 := Aside0.mk hy182
                clear hy182
                have H' := Aside0.mk H
                clear H
                go_wp2_with (first | ((with_reducible refine gate_builtin (b := .append) (xs := #[.tmp 33, .tmp 35]) rfl ?_); (try (refine gate_guard (by rfl) ?_; dsimp only)); at_builtin; refine Kd.R_append k74 (w0 := w) w.heap.size rfl (.tmp 33) (.tmp 35) 72 74 (.agg #[(.string ⟨#[]⟩), (.string ⟨#[]⟩)]) 32 rfl Try.underlying72 info74 rfl (by decide) (by omega) (.slice none 0 0) ([] : List (S74)) (⟨(⟨#[]⟩ : ByteArray), (⟨#[]⟩ : ByteArray)⟩ : S74) [.string (⟨#[]⟩ : ByteArray), .string (⟨#[]⟩ : ByteArray)] (fun _ => True) (fun _ => False) rfl rfl ?aP (fun _ hk => hk.elim) ?aF ?aO ?aB ?aS ?aL ?_; (case aP => exact k74_mkM _ _ _ (⟨(⟨#[]⟩ : ByteArray), (⟨#[]⟩ : ByteArray)⟩ : S74)); (case aB => exact (by repeat (first | (with_reducible first | exact HB.out | apply below_alloc | apply pw_below_drewN | apply below_drew1) | exact HB.out))); (case aF => exact (fun _ _ => trivial)); (case aO => exact ((Kd.R_nil _ _ _ _ (fun _ => True)))); (case aS => exact (below_size (by repeat (first | (with_reducible first | exact HB.out | apply below_alloc | apply pw_below_drewN | apply below_drew1) | exact HB.out)))); (case aL => have := LMc13.out; omega); intro v183 w14 ho hb hg hat; rw [← Ny182.out] at ho; have n0_ := Aside0.mk (hb); have n1_ := Aside0.mk (ho); clear HB; have HB := n0_; have HO184 := n1_; clear n0_ n1_; clear ho hb hg hat))
                go_meet
                case rel => exact ⟨_, (y182), H', ⟨by have := HJ1.out; first | omega | exact Nat.le_refl _⟩, ⟨by (with_reducible repeat (first | apply Kd.R_alloc | apply Kd.R_drewN | apply Kd.R_drew)); exact HO184.out⟩, ⟨by repeat (first | (with_reducible first | exact HB.out | apply below_alloc | apply pw_below_drewN | apply below_drew1) | exact HB.out)⟩⟩
              · rw [if_neg c13] at H
                exact absurd H (by simp)
            · rw [if_neg c12] at H
              have c12b0 : (((rd_T37 l0 0).f1) == 4) = false := beq_eq_false_iff_ne.mpr c12
              have c12b1 : (((rd_T37 l0 0).f1) != 4) = true := bne_iff_ne.mpr c12
              (first | rw [c12b0] | (simp only [i64_w, i32_w]; rw [c12b0]) | skip)
              have H' := Aside0.mk H
              clear H
              go_wp2
              go_meet
              case rel => exact ⟨_, (([] : List (S74))), H', ⟨by have := HJ1.out; first | omega | exact Nat.le_refl _⟩, ⟨by first | exact Kd.R_nil _ _ _ _ _ | exact Kd.N_nil _ _ _ _ _ | exact Kd.V_nil _ _ _ _ _ | exact Kd.Q_nil _ _ _ _ _ | exact Kd.S_nil _ _ _ _ _⟩, ⟨by repeat (first | (with_reducible first | exact HB.out | apply below_alloc | apply pw_below_drewN | apply below_drew1) | exact HB.out)⟩⟩
          case rest =>
            clear HC11
            try clear c1
            try clear p1
            try clear q1
            try clear hx1
            try clear qi1
            try clear p2
            try clear c3
            try clear c3b0
            try clear c3b1
            try clear c4
            try clear c4b0
            try clear c4b1
            try clear c5
            try clear c5b0
            try clear c5b1
            try clear c6
            try clear c6b0
            try clear c6b1
            try clear c9
            try clear c10
            try clear c10b0
            try clear c10b1
            try clear c12
            try clear c12b0
            try clear c12b1
            try clear c13
            try clear c14
            try clear hx179_0
            try clear hx179_1
            try clear hx179_2
            try clear hx181_0
            try clear hx181_1
            try clear hx181_2
            try clear p1
            try clear p179
            try clear p181
            try clear p2
            try clear q1
            try clear q179
            try clear q181
            obtain ⟨kq, x3_10, HA, HJ10, HO_3, HB⟩ := hcut
            cases kq with
            | zero => exact absurd HA.out (by simp [nar_May.j1])
            | succ kj10 =>
              have H := HA.out
              clear HA
              simp only [nar_May.j1] at H
              by_cases c15 : 1 ≤ (l0.length : Int)
              · rw [if_pos c15] at H
                have c15b0 := eq_true c15
                have c15b1 : decide (1 ≤ (l0.length : Int)) = true := decide_eq_true c15
                clear c15
                obtain ⟨y185, hy185⟩ : ∃ y_ : List (S37), y_ = (l0.drop 1) := ⟨_, rfl⟩
                replace H : (nar_May.l0 kj10 x3_10 y185 (y185.length : Int) 0) = some r := by first | (rw [hy185]; with_reducible exact H) | (have H2_ := (Option.bind_some _ _).symm.trans H; rw [hy185]; with_reducible exact H2_) | (have H2_ := (Option.bind_some _ _).symm.trans H; with_reducible exact H2_) | with_reducible exact H | (rw [hy185]; exact H) | exact H
                have Ny185 := Aside0.mk hy185
                clear hy185
                have H' := Aside0.mk H
                clear H
                have q16 : (1 : Int) ≤ ((l0.length : Int) : Int) := of_decide_eq_true (by first | (with_reducible assumption) | assumption)
                obtain ⟨i016, hi016, _, hsz16, _⟩ := info_parts info37
                have hroom16 : l0.length ≤ c0 := HC0.out
                have hC16 : Kd.C k37 _ (some ad181) l0.length l0 := HR0.out
                have hcut16 := cut_from (P := Try.prog) 25 37 .i64 Try.underlying25 hi016 3 hsz16 (some ad181) l0.length c0 1 (by omega) q16
                have hr16 := Kd.C_drop (m := (1 : Int).toNat) (c := c0) hC16 (by omega) hroom16
                obtain ⟨A16, hA16⟩ : ∃ A1, A1 = (if c0 = (1 : Int).toNat then (some ad181) else ((some ad181) : Option Addr).map (·.add ((1 : Int).toNat * 3))) := ⟨_, rfl⟩
                obtain ⟨c16, hc16⟩ : ∃ c1, c1 = c0 - (1 : Int).toNat := ⟨_, rfl⟩
                have hy16 : y185.length = l0.length - (1 : Int).toNat := (by rw [Ny185.out, List.length_drop] <;> omega)
                rw [show (l0).drop (1 : Int).toNat = y185 from Ny185.out.symm] at hr16
                replace hr16 : Kd.C k37 _ A16 y185.length y185 := (by rw [hA16]; exact hr16)
                rw [← hy16, ← hA16, ← hc16] at hcut16
                have HR188 := Aside0.mk hr16
                have HC188 := Aside0.mk (show y185.length ≤ c16 from by rw [hy16, hc16]; exact Nat.sub_le_sub_right hroom16 _)
                clear hr16 hC16 hroom16 hi016 hsz16 hc16
                have KY16 := Aside0.mk hy16
                have KA16 := Aside0.mk hA16
                clear hy16 hA16
                replace q16 := eq_true q16
                go_wp2
                go_loopg [3, 40] kj10 (fun kq v3 v40 w' => ∃ (x3_3 : List (S74)) (x40_3 : Int), v40 = .int .i64 x40_3 ∧ Aside0 (nar_May.l0 kq x3_3 y185 (y185.length : Int) x40_3 = some r) ∧ Aside0 (kq ≤ kj10) ∧ Aside0 (Kd.R k74 74 w' w.heap.size (fun _ => True) v3 x3_3) ∧ Aside0 (Below w.heap.size w w'))
                case atStart => exact ⟨(x3_10), (0), (by first | rfl | (simp; done) | (simp [*]; done) | (congr 1; rw [Bool.eq_iff_iff]; simp [bne]; done) | (rw [Bool.eq_iff_iff]; simp [bne]; done)), H', ⟨Nat.le_refl _⟩, ⟨by (with_reducible repeat (first | apply Kd.R_alloc | apply Kd.R_drewN | apply Kd.R_drew)); exact HO_3.out⟩, ⟨by repeat (first | (with_reducible first | exact HB.out | apply below_alloc | apply pw_below_drewN | apply below_drew1) | exact HB.out)⟩⟩
                case round =>
                  clear H'
                  try clear c1
                  try clear p1
                  try clear q1
                  try clear hx1
                  try clear qi1
                  try clear p2
                  try clear c3
                  try clear c3b0
                  try clear c3b1
                  try clear c4
                  try clear c4b0
                  try clear c4b1
                  try clear c5
                  try clear c5b0
                  try clear c5b1
                  try clear c6
                  try clear c6b0
                  try clear c6b1
                  try clear c9
                  try clear c10
                  try clear c10b0
                  try clear c10b1
                  try clear c12
                  try clear c12b0
                  try clear c12b1
                  try clear c13
                  try clear c14
                  try clear c15
                  try clear c15b0
                  try clear c15b1
                  try clear c16
                  try clear q16
                  try clear hx179_0
                  try clear hx179_1
                  try clear hx179_2
                  try clear hx181_0
                  try clear hx181_1
                  try clear hx181_2
                  try clear p1
                  try clear p179
                  try clear p181
                  try clear p2
                  try clear q1
                  try clear q16
                  try clear q179
                  try clear q181
                  obtain ⟨x3_3, x40_3, rfl, HA, HK3, HO_3, HB⟩ := hrel
                  cases gk with
                  | zero => exact absurd HA.out (by simp [nar_May.l0])
                  | succ k3 =>
                    have H := HA.out
                    clear HA
                    simp only [nar_May.l0] at H
                    by_cases c17 : x40_3 < (y185.length : Int)
                    · rw [if_pos c17] at H
                      have c17b0 : decide (x40_3 < (y185.length : Int)) = true := decide_eq_true c17
                      clear c17
                      by_cases c18 : 0 ≤ x40_3
                      · rw [if_pos c18] at H
                        have c18b0 : decide (0 ≤ x40_3) = true := decide_eq_true c18
                        clear c18
                        by_cases c19 : x40_3 < (y185.length : Int)
                        · rw [if_pos c19] at H
                          have c19b0 : decide (x40_3 < (y185.length : Int)) = true := decide_eq_true c19
                          clear c19
                          replace H := Option.bind_eq_some_iff.mp H
                          obtain ⟨⟨t191, t192, t193⟩, A200, H⟩ := H
                          replace H : (if t193 = true then ((nar_MayName.f t192).bind fun t194 => (if t194 = true then (if 0 ≤ t191 then (if t191 < (x3_3.length : Int) then (if (Op.bytesLess t192.toList (((rd_T74 x3_3 t191).f1).toList) || t192.toList == (((rd_T74 x3_3 t191).f1).toList)) = true then (nar_May.j3 k3 x3_3 t191 t192 y185 (y185.length : Int) x40_3 true ((rd_T37 y185 x40_3).f0) ((rd_T37 y185 x40_3).f1) ((rd_T37 y185 x40_3).f2)) else (nar_May.j3 k3 x3_3 t191 t192 y185 (y185.length : Int) x40_3 (decide (t191 ≥ 64)) ((rd_T37 y185 x40_3).f0) ((rd_T37 y185 x40_3).f1) ((rd_T37 y185 x40_3).f2))) else (none)) else (none)) else (nar_May.j3 k3 x3_3 t191 t192 y185 (y185.length : Int) x40_3 true ((rd_T37 y185 x40_3).f0) ((rd_T37 y185 x40_3).f1) ((rd_T37 y185 x40_3).f2)))) else (nar_May.j3 k3 x3_3 t191 t192 y185 (y185.length : Int) x40_3 true ((rd_T37 y185 x40_3).f0) ((rd_T37 y185 x40_3).f1) ((rd_T37 y185 x40_3).f2))) = some r := H
                          have A20 := Aside0.mk A200
                          clear A200
                          have HC21 := Aside0.mk H
                          clear H
                          have p189 : 0 ≤ (x40_3 : Int) := of_decide_eq_true (by first | (with_reducible assumption) | assumption)
                          have q189 : x40_3 < (y185.length : Int) := of_decide_eq_true (by first | (with_reducible assumption) | assumption)
                          obtain ⟨ad189, e189, hx189_0, hx189_1, hx189_2⟩ := at_T37 HR188.out x40_3 p189 q189
                          cases e189
                          replace hx189_0 := (HB.out.cell (World.block_lt_of_cell? w _ hx189_0)).trans hx189_0
                          replace hx189_1 := (HB.out.cell (World.block_lt_of_cell? w _ hx189_1)).trans hx189_1
                          replace hx189_2 := (HB.out.cell (World.block_lt_of_cell? w _ hx189_2)).trans hx189_2
                          replace p189 := eq_true p189
                          replace q189 := eq_true q189
                          go_upto_region 10 with (first | ((with_reducible refine gate_dst (N := 5) rfl ?_); (try (refine gate_guard (by rfl) ?_; dsimp only)); refine box_event ?hg (N := 5) ?hd (cs := #[.string (⟨#[]⟩ : ByteArray), .int .i64 0, .string (⟨#[]⟩ : ByteArray)]) (t := 37) ?hr ?_; (case hd => rfl); (case hg => rfl); (case hr => first | (go_simp; done) | (go_simp; rfl)); intro gb190 hg w22 hbox hb; have n0_ := Aside0.mk (Kd.R_below (by (with_reducible repeat (first | apply Kd.R_alloc | apply Kd.R_drewN | apply Kd.R_drew)); exact HO_3.out) hb); have n1_ := Aside0.mk (below_step (by repeat (first | (with_reducible first | exact HB.out | apply below_alloc | apply pw_below_drewN | apply below_drew1) | exact HB.out)) hb); have n2_ := Aside0.mk (hbox); have n3_ := Aside0.mk ((by rw [hg]; exact (below_size (by repeat (first | (with_reducible first | exact HB.out | apply below_alloc | apply pw_below_drewN | apply below_drew1) | exact HB.out))) : w.heap.size ≤ gb190)); have n4_ := Aside0.mk ((by rw [hg]; exact (below_size (by repeat (first | (with_reducible first | exact HB.out | apply below_alloc | apply pw_below_drewN | apply below_drew1) | exact HB.out))) : w.heap.size ≤ gb190)); clear HO_3; clear HB; have HO_3 := n0_; have HB := n1_; have BK190 := n2_; have GW190 := n3_; have GE190 := n4_; clear n0_ n1_ n2_ n3_ n4_; clear hb hbox hg; have hcz23_0 : w22.cell? ⟨gb190, 0, none⟩ = some (.string (⟨#[]⟩ : ByteArray)) := (blk_cell BK190.out 0).trans rfl; have hcz23_1 : w22.cell? ⟨gb190, 1, none⟩ = some (.int .i64 0) := (blk_cell BK190.out 1).trans rfl; have hcz23_2 : w22.cell? ⟨gb190, 2, none⟩ = some (.string (⟨#[]⟩ : ByteArray)) := (blk_cell BK190.out 2).trans rfl; have hfz23_0 := blk_frozen BK190.out 0; have hfz23_1 := blk_frozen BK190.out 1; have hfz23_2 := blk_frozen BK190.out 2; obtain ⟨Ao24, co24, eo24⟩ := Kd.R_slice HO_3.out; subst eo24) | ((with_reducible refine gate_callee (f := 44) rfl ?_); refine goesL_ (some 48) rfl rfl Try.func44 (by kernel_rfl) rfl #[.slice Ao24 x3_3.length co24, .string ((rd_T37 y185 x40_3).f0)] rfl (by (try simp only [List.map_toArray, List.map_cons, List.map_nil]); first | done | rfl | (simp only [List.length_drop, List.length_take]; rfl)) ?_; (with_reducible refine (nar_within.calls _ _ x3_3 ((rd_T37 y185 x40_3).f0) t191 t192 t193 _ ?side1 ?side2 A20.out).mono ?_); (case side1 => refine (Kd.R_reads' (e := 74) (base := w.heap.size) (ok := fun k_ => True) (n := x3_3.length) (c := co24) ?_).2.2; exact (by (with_reducible repeat (first | apply Kd.R_alloc | apply Kd.R_drewN | apply Kd.R_drew)); exact (Kd.R_mono (Kd.R_far (p := ⟨gb190, 2, none⟩) (Kd.R_far (p := ⟨gb190, 1, none⟩) (Kd.R_far (p := ⟨gb190, 0, none⟩) (Kd.R_types HO_3.out BK190.out (by decide)) (fun _ hk => hk.2) (.string ((rd_T37 y185 x40_3).f0))) (fun _ hk => hk.2) (.int .i64 ((rd_T37 y185 x40_3).f1))) (fun _ hk => hk.2) (.string ((rd_T37 y185 x40_3).f2))) (fun _ h_ => h_.1)))); (case side2 => exact (Kd.R_reads' HO_3.out).2.1); rintro e w25 ⟨rfl, hb⟩; refine ⟨_, rfl, ?_⟩; have n0_ := Aside0.mk (Kd.R_below (by (with_reducible repeat (first | apply Kd.R_alloc | apply Kd.R_drewN | apply Kd.R_drew)); exact (Kd.R_mono (Kd.R_far (p := ⟨gb190, 2, none⟩) (Kd.R_far (p := ⟨gb190, 1, none⟩) (Kd.R_far (p := ⟨gb190, 0, none⟩) (Kd.R_types HO_3.out BK190.out (by decide)) (fun _ hk => hk.2) (.string ((rd_T37 y185 x40_3).f0))) (fun _ hk => hk.2) (.int .i64 ((rd_T37 y185 x40_3).f1))) (fun _ hk => hk.2) (.string ((rd_T37 y185 x40_3).f2))) (fun _ h_ => h_.1))) hb); have n1_ := Aside0.mk (blk_below (g := gb190) (o := .cells #[.string ((rd_T37 y185 x40_3).f0), .int .i64 ((rd_T37 y185 x40_3).f1), .string ((rd_T37 y185 x40_3).f2)] 37 (0, 0)) (by (with_reducible repeat (first | refine blk_drewN ?_ _ | refine blk_drew ?_ | refine blk_alloc ?_ _)); refine blk_put (cs := #[.string ((rd_T37 y185 x40_3).f0), .int .i64 ((rd_T37 y185 x40_3).f1), .string (⟨#[]⟩ : ByteArray)]) ?_ 2 _ rfl; (with_reducible repeat (first | refine blk_drewN ?_ _ | refine blk_drew ?_ | refine blk_alloc ?_ _)); refine blk_put (cs := #[.string ((rd_T37 y185 x40_3).f0), .int .i64 0, .string (⟨#[]⟩ : ByteArray)]) ?_ 1 _ rfl; (with_reducible repeat (first | refine blk_drewN ?_ _ | refine blk_drew ?_ | refine blk_alloc ?_ _)); refine blk_put (cs := #[.string (⟨#[]⟩ : ByteArray), .int .i64 0, .string (⟨#[]⟩ : ByteArray)]) ?_ 0 _ rfl; (with_reducible repeat (first | refine blk_drewN ?_ _ | refine blk_drew ?_ | refine blk_alloc ?_ _)); exact BK190.out) hb); have n2_ := Aside0.mk (below_step (by repeat (first | (with_reducible first | exact HB.out | apply below_alloc | apply pw_below_drewN | apply below_drew1 | refine below_set ?_ GE190.out) | exact HB.out)) hb); clear HO_3; clear BK190; clear HB; have HO_3 := n0_; have BK190 := n1_; have HB := n2_; clear n0_ n1_ n2_; (try clear hb); (try clear hb2); (try clear hk); (try clear hi)))
                          (try simp only [Act.put, List.setIfInBounds_toArray, List.set_cons_zero, List.set_cons_succ])
                          go_cut [71] (fun v71 wc => ∃ (kq : Nat) (x71_20 : Bool), v71 = .bool x71_20 ∧ Aside0 (nar_May.j3 kq x3_3 t191 t192 y185 (y185.length : Int) x40_3 x71_20 ((rd_T37 y185 x40_3).f0) ((rd_T37 y185 x40_3).f1) ((rd_T37 y185 x40_3).f2) = some r) ∧ Aside0 (kq ≤ k3) ∧ Aside0 (Kd.R k74 74 wc w.heap.size (fun _ => True) (.slice Ao24 x3_3.length co24) x3_3) ∧ Aside0 (wc.heap[gb190]? = some (.cells #[.string ((rd_T37 y185 x40_3).f0), .int .i64 ((rd_T37 y185 x40_3).f1), .string ((rd_T37 y185 x40_3).f2)] 37 (0, 0))) ∧ Aside0 (Below w.heap.size w wc))
                          case first =>
                            have H := HC21.out
                            clear HC21
                            by_cases c26 : t193 = true
                            · subst c26
                              have H1 : ((nar_MayName.f t192).bind fun t194 => (if t194 = true then (if 0 ≤ t191 then (if t191 < (x3_3.length : Int) then (if (Op.bytesLess t192.toList (((rd_T74 x3_3 t191).f1).toList) || t192.toList == (((rd_T74 x3_3 t191).f1).toList)) = true then (nar_May.j3 k3 x3_3 t191 t192 y185 (y185.length : Int) x40_3 true ((rd_T37 y185 x40_3).f0) ((rd_T37 y185 x40_3).f1) ((rd_T37 y185 x40_3).f2)) else (nar_May.j3 k3 x3_3 t191 t192 y185 (y185.length : Int) x40_3 (decide (t191 ≥ 64)) ((rd_T37 y185 x40_3).f0) ((rd_T37 y185 x40_3).f1) ((rd_T37 y185 x40_3).f2))) else (none)) else (none)) else (nar_May.j3 k3 x3_3 t191 t192 y185 (y185.length : Int) x40_3 true ((rd_T37 y185 x40_3).f0) ((rd_T37 y185 x40_3).f1) ((rd_T37 y185 x40_3).f2)))) = some r := by rw [if_pos rfl] at H; exact H
                              clear H
                              have H := H1
                              clear H1
                              replace H := Option.bind_eq_some_iff.mp H
                              obtain ⟨t194, A270, H⟩ := H
                              replace H : (if t194 = true then (if 0 ≤ t191 then (if t191 < (x3_3.length : Int) then (if (Op.bytesLess t192.toList (((rd_T74 x3_3 t191).f1).toList) || t192.toList == (((rd_T74 x3_3 t191).f1).toList)) = true then (nar_May.j3 k3 x3_3 t191 t192 y185 (y185.length : Int) x40_3 true ((rd_T37 y185 x40_3).f0) ((rd_T37 y185 x40_3).f1) ((rd_T37 y185 x40_3).f2)) else (nar_May.j3 k3 x3_3 t191 t192 y185 (y185.length : Int) x40_3 (decide (t191 ≥ 64)) ((rd_T37 y185 x40_3).f0) ((rd_T37 y185 x40_3).f1) ((rd_T37 y185 x40_3).f2))) else (none)) else (none)) else (nar_May.j3 k3 x3_3 t191 t192 y185 (y185.length : Int) x40_3 true ((rd_T37 y185 x40_3).f0) ((rd_T37 y185 x40_3).f1) ((rd_T37 y185 x40_3).f2))) = some r := H
                              have A27 := Aside0.mk A270
                              clear A270
                              by_cases c28 : t194 = true
                              · subst c28
                                have H1 : (if 0 ≤ t191 then (if t191 < (x3_3.length : Int) then (if (Op.bytesLess t192.toList (((rd_T74 x3_3 t191).f1).toList) || t192.toList == (((rd_T74 x3_3 t191).f1).toList)) = true then (nar_May.j3 k3 x3_3 t191 t192 y185 (y185.length : Int) x40_3 true ((rd_T37 y185 x40_3).f0) ((rd_T37 y185 x40_3).f1) ((rd_T37 y185 x40_3).f2)) else (nar_May.j3 k3 x3_3 t191 t192 y185 (y185.length : Int) x40_3 (decide (t191 ≥ 64)) ((rd_T37 y185 x40_3).f0) ((rd_T37 y185 x40_3).f1) ((rd_T37 y185 x40_3).f2))) else (none)) else (none)) = some r := by rw [if_pos rfl] at H; exact H
                                clear H
                                have H := H1
                                clear H1
                                by_cases c29 : 0 ≤ t191
                                · rw [if_pos c29] at H
                                  have c29b0 : decide (0 ≤ t191) = true := decide_eq_true c29
                                  clear c29
                                  (first | rw [c29b0] | (simp only [i64_w, i32_w]; rw [c29b0]) | skip)
                                  by_cases c30 : t191 < (x3_3.length : Int)
                                  · rw [if_pos c30] at H
                                    have c30b0 : decide (t191 < (x3_3.length : Int)) = true := decide_eq_true c30
                                    clear c30
                                    by_cases c31 : (Op.bytesLess t192.toList (((rd_T74 x3_3 t191).f1).toList) || t192.toList == (((rd_T74 x3_3 t191).f1).toList)) = true
                                    · rw [if_pos c31] at H
                                      have c31b0 : (Op.bytesLess t192.toList (((rd_T74 x3_3 t191).f1).toList) || t192.toList == (((rd_T74 x3_3 t191).f1).toList)) = true := c31
                                      (try (have c31b1 : decide (Op.bytesLess t192.toList (((rd_T74 x3_3 t191).f1).toList) || t192.toList = (((rd_T74 x3_3 t191).f1).toList)) = true := by simpa using c31))
                                      (try (have c31b2 : (Op.bytesLess t192.toList (((rd_T74 x3_3 t191).f1).toList) || t192.toList == (((rd_T74 x3_3 t191).f1).toList)) = true := by simpa using c31))
                                      clear c31
                                      have H' := Aside0.mk H
                                      clear H
                                      go_wp2_with (first | (go_at_call 21; (with_reducible refine (nar_MayName.calls t192 true _ A27.out).mono ?_); rintro e w32 ⟨rfl, hb⟩; have n0_ := Aside0.mk (Kd.R_below (by (with_reducible repeat (first | apply Kd.R_alloc | apply Kd.R_drewN | apply Kd.R_drew)); exact HO_3.out) hb); have n1_ := Aside0.mk (blk_below (g := gb190) (o := .cells #[.string ((rd_T37 y185 x40_3).f0), .int .i64 ((rd_T37 y185 x40_3).f1), .string ((rd_T37 y185 x40_3).f2)] 37 (0, 0)) (by (with_reducible repeat (first | refine blk_drewN ?_ _ | refine blk_drew ?_ | refine blk_alloc ?_ _)); exact BK190.out) hb); have n2_ := Aside0.mk (below_step (by repeat (first | (with_reducible first | exact HB.out | apply below_alloc | apply pw_below_drewN | apply below_drew1 | refine below_set ?_ GE190.out) | exact HB.out)) hb); clear HO_3; clear BK190; clear HB; have HO_3 := n0_; have BK190 := n1_; have HB := n2_; clear n0_ n1_ n2_; (try clear hb); (try clear hb2); (try clear hk); (try clear hi); have p195 : 0 ≤ (t191 : Int) := of_decide_eq_true (by first | (with_reducible assumption) | assumption); have q195 : t191 < (x3_3.length : Int) := of_decide_eq_true (by first | (with_reducible assumption) | assumption); obtain ⟨ad195, e195, hx195_0, hx195_1⟩ := at_T74 (Kd.R_reads' HO_3.out).2.2 t191 p195 q195; cases e195; replace p195 := eq_true p195; replace q195 := eq_true q195))
                                      go_meet
                                      case rel => exact ⟨_, (true), (by first | rfl | (simp; done) | (simp [*]; done) | (congr 1; rw [Bool.eq_iff_iff]; simp [bne]; done) | (rw [Bool.eq_iff_iff]; simp [bne]; done)), H', ⟨by have := HJ1.out; have := HJ10.out; have := HK3.out; first | omega | exact Nat.le_refl _⟩, ⟨by (with_reducible repeat (first | apply Kd.R_alloc | apply Kd.R_drewN | apply Kd.R_drew)); exact HO_3.out⟩, ⟨by (with_reducible repeat (first | refine blk_drewN ?_ _ | refine blk_drew ?_ | refine blk_alloc ?_ _)); exact BK190.out⟩, ⟨by repeat (first | (with_reducible first | exact HB.out | apply below_alloc | apply pw_below_drewN | apply below_drew1 | refine below_set ?_ GE190.out) | exact HB.out)⟩⟩
                                    · rw [if_neg c31] at H
                                      have c31b0 : (Op.bytesLess t192.toList (((rd_T74 x3_3 t191).f1).toList) || t192.toList == (((rd_T74 x3_3 t191).f1).toList)) = false := by simpa using c31
                                      (try (have c31b1 : decide (Op.bytesLess t192.toList (((rd_T74 x3_3 t191).f1).toList) || t192.toList = (((rd_T74 x3_3 t191).f1).toList)) = false := by simpa using c31))
                                      (try (have c31b2 : (Op.bytesLess t192.toList (((rd_T74 x3_3 t191).f1).toList) || t192.toList == (((rd_T74 x3_3 t191).f1).toList)) = false := by simpa using c31))
                                      (try (have c31b3 : ¬ (Op.bytesLess t192.toList (((rd_T74 x3_3 t191).f1).toList) || t192.toList = (((rd_T74 x3_3 t191).f1).toList)) := by simpa using c31))
                                      clear c31
                                      have H' := Aside0.mk H
                                      clear H
                                      go_wp2_with (first | (go_at_call 21; (with_reducible refine (nar_MayName.calls t192 true _ A27.out).mono ?_); rintro e w33 ⟨rfl, hb⟩; have n0_ := Aside0.mk (Kd.R_below (by (with_reducible repeat (first | apply Kd.R_alloc | apply Kd.R_drewN | apply Kd.R_drew)); exact HO_3.out) hb); have n1_ := Aside0.mk (blk_below (g := gb190) (o := .cells #[.string ((rd_T37 y185 x40_3).f0), .int .i64 ((rd_T37 y185 x40_3).f1), .string ((rd_T37 y185 x40_3).f2)] 37 (0, 0)) (by (with_reducible repeat (first | refine blk_drewN ?_ _ | refine blk_drew ?_ | refine blk_alloc ?_ _)); exact BK190.out) hb); have n2_ := Aside0.mk (below_step (by repeat (first | (with_reducible first | exact HB.out | apply below_alloc | apply pw_below_drewN | apply below_drew1 | refine below_set ?_ GE190.out) | exact HB.out)) hb); clear HO_3; clear BK190; clear HB; have HO_3 := n0_; have BK190 := n1_; have HB := n2_; clear n0_ n1_ n2_; (try clear hb); (try clear hb2); (try clear hk); (try clear hi); have p195 : 0 ≤ (t191 : Int) := of_decide_eq_true (by first | (with_reducible assumption) | assumption); have q195 : t191 < (x3_3.length : Int) := of_decide_eq_true (by first | (with_reducible assumption) | assumption); obtain ⟨ad195, e195, hx195_0, hx195_1⟩ := at_T74 (Kd.R_reads' HO_3.out).2.2 t191 p195 q195; cases e195; replace p195 := eq_true p195; replace q195 := eq_true q195))
                                      go_meet
                                      case rel => exact ⟨_, (decide (t191 ≥ 64)), (by first | rfl | (simp; done) | (simp [*]; done) | (congr 1; rw [Bool.eq_iff_iff]; simp [bne]; done) | (rw [Bool.eq_iff_iff]; simp [bne]; done)), H', ⟨by have := HJ1.out; have := HJ10.out; have := HK3.out; first | omega | exact Nat.le_refl _⟩, ⟨by (with_reducible repeat (first | apply Kd.R_alloc | apply Kd.R_drewN | apply Kd.R_drew)); exact HO_3.out⟩, ⟨by (with_reducible repeat (first | refine blk_drewN ?_ _ | refine blk_drew ?_ | refine blk_alloc ?_ _)); exact BK190.out⟩, ⟨by repeat (first | (with_reducible first | exact HB.out | apply below_alloc | apply pw_below_drewN | apply below_drew1 | refine below_set ?_ GE190.out) | exact HB.out)⟩⟩
                                  · rw [if_neg c30] at H
                                    exact absurd H (by simp)
                                · rw [if_neg c29] at H
                                  exact absurd H (by simp)
                              · replace c28 := Bool.eq_false_iff.mpr c28
                                subst c28
                                have H1 : (nar_May.j3 k3 x3_3 t191 t192 y185 (y185.length : Int) x40_3 true ((rd_T37 y185 x40_3).f0) ((rd_T37 y185 x40_3).f1) ((rd_T37 y185 x40_3).f2)) = some r := by rw [if_neg (show ¬ (false = true) by decide)] at H; exact H
                                clear H
                                have H := H1
                                clear H1
                                have H' := Aside0.mk H
                                clear H
                                go_wp2_with (first | (go_at_call 21; (with_reducible refine (nar_MayName.calls t192 false _ A27.out).mono ?_); rintro e w34 ⟨rfl, hb⟩; have n0_ := Aside0.mk (Kd.R_below (by (with_reducible repeat (first | apply Kd.R_alloc | apply Kd.R_drewN | apply Kd.R_drew)); exact HO_3.out) hb); have n1_ := Aside0.mk (blk_below (g := gb190) (o := .cells #[.string ((rd_T37 y185 x40_3).f0), .int .i64 ((rd_T37 y185 x40_3).f1), .string ((rd_T37 y185 x40_3).f2)] 37 (0, 0)) (by (with_reducible repeat (first | refine blk_drewN ?_ _ | refine blk_drew ?_ | refine blk_alloc ?_ _)); exact BK190.out) hb); have n2_ := Aside0.mk (below_step (by repeat (first | (with_reducible first | exact HB.out | apply below_alloc | apply pw_below_drewN | apply below_drew1 | refine below_set ?_ GE190.out) | exact HB.out)) hb); clear HO_3; clear BK190; clear HB; have HO_3 := n0_; have BK190 := n1_; have HB := n2_; clear n0_ n1_ n2_; (try clear hb); (try clear hb2); (try clear hk); (try clear hi)))
                                go_meet
                                case rel => exact ⟨_, (true), (by first | rfl | (simp; done) | (simp [*]; done) | (congr 1; rw [Bool.eq_iff_iff]; simp [bne]; done) | (rw [Bool.eq_iff_iff]; simp [bne]; done)), H', ⟨by have := HJ1.out; have := HJ10.out; have := HK3.out; first | omega | exact Nat.le_refl _⟩, ⟨by (with_reducible repeat (first | apply Kd.R_alloc | apply Kd.R_drewN | apply Kd.R_drew)); exact HO_3.out⟩, ⟨by (with_reducible repeat (first | refine blk_drewN ?_ _ | refine blk_drew ?_ | refine blk_alloc ?_ _)); exact BK190.out⟩, ⟨by repeat (first | (with_reducible first | exact HB.out | apply below_alloc | apply pw_below_drewN | apply below_drew1 | refine below_set ?_ GE190.out) | exact HB.out)⟩⟩
                            · replace c26 := Bool.eq_false_iff.mpr c26
                              subst c26
                              have H1 : (nar_May.j3 k3 x3_3 t191 t192 y185 (y185.length : Int) x40_3 true ((rd_T37 y185 x40_3).f0) ((rd_T37 y185 x40_3).f1) ((rd_T37 y185 x40_3).f2)) = some r := by rw [if_neg (show ¬ (false = true) by decide)] at H; exact H
                              clear H
                              have H := H1
                              clear H1
                              have H' := Aside0.mk H
                              clear H
                              go_wp2
                              go_meet
                              case rel => exact ⟨_, (true), (by first | rfl | (simp; done) | (simp [*]; done) | (congr 1; rw [Bool.eq_iff_iff]; simp [bne]; done) | (rw [Bool.eq_iff_iff]; simp [bne]; done)), H', ⟨by have := HJ1.out; have := HJ10.out; have := HK3.out; first | omega | exact Nat.le_refl _⟩, ⟨by (with_reducible repeat (first | apply Kd.R_alloc | apply Kd.R_drewN | apply Kd.R_drew)); exact HO_3.out⟩, ⟨by (with_reducible repeat (first | refine blk_drewN ?_ _ | refine blk_drew ?_ | refine blk_alloc ?_ _)); exact BK190.out⟩, ⟨by repeat (first | (with_reducible first | exact HB.out | apply below_alloc | apply pw_below_drewN | apply below_drew1 | refine below_set ?_ GE190.out) | exact HB.out)⟩⟩
                          case rest =>
                            clear HC21
                            try clear c1
                            try clear p1
                            try clear q1
                            try clear hx1
                            try clear qi1
                            try clear c2
                            try clear p2
                            try clear c3
                            try clear c3b0
                            try clear c3b1
                            try clear c4
                            try clear c4b0
                            try clear c4b1
                            try clear c5
                            try clear c5b0
                            try clear c5b1
                            try clear c6
                            try clear c6b0
                            try clear c6b1
                            try clear c9
                            try clear c10
                            try clear c10b0
                            try clear c10b1
                            try clear c12
                            try clear c12b0
                            try clear c12b1
                            try clear c13
                            try clear c14
                            try clear c15
                            try clear c15b0
                            try clear c15b1
                            try clear c16
                            try clear q16
                            try clear c17
                            try clear c17b0
                            try clear p17
                            try clear q17
                            try clear hx17
                            try clear qi17
                            try clear c18
                            try clear c18b0
                            try clear p18
                            try clear q18
                            try clear hx18
                            try clear qi18
                            try clear c19
                            try clear c19b0
                            try clear p19
                            try clear q19
                            try clear hx19
                            try clear c26
                            try clear c28
                            try clear c29
                            try clear c29b0
                            try clear c30
                            try clear c30b0
                            try clear c31
                            try clear c31b0
                            try clear c31b1
                            try clear c31b2
                            try clear hcz23_0
                            try clear hcz23_1
                            try clear hcz23_2
                            try clear hfz23_0
                            try clear hfz23_1
                            try clear hfz23_2
                            try clear hx179_0
                            try clear hx179_1
                            try clear hx179_2
                            try clear hx181_0
                            try clear hx181_1
                            try clear hx181_2
                            try clear hx189_0
                            try clear hx189_1
                            try clear hx189_2
                            try clear hx195_0
                            try clear hx195_1
                            try clear p1
                            try clear p179
                            try clear p181
                            try clear p189
                            try clear p195
                            try clear p2
                            try clear q1
                            try clear q16
                            try clear q179
                            try clear q181
                            try clear q189
                            try clear q195
                            obtain ⟨kq, x71_20, rfl, HA, HJ20, HO_3, BK190, HB⟩ := hcut
                            cases kq with
                            | zero => exact absurd HA.out (by simp [nar_May.j3])
                            | succ kj20 =>
                              have H := HA.out
                              clear HA
                              simp only [nar_May.j3] at H
                              by_cases c35 : x71_20 = true
                              · subst c35
                                have H1 : (some false) = some r := by rw [if_pos rfl] at H; exact H
                                clear H
                                have H := H1
                                clear H1
                                obtain rfl := Option.some.inj H
                                go_wp2
                                go_ret
                                exact ⟨by first | rfl | (simp [errW_none, errW_some] <;> rfl) | (simp [*, errW_none, errW_some] <;> rfl), by repeat (first | (with_reducible first | exact HB.out | apply below_alloc | apply pw_below_drewN | apply below_drew1 | refine below_set ?_ GE190.out) | exact HB.out)⟩
                              · replace c35 := Bool.eq_false_iff.mpr c35
                                subst c35
                                have H1 : (if 0 ≤ (wrap64 (t191 + 1)) then (if (wrap64 (t191 + 1)) ≤ (x3_3.length : Int) then ((some (x3_3.take ((wrap64 (t191 + 1)) : Int).toNat : List (S74))).bind fun y196 => (if 0 ≤ t191 then (if t191 < (y196.length : Int) then ((some (y196.set (t191 : Int).toNat (⟨(rd_T74 y196 t191).f0, t192⟩ : S74) : List (S74))).bind fun y199 => (if ((rd_T37 y185 x40_3).f1) = 4 then (if y199.length < 4398046511104 then (nar_May.l0 kj20 (y199 ++ [(⟨((rd_T37 y185 x40_3).f0), (⟨#[]⟩ : ByteArray)⟩ : S74)]) y185 (y185.length : Int) (wrap64 (x40_3 + 1))) else (none)) else (nar_May.l0 kj20 y199 y185 (y185.length : Int) (wrap64 (x40_3 + 1))))) else (none)) else (none))) else (none)) else (none)) = some r := by rw [if_neg (show ¬ (false = true) by decide)] at H; exact H
                                clear H
                                have H := H1
                                clear H1
                                obtain ⟨ji36, hji36⟩ : ∃ j_ : Int, (wrap64 (t191 + 1)) = j_ := ⟨_, rfl⟩
                                replace H : (if 0 ≤ (ji36) then (if (ji36) ≤ (x3_3.length : Int) then ((some (x3_3.take ((ji36) : Int).toNat : List (S74))).bind fun y196 => (if 0 ≤ t191 then (if t191 < (y196.length : Int) then ((some (y196.set (t191 : Int).toNat (⟨(rd_T74 y196 t191).f0, t192⟩ : S74) : List (S74))).bind fun y199 => (if ((rd_T37 y185 x40_3).f1) = 4 then (if y199.length < 4398046511104 then (nar_May.l0 kj20 (y199 ++ [(⟨((rd_T37 y185 x40_3).f0), (⟨#[]⟩ : ByteArray)⟩ : S74)]) y185 (y185.length : Int) (wrap64 (x40_3 + 1))) else (none)) else (nar_May.l0 kj20 y199 y185 (y185.length : Int) (wrap64 (x40_3 + 1))))) else (none)) else (none))) else (none)) else (none)) = some r := by first | (rw [hji36] at H; exact H) | (simp only [hji36] at H ⊢; exact H)
                                have hji36w : (IntKind.i64.wrap (t191 + 1)) = ji36 := (i64_w _).trans hji36
                                by_cases c37 : 0 ≤ (ji36)
                                · rw [if_pos c37] at H
                                  have c37b0 := eq_true c37
                                  have c37b1 : decide (0 ≤ (ji36)) = true := decide_eq_true c37
                                  clear c37
                                  by_cases c38 : (ji36) ≤ (x3_3.length : Int)
                                  · rw [if_pos c38] at H
                                    have c38b0 := eq_true c38
                                    have c38b1 : decide ((ji36) ≤ (x3_3.length : Int)) = true := decide_eq_true c38
                                    clear c38
                                    obtain ⟨y196, hy196⟩ : ∃ y_ : List (S74), y_ = (x3_3.take ((ji36) : Int).toNat) := ⟨_, rfl⟩
                                    replace H : (if 0 ≤ t191 then (if t191 < (y196.length : Int) then ((some (y196.set (t191 : Int).toNat (⟨(rd_T74 y196 t191).f0, t192⟩ : S74) : List (S74))).bind fun y199 => (if ((rd_T37 y185 x40_3).f1) = 4 then (if y199.length < 4398046511104 then (nar_May.l0 kj20 (y199 ++ [(⟨((rd_T37 y185 x40_3).f0), (⟨#[]⟩ : ByteArray)⟩ : S74)]) y185 (y185.length : Int) (wrap64 (x40_3 + 1))) else (none)) else (nar_May.l0 kj20 y199 y185 (y185.length : Int) (wrap64 (x40_3 + 1))))) else (none)) else (none)) = some r := by first | (rw [hy196]; with_reducible exact H) | (have H2_ := (Option.bind_some _ _).symm.trans H; rw [hy196]; with_reducible exact H2_) | (have H2_ := (Option.bind_some _ _).symm.trans H; with_reducible exact H2_) | with_reducible exact H | (rw [hy196]; exact H) | exact H
                                    have Ny196 := Aside0.mk hy196
                                    clear hy196
                                    by_cases c39 : 0 ≤ t191
                                    · rw [if_pos c39] at H
                                      have c39b0 : decide (0 ≤ t191) = true := decide_eq_true c39
                                      clear c39
                                      by_cases c40 : t191 < (y196.length : Int)
                                      · rw [if_pos c40] at H
                                        have c40b0 : decide (t191 < (y196.length : Int)) = true := decide_eq_true c40
                                        clear c40
                                        obtain ⟨y199, hy199⟩ : ∃ y_ : List (S74), y_ = (y196.set (t191 : Int).toNat (⟨(rd_T74 y196 t191).f0, t192⟩ : S74)) := ⟨_, rfl⟩
                                        replace H : (if ((rd_T37 y185 x40_3).f1) = 4 then (if y199.length < 4398046511104 then (nar_May.l0 kj20 (y199 ++ [(⟨((rd_T37 y185 x40_3).f0), (⟨#[]⟩ : ByteArray)⟩ : S74)]) y185 (y185.length : Int) (wrap64 (x40_3 + 1))) else (none)) else (nar_May.l0 kj20 y199 y185 (y185.length : Int) (wrap64 (x40_3 + 1)))) = some r := by first | (rw [hy199]; with_reducible exact H) | (have H2_ := (Option.bind_some _ _).symm.trans H; rw [hy199]; with_reducible exact H2_) | (have H2_ := (Option.bind_some _ _).symm.trans H; with_reducible exact H2_) | with_reducible exact H | (rw [hy199]; exact H) | exact H
                                        have Ny199 := Aside0.mk hy199
                                        clear hy199
                                        by_cases c42 : ((rd_T37 y185 x40_3).f1) = 4
                                        · rw [if_pos c42] at H
                                          have c42b0 : (((rd_T37 y185 x40_3).f1) == 4) = true := beq_iff_eq.mpr c42
                                          have c42b1 : (((rd_T37 y185 x40_3).f1) != 4) = false := bne_eq_false_iff_eq.mpr c42
                                          clear c42
                                          by_cases c43 : y199.length < 4398046511104
                                          · rw [if_pos c43] at H
                                            have LMc43 := Aside0.mk c43
                                            clear c43
                                            obtain ⟨y200, hy200⟩ : ∃ y_ : List (S74), y_ = (y199 ++ [(⟨((rd_T37 y185 x40_3).f0), (⟨#[]⟩ : ByteArray)⟩ : S74)]) := ⟨_, rfl⟩
                                            replace H : (nar_May.l0 kj20 y200 y185 (y185.length : Int) (wrap64 (x40_3 + 1))) = some r := by first | (rw [hy200]; with_reducible exact H) | (have H2_ := (Option.bind_some _ _).symm.trans H; rw [hy200]; with_reducible exact H2_) | (have H2_ := (Option.bind_some _ _).symm.trans H; with_reducible exact H2_) | with_reducible exact H | (rw [hy200]; exact H) | exact H
                                            have Ny200 := Aside0.mk hy200
                                            clear hy200
                                            have H' := Aside0.mk H
                                            clear H
                                            have q44 : ((ji36) : Int) ≤ ((x3_3.length : Int) : Int) := of_decide_eq_true (by first | (with_reducible assumption) | assumption)
                                            obtain ⟨i044, hi044, _, hsz44, _⟩ := info_parts info74
                                            have hcut44 := cut_to (P := Try.prog) 72 74 .i64 Try.underlying72 hi044 Ao24 x3_3.length co24 (ji36) (of_decide_eq_true (by first | (with_reducible assumption) | assumption)) q44 (Kd.R_reads' HO_3.out).2.1
                                            have hr44 := Kd.R_take (m := ((ji36) : Int).toNat) HO_3.out (by omega)
                                            have hy44 : y196.length = ((ji36) : Int).toNat := (by rw [Ny196.out, List.length_take]; omega)
                                            rw [← Ny196.out] at hr44
                                            rw [← hy44] at hr44 hcut44
                                            clear hy44 hi044 hsz44 HO_3
                                            have HO198 := Aside0.mk hr44
                                            clear hr44
                                            replace q44 := eq_true q44
                                            have p41 : 0 ≤ (t191 : Int) := of_decide_eq_true (by first | (with_reducible assumption) | assumption)
                                            have q41 : (t191 : Int) < ((y196.length : Int) : Int) := of_decide_eq_true (by first | (with_reducible assumption) | assumption)
                                            obtain ⟨go41, co41, eo41, gb41, gl41, cl41, HG41⟩ := Kd.R_form HO198.out (by omega)
                                            (first | cases eo41 | (injection eo41 with ea_ en_ ec_; (first | subst ea_ | (injection ea_ with ea_; subst ea_)); subst ec_; clear en_))
                                            have GB41 := Aside0.mk gb41
                                            have GG41 := Aside0.mk HG41
                                            clear gb41 gl41 HG41
                                            obtain ⟨ce41, hcl41, hM41, hcc41, hfr41⟩ := Kd.R_elem HO198.out z74 (t191 : Int) p41 q41
                                            obtain rfl := k74_openM hM41
                                            have hx41_0 : wc.cell? ⟨go41, (t191 : Int).toNat * 2, none⟩ = some (.string ((rd_T74 y196 t191).f0)) := hcc41 0 _ rfl
                                            have hx41_1 : wc.cell? ⟨go41, (t191 : Int).toNat * 2 + 1, none⟩ = some (.string ((rd_T74 y196 t191).f1)) := hcc41 1 _ rfl
                                            have hf41_0 : wc.frozen? ⟨go41, (t191 : Int).toNat * 2, none⟩ = false := hfr41 0
                                            have hf41_1 : wc.frozen? ⟨go41, (t191 : Int).toNat * 2 + 1, none⟩ = false := hfr41 1
                                            clear hcl41 hcc41 hfr41 hM41
                                            replace p41 := eq_true p41
                                            replace q41 := eq_true q41
                                            have HX45 := Aside0.mk (show Kd.R k74 74 wc w.heap.size (fun _ => True) (.slice (some ⟨go41, 0, none⟩) y196.length co24) y196 from (by (with_reducible repeat (first | apply Kd.R_alloc | apply Kd.R_drewN | apply Kd.R_drew)); exact HO198.out))
                                            obtain ⟨ce45, hcl45, hM45, hcc45, hfr45⟩ := Kd.R_elem HX45.out z74 (t191 : Int) (of_decide_eq_true (by first | (with_reducible assumption) | assumption)) (by have h_ : (t191 : Int) < ((y196.length : Int) : Int) := of_decide_eq_true (by first | (with_reducible assumption) | assumption); first | exact h_ | (have e_ := (Kd.R_reads' HO198.out).1; omega) | simpa using h_)
                                            obtain rfl := k74_openM hM45
                                            have HP45 := Kd.R_seg HX45.out (t191 : Int) (of_decide_eq_true (by first | (with_reducible assumption) | assumption)) (by have h_ : (t191 : Int) < ((y196.length : Int) : Int) := of_decide_eq_true (by first | (with_reducible assumption) | assumption); first | exact h_ | (have e_ := (Kd.R_reads' HO198.out).1; omega) | simpa using h_) (seg := [.string t192]) (j := 1) hcl45 hcc45 (show 2 ≤ 2 from by decide) (x' := (⟨(rd_T74 y196 t191).f0, t192⟩ : S74)) (k74_mkM _ _ _ (⟨(rd_T74 y196 t191).f0, t192⟩ : S74) ) (fun _ hk => hk)
                                            have hx45_1 := hcc45 1 _ rfl
                                            (try simp only [show (k74).sz = 2 from rfl, Nat.mul_one, Nat.add_zero] at hx45_1)
                                            have hf45_1 := hfr45 1
                                            (try simp only [show (k74).sz = 2 from rfl, Nat.mul_one, Nat.add_zero] at hf45_1)
                                            clear hcl45 hcc45 hfr45 hM45
                                            go_wp2_with (first | ((with_reducible refine gate_store (t := 9) (p := 80) rfl ?_); refine store_event (t := 9) (p := 80) (v := ?vo_w46) (w1 := (wc.setCell ⟨go41, (t191 : Int).toNat * 2 + 1, none⟩ (.string t192))) ?hg ?ho ?hn ?hr ?_; (case ho => rfl); (case hg => rfl); (case hn => rfl); (case hr => first | (go_simp; done) | (go_simp; rfl)); intro w46 hw; have hg : wc.grownBy w46 (some go41) := (by rw [hw]; exact HP45.2); have hp_ : Kd.R k74 74 w46 w.heap.size (fun _ => True) (.slice (some ⟨go41, 0, none⟩) y196.length co24) y199 := (by rw [hw, Ny199.out]; exact HP45.1); clear HP45; have n0_ := Aside0.mk (hp_); have n1_ := Aside0.mk (blk_grown (g := gb190) (o := .cells #[.string ((rd_T37 y185 x40_3).f0), .int .i64 ((rd_T37 y185 x40_3).f1), .string ((rd_T37 y185 x40_3).f2)] 37 (0, 0)) (by (with_reducible repeat (first | refine blk_drewN ?_ _ | refine blk_drew ?_ | refine blk_alloc ?_ _)); exact BK190.out) hg (Kd.R_ne HO198.out BK190.out (by decide))); have n2_ := Aside0.mk ((by rw [hw]; exact below_set (HB.out) GB41.out : Below w.heap.size w w46)); clear HO198; clear BK190; clear HB; have HO198 := n0_; have BK190 := n1_; have HB := n2_; clear n0_ n1_ n2_; clear hg hw hp_; have hcz47_0 : w46.cell? ⟨gb190, 0, none⟩ = some (.string ((rd_T37 y185 x40_3).f0)) := (blk_cell BK190.out 0).trans rfl; have hcz47_1 : w46.cell? ⟨gb190, 1, none⟩ = some (.int .i64 ((rd_T37 y185 x40_3).f1)) := (blk_cell BK190.out 1).trans rfl; have hcz47_2 : w46.cell? ⟨gb190, 2, none⟩ = some (.string ((rd_T37 y185 x40_3).f2)) := (blk_cell BK190.out 2).trans rfl; have hfz47_0 := blk_frozen BK190.out 0; have hfz47_1 := blk_frozen BK190.out 1; have hfz47_2 := blk_frozen BK190.out 2) | ((with_reducible refine gate_builtin (b := .append) (xs := #[.tmp 84, .tmp 88]) rfl ?_); (try (refine gate_guard (by rfl) ?_; dsimp only)); at_builtin; refine Kd.R_append k74 (w0 := w) w.heap.size rfl (.tmp 84) (.tmp 88) 72 74 (.agg #[(.string ⟨#[]⟩), (.string ⟨#[]⟩)]) 32 rfl Try.underlying72 info74 rfl (by decide) (by omega) (.slice (some ⟨go41, 0, none⟩) y196.length co24) y199 (⟨((rd_T37 y185 x40_3).f0), (⟨#[]⟩ : ByteArray)⟩ : S74) [.string ((rd_T37 y185 x40_3).f0), .string (⟨#[]⟩ : ByteArray)] (fun _ => True) (fun _ => False) rfl rfl ?aP (fun _ hk => hk.elim) ?aF ?aO ?aB ?aS ?aL ?_; (case aP => exact k74_mkM _ _ _ (⟨((rd_T37 y185 x40_3).f0), (⟨#[]⟩ : ByteArray)⟩ : S74)); (case aB => exact (by repeat (first | (with_reducible first | exact HB.out | apply below_alloc | apply pw_below_drewN | apply below_drew1 | refine below_set ?_ GE190.out) | exact HB.out))); (case aF => exact (fun _ _ => trivial)); (case aO => exact (by (with_reducible repeat (first | apply Kd.R_alloc | apply Kd.R_drewN | apply Kd.R_drew)); exact HO198.out)); (case aS => exact (below_size (by repeat (first | (with_reducible first | exact HB.out | apply below_alloc | apply pw_below_drewN | apply below_drew1 | refine below_set ?_ GE190.out) | exact HB.out)))); (case aL => have := LMc43.out; omega); intro v201 w48 ho hb hg hat; rw [← Ny200.out] at ho; have n0_ := Aside0.mk (blk_grown (g := gb190) (o := .cells #[.string ((rd_T37 y185 x40_3).f0), .int .i64 ((rd_T37 y185 x40_3).f1), .string ((rd_T37 y185 x40_3).f2)] 37 (0, 0)) (by (with_reducible repeat (first | refine blk_drewN ?_ _ | refine blk_drew ?_ | refine blk_alloc ?_ _)); exact BK190.out) hg (Kd.R_ne HO198.out BK190.out (by decide))); have n1_ := Aside0.mk (hb); have n2_ := Aside0.mk (ho); clear BK190; clear HB; clear HO198; have BK190 := n0_; have HB := n1_; have HO202 := n2_; clear n0_ n1_ n2_; clear ho hb hg hat))
                                            go_roundg kj20
                                            case measure => have := HJ1.out; have := HJ10.out; have := HK3.out; have := HJ20.out; omega
                                            case rel => exact ⟨(y200), (wrap64 (x40_3 + 1)), (by first | rfl | (simp; done) | (simp [*]; done) | (congr 1; rw [Bool.eq_iff_iff]; simp [bne]; done) | (rw [Bool.eq_iff_iff]; simp [bne]; done)), H', ⟨by have := HJ1.out; have := HJ10.out; have := HK3.out; have := HJ20.out; omega⟩, ⟨by (with_reducible repeat (first | apply Kd.R_alloc | apply Kd.R_drewN | apply Kd.R_drew)); exact HO202.out⟩, ⟨by repeat (first | (with_reducible first | exact HB.out | apply below_alloc | apply pw_below_drewN | apply below_drew1 | refine below_set ?_ GE190.out) | exact HB.out)⟩⟩
                                          · rw [if_neg c43] at H
                                            exact absurd H (by simp)
                                        · rw [if_neg c42] at H
                                          have c42b0 : (((rd_T37 y185 x40_3).f1) == 4) = false := beq_eq_false_iff_ne.mpr c42
                                          have c42b1 : (((rd_T37 y185 x40_3).f1) != 4) = true := bne_iff_ne.mpr c42
                                          have H' := Aside0.mk H
                                          clear H
                                          have q49 : ((ji36) : Int) ≤ ((x3_3.length : Int) : Int) := of_decide_eq_true (by first | (with_reducible assumption) | assumption)
                                          obtain ⟨i049, hi049, _, hsz49, _⟩ := info_parts info74
                                          have hcut49 := cut_to (P := Try.prog) 72 74 .i64 Try.underlying72 hi049 Ao24 x3_3.length co24 (ji36) (of_decide_eq_true (by first | (with_reducible assumption) | assumption)) q49 (Kd.R_reads' HO_3.out).2.1
                                          have hr49 := Kd.R_take (m := ((ji36) : Int).toNat) HO_3.out (by omega)
                                          have hy49 : y196.length = ((ji36) : Int).toNat := (by rw [Ny196.out, List.length_take]; omega)
                                          rw [← Ny196.out] at hr49
                                          rw [← hy49] at hr49 hcut49
                                          clear hy49 hi049 hsz49 HO_3
                                          have HO198 := Aside0.mk hr49
                                          clear hr49
                                          replace q49 := eq_true q49
                                          have p41 : 0 ≤ (t191 : Int) := of_decide_eq_true (by first | (with_reducible assumption) | assumption)
                                          have q41 : (t191 : Int) < ((y196.length : Int) : Int) := of_decide_eq_true (by first | (with_reducible assumption) | assumption)
                                          obtain ⟨go41, co41, eo41, gb41, gl41, cl41, HG41⟩ := Kd.R_form HO198.out (by omega)
                                          (first | cases eo41 | (injection eo41 with ea_ en_ ec_; (first | subst ea_ | (injection ea_ with ea_; subst ea_)); subst ec_; clear en_))
                                          have GB41 := Aside0.mk gb41
                                          have GG41 := Aside0.mk HG41
                                          clear gb41 gl41 HG41
                                          obtain ⟨ce41, hcl41, hM41, hcc41, hfr41⟩ := Kd.R_elem HO198.out z74 (t191 : Int) p41 q41
                                          obtain rfl := k74_openM hM41
                                          have hx41_0 : wc.cell? ⟨go41, (t191 : Int).toNat * 2, none⟩ = some (.string ((rd_T74 y196 t191).f0)) := hcc41 0 _ rfl
                                          have hx41_1 : wc.cell? ⟨go41, (t191 : Int).toNat * 2 + 1, none⟩ = some (.string ((rd_T74 y196 t191).f1)) := hcc41 1 _ rfl
                                          have hf41_0 : wc.frozen? ⟨go41, (t191 : Int).toNat * 2, none⟩ = false := hfr41 0
                                          have hf41_1 : wc.frozen? ⟨go41, (t191 : Int).toNat * 2 + 1, none⟩ = false := hfr41 1
                                          clear hcl41 hcc41 hfr41 hM41
                                          replace p41 := eq_true p41
                                          replace q41 := eq_true q41
                                          have HX50 := Aside0.mk (show Kd.R k74 74 wc w.heap.size (fun _ => True) (.slice (some ⟨go41, 0, none⟩) y196.length co24) y196 from (by (with_reducible repeat (first | apply Kd.R_alloc | apply Kd.R_drewN | apply Kd.R_drew)); exact HO198.out))
                                          obtain ⟨ce50, hcl50, hM50, hcc50, hfr50⟩ := Kd.R_elem HX50.out z74 (t191 : Int) (of_decide_eq_true (by first | (with_reducible assumption) | assumption)) (by have h_ : (t191 : Int) < ((y196.length : Int) : Int) := of_decide_eq_true (by first | (with_reducible assumption) | assumption); first | exact h_ | (have e_ := (Kd.R_reads' HO198.out).1; omega) | simpa using h_)
                                          obtain rfl := k74_openM hM50
                                          have HP50 := Kd.R_seg HX50.out (t191 : Int) (of_decide_eq_true (by first | (with_reducible assumption) | assumption)) (by have h_ : (t191 : Int) < ((y196.length : Int) : Int) := of_decide_eq_true (by first | (with_reducible assumption) | assumption); first | exact h_ | (have e_ := (Kd.R_reads' HO198.out).1; omega) | simpa using h_) (seg := [.string t192]) (j := 1) hcl50 hcc50 (show 2 ≤ 2 from by decide) (x' := (⟨(rd_T74 y196 t191).f0, t192⟩ : S74)) (k74_mkM _ _ _ (⟨(rd_T74 y196 t191).f0, t192⟩ : S74) ) (fun _ hk => hk)
                                          have hx50_1 := hcc50 1 _ rfl
                                          (try simp only [show (k74).sz = 2 from rfl, Nat.mul_one, Nat.add_zero] at hx50_1)
                                          have hf50_1 := hfr50 1
                                          (try simp only [show (k74).sz = 2 from rfl, Nat.mul_one, Nat.add_zero] at hf50_1)
                                          clear hcl50 hcc50 hfr50 hM50
                                          go_wp2_with (first | ((with_reducible refine gate_store (t := 9) (p := 80) rfl ?_); refine store_event (t := 9) (p := 80) (v := ?vo_w51) (w1 := (wc.setCell ⟨go41, (t191 : Int).toNat * 2 + 1, none⟩ (.string t192))) ?hg ?ho ?hn ?hr ?_; (case ho => rfl); (case hg => rfl); (case hn => rfl); (case hr => first | (go_simp; done) | (go_simp; rfl)); intro w51 hw; have hg : wc.grownBy w51 (some go41) := (by rw [hw]; exact HP50.2); have hp_ : Kd.R k74 74 w51 w.heap.size (fun _ => True) (.slice (some ⟨go41, 0, none⟩) y196.length co24) y199 := (by rw [hw, Ny199.out]; exact HP50.1); clear HP50; have n0_ := Aside0.mk (hp_); have n1_ := Aside0.mk (blk_grown (g := gb190) (o := .cells #[.string ((rd_T37 y185 x40_3).f0), .int .i64 ((rd_T37 y185 x40_3).f1), .string ((rd_T37 y185 x40_3).f2)] 37 (0, 0)) (by (with_reducible repeat (first | refine blk_drewN ?_ _ | refine blk_drew ?_ | refine blk_alloc ?_ _)); exact BK190.out) hg (Kd.R_ne HO198.out BK190.out (by decide))); have n2_ := Aside0.mk ((by rw [hw]; exact below_set (HB.out) GB41.out : Below w.heap.size w w51)); clear HO198; clear BK190; clear HB; have HO198 := n0_; have BK190 := n1_; have HB := n2_; clear n0_ n1_ n2_; clear hg hw hp_; have hcz52_0 : w51.cell? ⟨gb190, 0, none⟩ = some (.string ((rd_T37 y185 x40_3).f0)) := (blk_cell BK190.out 0).trans rfl; have hcz52_1 : w51.cell? ⟨gb190, 1, none⟩ = some (.int .i64 ((rd_T37 y185 x40_3).f1)) := (blk_cell BK190.out 1).trans rfl; have hcz52_2 : w51.cell? ⟨gb190, 2, none⟩ = some (.string ((rd_T37 y185 x40_3).f2)) := (blk_cell BK190.out 2).trans rfl; have hfz52_0 := blk_frozen BK190.out 0; have hfz52_1 := blk_frozen BK190.out 1; have hfz52_2 := blk_frozen BK190.out 2))
                                          go_roundg kj20
                                          case measure => have := HJ1.out; have := HJ10.out; have := HK3.out; have := HJ20.out; omega
                                          case rel => exact ⟨(y199), (wrap64 (x40_3 + 1)), (by first | rfl | (simp; done) | (simp [*]; done) | (congr 1; rw [Bool.eq_iff_iff]; simp [bne]; done) | (rw [Bool.eq_iff_iff]; simp [bne]; done)), H', ⟨by have := HJ1.out; have := HJ10.out; have := HK3.out; have := HJ20.out; omega⟩, ⟨by (with_reducible repeat (first | apply Kd.R_alloc | apply Kd.R_drewN | apply Kd.R_drew)); exact HO198.out⟩, ⟨by repeat (first | (with_reducible first | exact HB.out | apply below_alloc | apply pw_below_drewN | apply below_drew1 | refine below_set ?_ GE190.out) | exact HB.out)⟩⟩
                                      · rw [if_neg c40] at H
                                        exact absurd H (by simp)
                                    · rw [if_neg c39] at H
                                      exact absurd H (by simp)
                                  · rw [if_neg c38] at H
                                    exact absurd H (by simp)
                                · rw [if_neg c37] at H
                                  exact absurd H (by simp)
                        · rw [if_neg c19] at H
                          exact absurd H (by simp)
                      · rw [if_neg c18] at H
                        exact absurd H (by simp)
                    · rw [if_neg c17] at H
                      have c17b0 : decide (x40_3 < (y185.length : Int)) = false := decide_eq_false c17
                      clear c17
                      obtain rfl := Option.some.inj H
                      go_wp2
                      go_ret
                      exact ⟨by first | rfl | (simp [errW_none, errW_some] <;> rfl) | (simp [*, errW_none, errW_some] <;> rfl), by repeat (first | (with_reducible first | exact HB.out | apply below_alloc | apply pw_below_drewN | apply below_drew1) | exact HB.out)⟩
              · rw [if_neg c15] at H
                exact absurd H (by simp)
        · rw [if_neg c10] at H
          exact absurd H (by simp)

end Go.Proofs.Ytncokgdfkbgflaa.P
