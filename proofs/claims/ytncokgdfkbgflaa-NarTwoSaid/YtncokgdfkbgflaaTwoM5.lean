/- Texts of this claim, joined: what the others lean on. -/
import Derived.Test.YtncokgdfkbgflaaTwoM2
import Derived.Test.YtncokgdfkbgflaaTwoM3
import Derived.Test.YtncokgdfkbgflaaTwoM4
namespace Go.Proofs.Ytncokgdfkbgflaa.P
open Go.RowKit Go.Proofs.YtncokgdfkbgflaaW.PrintWords Go.Proofs.YtncokgdfkbgflaaW.PrintLast Go.Proofs.YtncokgdfkbgflaaW.PrintMore
attribute [local go_sem] max2_int min2_int max_two min_two max_three min_three max_four min_four   -- for this text's walks alone
set_option linter.unusedVariables false
set_option linter.unusedSimpArgs false
noncomputable section
mutual
def shelfmarklaw10_NarTwo.l0 : Nat → List Int → List ByteArray → Int → Int → Int → Option (Bool)
  | 0, _, _, _, _, _ => none
  | k + 1, x0, x1, x2, x3, x9 => if x9 < (x1.length : Int) then (if 0 ≤ x9 then (if ((rdOf ByteArray.empty x1 x9).size : Int) > 300 then ((shelfmarklaw10_awake.f k).bind fun t501 => (some t501)) else (shelfmarklaw10_NarTwo.l0 k x0 x1 x2 x3 (wrap64 (x9 + 1)))) else (none)) else ((shelfmarklaw10_Tree.f k x0 x1).bind fun t502 => ((some (([] : List (S37)) : List (S37))).bind fun y505 => (if y505.length + t502.length < 3518437208883 then ((some (y505 ++ t502 : List (S37))).bind fun y508 => (if (y508.length : Int) = 0 then (none) else (if (Int.tmod x3 4) = 0 then (if 0 ≤ (Int.tmod (wrap64 (x2)) (y508.length : Int)) then (if (Int.tmod (wrap64 (x2)) (y508.length : Int)) < (y508.length : Int) then (shelfmarklaw10_NarTwo.j1 k t502 (y508.set ((Int.tmod (wrap64 (x2)) (y508.length : Int)) : Int).toNat (⟨(rd_T37 y508 (Int.tmod (wrap64 (x2)) (y508.length : Int))).f0, wrap64 (1 + (Int.tmod ((rd_T37 y508 (Int.tmod (wrap64 (x2)) (y508.length : Int))).f1) 2)), (rd_T37 y508 (Int.tmod (wrap64 (x2)) (y508.length : Int))).f2⟩ : S37))) else (none)) else (none)) else (if (Int.tmod x3 4) = 1 then (if 0 ≤ (Int.tmod (wrap64 (x2)) (y508.length : Int)) then (if (Int.tmod (wrap64 (x2)) (y508.length : Int)) < (y508.length : Int) then (if ((rd_T37 y508 (Int.tmod (wrap64 (x2)) (y508.length : Int))).f2).size + 1 ≤ 9223372036854775807 then (shelfmarklaw10_NarTwo.j1 k t502 (y508.set ((Int.tmod (wrap64 (x2)) (y508.length : Int)) : Int).toNat (⟨(rd_T37 y508 (Int.tmod (wrap64 (x2)) (y508.length : Int))).f0, (rd_T37 y508 (Int.tmod (wrap64 (x2)) (y508.length : Int))).f1, ((rd_T37 y508 (Int.tmod (wrap64 (x2)) (y508.length : Int))).f2) ++ (⟨#[121]⟩ : ByteArray)⟩ : S37))) else (none)) else (none)) else (none)) else (if (Int.tmod x3 4) = 2 then (if 0 ≤ (wrap64 ((Int.tmod (wrap64 (x2)) (y508.length : Int)) + 1)) then (if (wrap64 ((Int.tmod (wrap64 (x2)) (y508.length : Int)) + 1)) ≤ (y508.length : Int) then (shelfmarklaw10_NarTwo.j1 k t502 (y508.take ((wrap64 ((Int.tmod (wrap64 (x2)) (y508.length : Int)) + 1)) : Int).toNat)) else (none)) else (none)) else (if (Int.tmod (wrap64 (x2)) (y508.length : Int)) > 0 then (if 0 ≤ (Int.tmod (wrap64 (x2)) (y508.length : Int)) then (if (Int.tmod (wrap64 (x2)) (y508.length : Int)) < (y508.length : Int) then (if ((rd_T37 y508 (Int.tmod (wrap64 (x2)) (y508.length : Int))).f0).size + 1 ≤ 9223372036854775807 then (shelfmarklaw10_NarTwo.j1 k t502 (y508.set ((Int.tmod (wrap64 (x2)) (y508.length : Int)) : Int).toNat (⟨((rd_T37 y508 (Int.tmod (wrap64 (x2)) (y508.length : Int))).f0) ++ (⟨#[113]⟩ : ByteArray), (rd_T37 y508 (Int.tmod (wrap64 (x2)) (y508.length : Int))).f1, (rd_T37 y508 (Int.tmod (wrap64 (x2)) (y508.length : Int))).f2⟩ : S37))) else (none)) else (none)) else (none)) else (shelfmarklaw10_NarTwo.j1 k t502 y508))))))) else (none))))
def shelfmarklaw10_NarTwo.j1 : Nat → List (S37) → List (S37) → Option (Bool)
  | 0, _, _ => none
  | k + 1, x10, x11 => (nar_Pack.f x10).bind fun bt520 => ((nar_Pack.f x11).bind fun bt522 => ((shelfmarklaw1_Err.f bt520.2).bind fun t524 => (if t524 = 0 then ((shelfmarklaw1_Err.f bt522.2).bind fun t525 => (if t525 = 0 then ((nar_Same.f k x10 x11).bind fun t526 => (if ((bt520.1.toList == bt522.1.toList) == t526) = true then ((nar_Same.f k x10 x10).bind fun t527 => (if t527 = true then ((shelfmarklaw10_awake.f k).bind fun t528 => (some t528)) else (some false))) else (some false))) else ((nar_Same.f k x10 x10).bind fun t529 => (if t529 = true then ((shelfmarklaw10_awake.f k).bind fun t530 => (some t530)) else (some false))))) else (some false))))
end
def shelfmarklaw10_NarTwo.f (k : Nat) (l0 : List Int) (l1 : List ByteArray) (a2 : Int) (a3 : Int) : Option (Bool) := if (l1.length : Int) > 8 then ((shelfmarklaw10_awake.f k).bind fun t499 => (some t499)) else (shelfmarklaw10_NarTwo.l0 k l0 l1 a2 a3 0)
set_option maxHeartbeats 8000000 in
set_option maxRecDepth 100000 in
theorem shelfmarklaw10_NarTwo.calls (k : Nat) (A0 : Option Addr) (c0 : Nat) (l0 : List Int) (A1 : Option Addr) (c1 : Nat) (l1 : List ByteArray) (a2 : Int) (a3 : Int) (r : Bool) (w : World) (hr0 : Kd.C (Kd.int .u8) w A0 l0.length l0) (hc0 : l0.length ≤ c0) (hr1 : Kd.C Kd.string w A1 l1.length l1) (hc1 : l1.length ≤ c1) (h : shelfmarklaw10_NarTwo.f k l0 l1 a2 a3 = some r) :
    Calls Try.prog 8 #[.slice A0 l0.length c0, .slice A1 l1.length c1, .int .u8 a2, .int .u8 a3] w fun e w' => e = .returned (.bool r) ∧ Below w.heap.size w w' := by
  have HR0 := Aside0.mk hr0
  have HC0 := Aside0.mk hc0
  clear hr0 hc0
  have HR1 := Aside0.mk hr1
  have HC1 := Aside0.mk hc1
  clear hr1 hc1
  have HB := Aside0.mk (Below.refl w.heap.size w)
  have H : (if (l1.length : Int) > 8 then ((shelfmarklaw10_awake.f k).bind fun t499 => (some t499)) else (shelfmarklaw10_NarTwo.l0 k l0 l1 a2 a3 0)) = some r := h
  clear h
  by_cases c5 : (l1.length : Int) > 8
  · rw [if_pos c5] at H
    have c5b0 : decide (8 < (l1.length : Int)) = true := decide_eq_true c5
    have c5b1 : decide (8 < l1.length) = true := decide_eq_true (by omega)
    clear c5
    replace H := Option.bind_eq_some_iff.mp H
    obtain ⟨t499, A60, H⟩ := H
    replace H : (some t499) = some r := H
    have A6 := Aside0.mk A60
    clear A60
    obtain rfl := Option.some.inj H
    go_enter Try.func8, Try.ntmps8
    go_wp2_with (first | ((with_reducible refine gate_callee (f := 11) rfl ?_); refine goesL_ (some 20) rfl rfl Try.func11 (by kernel_rfl) rfl #[] rfl (by (try simp only [List.map_toArray, List.map_cons, List.map_nil]); first | done | rfl | (simp only [List.length_drop, List.length_take]; rfl)) ?_; (with_reducible refine (shelfmarklaw10_awake.calls k  t499 _ A6.out).mono ?_); rintro e w7 ⟨rfl, hb⟩; refine ⟨_, rfl, ?_⟩; have n0_ := Aside0.mk (below_step (by repeat (first | (with_reducible first | exact HB.out | apply below_alloc | apply pw_below_drewN | apply below_drew1) | exact HB.out)) hb); clear HB; have HB := n0_; clear n0_; (try clear hb); (try clear hb2); (try clear hk); (try clear hi)))
    go_ret
    exact ⟨by first | rfl | (simp [errW_none, errW_some] <;> rfl) | (simp [*, errW_none, errW_some] <;> rfl), by repeat (first | (with_reducible first | exact HB.out | apply below_alloc | apply pw_below_drewN | apply below_drew1) | exact HB.out)⟩
  · rw [if_neg c5] at H
    have c5b0 : decide (8 < (l1.length : Int)) = false := decide_eq_false c5
    have c5b1 : decide (8 < l1.length) = false := decide_eq_false (by omega)
    clear c5
    have H' := Aside0.mk H
    clear H
    go_enter Try.func8, Try.ntmps8
    go_wp2
    go_loopg [9] k (fun kq v9 w' => ∃ (x9_1 : Int), v9 = .int .i64 x9_1 ∧ Aside0 (shelfmarklaw10_NarTwo.l0 kq l0 l1 a2 a3 x9_1 = some r) ∧ Aside0 (kq ≤ k) ∧ Aside0 (Below w.heap.size w w'))
    case atStart => exact ⟨(0), (by first | rfl | (simp; done) | (simp [*]; done) | (congr 1; rw [Bool.eq_iff_iff]; simp [bne]; done) | (rw [Bool.eq_iff_iff]; simp [bne]; done)), H', ⟨Nat.le_refl _⟩, ⟨by repeat (first | (with_reducible first | exact HB.out | apply below_alloc | apply pw_below_drewN | apply below_drew1) | exact HB.out)⟩⟩
    case round =>
      clear H'
      try clear c1
      try clear p2
      try clear c5
      try clear c5b0
      try clear c5b1
      obtain ⟨x9_1, rfl, HA, HK1, HB⟩ := hrel
      cases gk with
      | zero => exact absurd HA.out (by simp [shelfmarklaw10_NarTwo.l0])
      | succ k1 =>
        have H := HA.out
        clear HA
        simp only [shelfmarklaw10_NarTwo.l0] at H
        by_cases c8 : x9_1 < (l1.length : Int)
        · rw [if_pos c8] at H
          have c8b0 : decide (x9_1 < (l1.length : Int)) = true := decide_eq_true c8
          clear c8
          by_cases c9 : 0 ≤ x9_1
          · rw [if_pos c9] at H
            have c9b0 : decide (0 ≤ x9_1) = true := decide_eq_true c9
            clear c9
            by_cases c10 : ((rdOf ByteArray.empty l1 x9_1).size : Int) > 300
            · rw [if_pos c10] at H
              have c10b0 : decide (300 < ((rdOf ByteArray.empty l1 x9_1).size : Int)) = true := decide_eq_true c10
              have c10b1 : decide (300 < (rdOf ByteArray.empty l1 x9_1).size) = true := decide_eq_true (by omega)
              clear c10
              replace H := Option.bind_eq_some_iff.mp H
              obtain ⟨t501, A110, H⟩ := H
              replace H : (some t501) = some r := H
              have A11 := Aside0.mk A110
              clear A110
              obtain rfl := Option.some.inj H
              have p500 : 0 ≤ (x9_1 : Int) := of_decide_eq_true (by first | (with_reducible assumption) | assumption)
              have q500 : x9_1 < (l1.length : Int) := of_decide_eq_true (by first | (with_reducible assumption) | assumption)
              obtain ⟨ad500, e500, hx500_0⟩ := Kd.at_string HR1.out x9_1 p500 q500
              cases e500
              replace hx500_0 := (HB.out.cell (World.block_lt_of_cell? w _ hx500_0)).trans hx500_0
              replace p500 := eq_true p500
              replace q500 := eq_true q500
              go_wp2_with (first | ((with_reducible refine gate_callee (f := 11) rfl ?_); refine goesL_ (some 33) rfl rfl Try.func11 (by kernel_rfl) rfl #[] rfl (by (try simp only [List.map_toArray, List.map_cons, List.map_nil]); first | done | rfl | (simp only [List.length_drop, List.length_take]; rfl)) ?_; (with_reducible refine (shelfmarklaw10_awake.calls k1  t501 _ A11.out).mono ?_); rintro e w12 ⟨rfl, hb⟩; refine ⟨_, rfl, ?_⟩; have n0_ := Aside0.mk (below_step (by repeat (first | (with_reducible first | exact HB.out | apply below_alloc | apply pw_below_drewN | apply below_drew1) | exact HB.out)) hb); clear HB; have HB := n0_; clear n0_; (try clear hb); (try clear hb2); (try clear hk); (try clear hi)))
              go_ret
              exact ⟨by first | rfl | (simp [errW_none, errW_some] <;> rfl) | (simp [*, errW_none, errW_some] <;> rfl), by repeat (first | (with_reducible first | exact HB.out | apply below_alloc | apply pw_below_drewN | apply below_drew1) | exact HB.out)⟩
            · rw [if_neg c10] at H
              have c10b0 : decide (300 < ((rdOf ByteArray.empty l1 x9_1).size : Int)) = false := decide_eq_false c10
              have c10b1 : decide (300 < (rdOf ByteArray.empty l1 x9_1).size) = false := decide_eq_false (by omega)
              clear c10
              have H' := Aside0.mk H
              clear H
              have p500 : 0 ≤ (x9_1 : Int) := of_decide_eq_true (by first | (with_reducible assumption) | assumption)
              have q500 : x9_1 < (l1.length : Int) := of_decide_eq_true (by first | (with_reducible assumption) | assumption)
              obtain ⟨ad500, e500, hx500_0⟩ := Kd.at_string HR1.out x9_1 p500 q500
              cases e500
              replace hx500_0 := (HB.out.cell (World.block_lt_of_cell? w _ hx500_0)).trans hx500_0
              replace p500 := eq_true p500
              replace q500 := eq_true q500
              go_wp2
              go_roundg k1
              case measure => have := HK1.out; omega
              case rel => exact ⟨(wrap64 (x9_1 + 1)), (by first | rfl | (simp; done) | (simp [*]; done) | (congr 1; rw [Bool.eq_iff_iff]; simp [bne]; done) | (rw [Bool.eq_iff_iff]; simp [bne]; done)), H', ⟨by have := HK1.out; omega⟩, ⟨by repeat (first | (with_reducible first | exact HB.out | apply below_alloc | apply pw_below_drewN | apply below_drew1) | exact HB.out)⟩⟩
          · rw [if_neg c9] at H
            exact absurd H (by simp)
        · rw [if_neg c8] at H
          have c8b0 : decide (x9_1 < (l1.length : Int)) = false := decide_eq_false c8
          clear c8
          replace H := Option.bind_eq_some_iff.mp H
          obtain ⟨t502, A130, H⟩ := H
          replace H : ((some (([] : List (S37)) : List (S37))).bind fun y505 => (if y505.length + t502.length < 3518437208883 then ((some (y505 ++ t502 : List (S37))).bind fun y508 => (if (y508.length : Int) = 0 then (none) else (if (Int.tmod a3 4) = 0 then (if 0 ≤ (Int.tmod (wrap64 (a2)) (y508.length : Int)) then (if (Int.tmod (wrap64 (a2)) (y508.length : Int)) < (y508.length : Int) then (shelfmarklaw10_NarTwo.j1 k1 t502 (y508.set ((Int.tmod (wrap64 (a2)) (y508.length : Int)) : Int).toNat (⟨(rd_T37 y508 (Int.tmod (wrap64 (a2)) (y508.length : Int))).f0, wrap64 (1 + (Int.tmod ((rd_T37 y508 (Int.tmod (wrap64 (a2)) (y508.length : Int))).f1) 2)), (rd_T37 y508 (Int.tmod (wrap64 (a2)) (y508.length : Int))).f2⟩ : S37))) else (none)) else (none)) else (if (Int.tmod a3 4) = 1 then (if 0 ≤ (Int.tmod (wrap64 (a2)) (y508.length : Int)) then (if (Int.tmod (wrap64 (a2)) (y508.length : Int)) < (y508.length : Int) then (if ((rd_T37 y508 (Int.tmod (wrap64 (a2)) (y508.length : Int))).f2).size + 1 ≤ 9223372036854775807 then (shelfmarklaw10_NarTwo.j1 k1 t502 (y508.set ((Int.tmod (wrap64 (a2)) (y508.length : Int)) : Int).toNat (⟨(rd_T37 y508 (Int.tmod (wrap64 (a2)) (y508.length : Int))).f0, (rd_T37 y508 (Int.tmod (wrap64 (a2)) (y508.length : Int))).f1, ((rd_T37 y508 (Int.tmod (wrap64 (a2)) (y508.length : Int))).f2) ++ (⟨#[121]⟩ : ByteArray)⟩ : S37))) else (none)) else (none)) else (none)) else (if (Int.tmod a3 4) = 2 then (if 0 ≤ (wrap64 ((Int.tmod (wrap64 (a2)) (y508.length : Int)) + 1)) then (if (wrap64 ((Int.tmod (wrap64 (a2)) (y508.length : Int)) + 1)) ≤ (y508.length : Int) then (shelfmarklaw10_NarTwo.j1 k1 t502 (y508.take ((wrap64 ((Int.tmod (wrap64 (a2)) (y508.length : Int)) + 1)) : Int).toNat)) else (none)) else (none)) else (if (Int.tmod (wrap64 (a2)) (y508.length : Int)) > 0 then (if 0 ≤ (Int.tmod (wrap64 (a2)) (y508.length : Int)) then (if (Int.tmod (wrap64 (a2)) (y508.length : Int)) < (y508.length : Int) then (if ((rd_T37 y508 (Int.tmod (wrap64 (a2)) (y508.length : Int))).f0).size + 1 ≤ 9223372036854775807 then (shelfmarklaw10_NarTwo.j1 k1 t502 (y508.set ((Int.tmod (wrap64 (a2)) (y508.length : Int)) : Int).toNat (⟨((rd_T37 y508 (Int.tmod (wrap64 (a2)) (y508.length : Int))).f0) ++ (⟨#[113]⟩ : ByteArray), (rd_T37 y508 (Int.tmod (wrap64 (a2)) (y508.length : Int))).f1, (rd_T37 y508 (Int.tmod (wrap64 (a2)) (y508.length : Int))).f2⟩ : S37))) else (none)) else (none)) else (none)) else (shelfmarklaw10_NarTwo.j1 k1 t502 y508))))))) else (none))) = some r := H
          have A13 := Aside0.mk A130
          clear A130
          obtain ⟨y505, hy505⟩ : ∃ y_ : List (S37), y_ = (([] : List (S37))) := ⟨_, rfl⟩
          replace H : (if y505.length + t502.length < 3518437208883 then ((some (y505 ++ t502 : List (S37))).bind fun y508 => (if (y508.length : Int) = 0 then (none) else (if (Int.tmod a3 4) = 0 then (if 0 ≤ (Int.tmod (wrap64 (a2)) (y508.length : Int)) then (if (Int.tmod (wrap64 (a2)) (y508.length : Int)) < (y508.length : Int) then (shelfmarklaw10_NarTwo.j1 k1 t502 (y508.set ((Int.tmod (wrap64 (a2)) (y508.length : Int)) : Int).toNat (⟨(rd_T37 y508 (Int.tmod (wrap64 (a2)) (y508.length : Int))).f0, wrap64 (1 + (Int.tmod ((rd_T37 y508 (Int.tmod (wrap64 (a2)) (y508.length : Int))).f1) 2)), (rd_T37 y508 (Int.tmod (wrap64 (a2)) (y508.length : Int))).f2⟩ : S37))) else (none)) else (none)) else (if (Int.tmod a3 4) = 1 then (if 0 ≤ (Int.tmod (wrap64 (a2)) (y508.length : Int)) then (if (Int.tmod (wrap64 (a2)) (y508.length : Int)) < (y508.length : Int) then (if ((rd_T37 y508 (Int.tmod (wrap64 (a2)) (y508.length : Int))).f2).size + 1 ≤ 9223372036854775807 then (shelfmarklaw10_NarTwo.j1 k1 t502 (y508.set ((Int.tmod (wrap64 (a2)) (y508.length : Int)) : Int).toNat (⟨(rd_T37 y508 (Int.tmod (wrap64 (a2)) (y508.length : Int))).f0, (rd_T37 y508 (Int.tmod (wrap64 (a2)) (y508.length : Int))).f1, ((rd_T37 y508 (Int.tmod (wrap64 (a2)) (y508.length : Int))).f2) ++ (⟨#[121]⟩ : ByteArray)⟩ : S37))) else (none)) else (none)) else (none)) else (if (Int.tmod a3 4) = 2 then (if 0 ≤ (wrap64 ((Int.tmod (wrap64 (a2)) (y508.length : Int)) + 1)) then (if (wrap64 ((Int.tmod (wrap64 (a2)) (y508.length : Int)) + 1)) ≤ (y508.length : Int) then (shelfmarklaw10_NarTwo.j1 k1 t502 (y508.take ((wrap64 ((Int.tmod (wrap64 (a2)) (y508.length : Int)) + 1)) : Int).toNat)) else (none)) else (none)) else (if (Int.tmod (wrap64 (a2)) (y508.length : Int)) > 0 then (if 0 ≤ (Int.tmod (wrap64 (a2)) (y508.length : Int)) then (if (Int.tmod (wrap64 (a2)) (y508.length : Int)) < (y508.length : Int) then (if ((rd_T37 y508 (Int.tmod (wrap64 (a2)) (y508.length : Int))).f0).size + 1 ≤ 9223372036854775807 then (shelfmarklaw10_NarTwo.j1 k1 t502 (y508.set ((Int.tmod (wrap64 (a2)) (y508.length : Int)) : Int).toNat (⟨((rd_T37 y508 (Int.tmod (wrap64 (a2)) (y508.length : Int))).f0) ++ (⟨#[113]⟩ : ByteArray), (rd_T37 y508 (Int.tmod (wrap64 (a2)) (y508.length : Int))).f1, (rd_T37 y508 (Int.tmod (wrap64 (a2)) (y508.length : Int))).f2⟩ : S37))) else (none)) else (none)) else (none)) else (shelfmarklaw10_NarTwo.j1 k1 t502 y508))))))) else (none)) = some r := by first | (rw [hy505]; with_reducible exact H) | (have H2_ := (Option.bind_some _ _).symm.trans H; rw [hy505]; with_reducible exact H2_) | (have H2_ := (Option.bind_some _ _).symm.trans H; with_reducible exact H2_) | with_reducible exact H | (rw [hy505]; exact H) | exact H
          have Ny505 := Aside0.mk hy505
          clear hy505
          by_cases c14 : y505.length + t502.length < 3518437208883
          · rw [if_pos c14] at H
            have LMc14 := Aside0.mk c14
            clear c14
            obtain ⟨y508, hy508⟩ : ∃ y_ : List (S37), y_ = (y505 ++ t502) := ⟨_, rfl⟩
            replace H : (if (y508.length : Int) = 0 then (none) else (if (Int.tmod a3 4) = 0 then (if 0 ≤ (Int.tmod (wrap64 (a2)) (y508.length : Int)) then (if (Int.tmod (wrap64 (a2)) (y508.length : Int)) < (y508.length : Int) then (shelfmarklaw10_NarTwo.j1 k1 t502 (y508.set ((Int.tmod (wrap64 (a2)) (y508.length : Int)) : Int).toNat (⟨(rd_T37 y508 (Int.tmod (wrap64 (a2)) (y508.length : Int))).f0, wrap64 (1 + (Int.tmod ((rd_T37 y508 (Int.tmod (wrap64 (a2)) (y508.length : Int))).f1) 2)), (rd_T37 y508 (Int.tmod (wrap64 (a2)) (y508.length : Int))).f2⟩ : S37))) else (none)) else (none)) else (if (Int.tmod a3 4) = 1 then (if 0 ≤ (Int.tmod (wrap64 (a2)) (y508.length : Int)) then (if (Int.tmod (wrap64 (a2)) (y508.length : Int)) < (y508.length : Int) then (if ((rd_T37 y508 (Int.tmod (wrap64 (a2)) (y508.length : Int))).f2).size + 1 ≤ 9223372036854775807 then (shelfmarklaw10_NarTwo.j1 k1 t502 (y508.set ((Int.tmod (wrap64 (a2)) (y508.length : Int)) : Int).toNat (⟨(rd_T37 y508 (Int.tmod (wrap64 (a2)) (y508.length : Int))).f0, (rd_T37 y508 (Int.tmod (wrap64 (a2)) (y508.length : Int))).f1, ((rd_T37 y508 (Int.tmod (wrap64 (a2)) (y508.length : Int))).f2) ++ (⟨#[121]⟩ : ByteArray)⟩ : S37))) else (none)) else (none)) else (none)) else (if (Int.tmod a3 4) = 2 then (if 0 ≤ (wrap64 ((Int.tmod (wrap64 (a2)) (y508.length : Int)) + 1)) then (if (wrap64 ((Int.tmod (wrap64 (a2)) (y508.length : Int)) + 1)) ≤ (y508.length : Int) then (shelfmarklaw10_NarTwo.j1 k1 t502 (y508.take ((wrap64 ((Int.tmod (wrap64 (a2)) (y508.length : Int)) + 1)) : Int).toNat)) else (none)) else (none)) else (if (Int.tmod (wrap64 (a2)) (y508.length : Int)) > 0 then (if 0 ≤ (Int.tmod (wrap64 (a2)) (y508.length : Int)) then (if (Int.tmod (wrap64 (a2)) (y508.length : Int)) < (y508.length : Int) then (if ((rd_T37 y508 (Int.tmod (wrap64 (a2)) (y508.length : Int))).f0).size + 1 ≤ 9223372036854775807 then (shelfmarklaw10_NarTwo.j1 k1 t502 (y508.set ((Int.tmod (wrap64 (a2)) (y508.length : Int)) : Int).toNat (⟨((rd_T37 y508 (Int.tmod (wrap64 (a2)) (y508.length : Int))).f0) ++ (⟨#[113]⟩ : ByteArray), (rd_T37 y508 (Int.tmod (wrap64 (a2)) (y508.length : Int))).f1, (rd_T37 y508 (Int.tmod (wrap64 (a2)) (y508.length : Int))).f2⟩ : S37))) else (none)) else (none)) else (none)) else (shelfmarklaw10_NarTwo.j1 k1 t502 y508)))))) = some r := by first | (rw [hy508]; with_reducible exact H) | (have H2_ := (Option.bind_some _ _).symm.trans H; rw [hy508]; with_reducible exact H2_) | (have H2_ := (Option.bind_some _ _).symm.trans H; with_reducible exact H2_) | with_reducible exact H | (rw [hy508]; exact H) | exact H
            have Ny508 := Aside0.mk hy508
            clear hy508
            by_cases c15 : (y508.length : Int) = 0
            · rw [if_pos c15] at H
              exact absurd H (by simp)
            · rw [if_neg c15] at H
              have c15b0 : ((y508.length : Int) == 0) = false := beq_eq_false_iff_ne.mpr c15
              have c15b1 : ((y508.length : Int) != 0) = true := bne_iff_ne.mpr c15
              have c15b2 : ¬ (y508 = []) := fun h_ => c15 (by rw [h_]; rfl)
              have HC16 := Aside0.mk H
              clear H
              go_upto_block 2 with (first | ((with_reducible refine gate_callee (f := 12) rfl ?_); refine goesL_ (some 36) rfl rfl Try.func12 (by kernel_rfl) rfl #[.slice A0 l0.length c0, .slice A1 l1.length c1] rfl (by (try simp only [List.map_toArray, List.map_cons, List.map_nil]); first | done | rfl | (simp only [List.length_drop, List.length_take]; rfl)) ?_; (with_reducible refine (shelfmarklaw10_Tree.calls k1 _ _ l0 _ _ l1 t502 _ ?side1 ?side2 ?side3 ?side4 A13.out).mono ?_); (case side1 => repeat (first | exact (Kd.C_below HR0.out HB.out) | (with_reducible refine Kd.C_alloc ?_ _) | (with_reducible refine Kd.C_drewN ?_ _) | (with_reducible refine Kd.C_drew ?_))); (case side2 => exact HC0.out); (case side3 => repeat (first | exact (Kd.C_below HR1.out HB.out) | (with_reducible refine Kd.C_alloc ?_ _) | (with_reducible refine Kd.C_drewN ?_ _) | (with_reducible refine Kd.C_drew ?_))); (case side4 => exact HC1.out); rintro e w17 ⟨v503, rfl, ho0, hb⟩; refine ⟨_, rfl, ?_⟩; have n0_ := Aside0.mk (Kd.R_lower ho0 (below_size (by repeat (first | (with_reducible first | exact HB.out | apply below_alloc | apply pw_below_drewN | apply below_drew1) | exact HB.out)))); have n1_ := Aside0.mk (below_step (by repeat (first | (with_reducible first | exact HB.out | apply below_alloc | apply pw_below_drewN | apply below_drew1) | exact HB.out)) hb); clear HB; have HO504 := n0_; have HB := n1_; clear n0_ n1_; (try clear hb); (try clear hb2); (try clear hk); (try clear hi); (try clear ho0)) | ((with_reducible refine gate_dst (N := 37) rfl ?_); refine Kd.R_lit k37 _ 37 ?hg (N := 37) ?hd (xs := ([] : List (S37))) (inner := []) (ok := fun _ => True) (okp := fun _ => True) ?hr ?hp (fun _ hk => hk) trivial (Below.refl _ _) (Nat.le_refl _) (by simp) ?_; (case hd => rfl); (case hg => rfl); (case hr => first | (go_simp; done) | (go_simp; rfl)); (case hp => exact (Reps.none _ _)); intro v506 w18 ho19 hb hg_ hnew_; clear hg_ hnew_; (first | rw [← Ny505.out] at ho19 | (simp only [Int.reduceToNat] at ho19; rw [← Ny505.out] at ho19)); have n0_ := Aside0.mk (Kd.R_elder' (by (with_reducible repeat (first | apply Kd.R_alloc | apply Kd.R_drewN | apply Kd.R_drew)); exact HO504.out) (Kd.R_base ho19) hb); have n1_ := Aside0.mk (Kd.R_lower (Kd.R_new' ho19 (Kd.R_lt (by (with_reducible repeat (first | apply Kd.R_alloc | apply Kd.R_drewN | apply Kd.R_drew)); exact HO504.out))) (below_size (by repeat (first | (with_reducible first | exact HB.out | apply below_alloc | apply pw_below_drewN | apply below_drew1) | exact HB.out)))); have n2_ := Aside0.mk (below_step (by repeat (first | (with_reducible first | exact HB.out | apply below_alloc | apply pw_below_drewN | apply below_drew1) | exact HB.out)) hb); clear HO504; clear HB; have HO504 := n0_; have HO507 := n1_; have HB := n2_; clear n0_ n1_ n2_; clear hb ho19; obtain ⟨Ao21, co21, eo21⟩ := Kd.R_slice HO504.out; subst eo21) | ((with_reducible refine gate_builtin (b := .append) (xs := #[.tmp 37, .tmp 38]) rfl ?_); at_builtin; refine Kd.R_append_rows k37 (w0 := w) w.heap.size rfl (.tmp 37) (.tmp 38) 25 37 (.agg #[(.string ⟨#[]⟩), (.int .i64 0), (.string ⟨#[]⟩)]) 40 rfl Try.underlying25 info37 rfl (by decide) (by omega) v506 y505 t502 _ _ _ (fun k_ => some k_ ≠ (.slice Ao21 t502.length co21 : Value).ownBlock) (fun _ => False) rfl rfl ?aO ?aR (fun _ _ h => h) (fun _ h => h.elim) ?aF ?aB ?aS ?aL ?_; (case aR => repeat (first | exact (Kd.R_reads' HO504.out).2.2 | (with_reducible refine Kd.C_alloc ?_ _) | (with_reducible refine Kd.C_drewN ?_ _) | (with_reducible refine Kd.C_drew ?_))); (case aB => exact (by repeat (first | (with_reducible first | exact HB.out | apply below_alloc | apply pw_below_drewN | apply below_drew1) | exact HB.out))); (case aF => exact (fun k_ hk => Kd.fresh' (Kd.R_lt (by (with_reducible repeat (first | apply Kd.R_alloc | apply Kd.R_drewN | apply Kd.R_drew)); exact HO504.out)) k_ hk)); (case aO => exact (by (with_reducible repeat (first | apply Kd.R_alloc | apply Kd.R_drewN | apply Kd.R_drew)); exact Kd.R_mono HO507.out (fun _ hk => hk.2))); (case aS => exact (below_size (by repeat (first | (with_reducible first | exact HB.out | apply below_alloc | apply pw_below_drewN | apply below_drew1) | exact HB.out)))); (case aL => have := LMc14.out; omega); intro v509 w20 ho hb hg hat; rw [← Ny508.out] at ho; have n0_ := Aside0.mk (Kd.R_after (ok := (fun _ => True)) (by (with_reducible repeat (first | apply Kd.R_alloc | apply Kd.R_drewN | apply Kd.R_drew)); exact HO504.out) hg hat); have n1_ := Aside0.mk (hb); have n2_ := Aside0.mk (ho); clear HO504; clear HB; clear HO507; have HO504 := n0_; have HB := n1_; have HO510 := n2_; clear n0_ n1_ n2_; clear ho hb hg hat; obtain ⟨Ao22, co22, eo22⟩ := Kd.R_slice HO510.out; subst eo22))
              (try simp only [Act.put, List.setIfInBounds_toArray, List.set_cons_zero, List.set_cons_succ])
              go_cut [11] (fun v11 wc => ∃ (kq : Nat) (x10_15 : List (S37)) (x11_15 : List (S37)), Aside0 (shelfmarklaw10_NarTwo.j1 kq x10_15 x11_15 = some r) ∧ Aside0 (kq ≤ k1) ∧ Aside0 (Kd.R k37 37 wc w.heap.size (fun k_ => some k_ ≠ (v11 : Value).ownBlock) (.slice Ao21 t502.length co21) x10_15) ∧ Aside0 (Kd.R k37 37 wc w.heap.size (fun k_ => some k_ ≠ ((.slice Ao21 t502.length co21) : Value).ownBlock) v11 x11_15) ∧ Aside0 (Below w.heap.size w wc))
              case first =>
                have H := HC16.out
                clear HC16
                by_cases c23 : (Int.tmod a3 4) = 0
                · rw [if_pos c23] at H
                  have c23b0 : ((Int.tmod a3 4) == 0) = true := beq_iff_eq.mpr c23
                  have c23b1 : ((Int.tmod a3 4) != 0) = false := bne_eq_false_iff_eq.mpr c23
                  clear c23
                  (first | rw [c23b0] | (simp only [i64_w, i32_w]; rw [c23b0]) | skip)
                  obtain ⟨ji24, hji24⟩ : ∃ j_ : Int, (Int.tmod (wrap64 (a2)) (y508.length : Int)) = j_ := ⟨_, rfl⟩
                  replace H : (if 0 ≤ (ji24) then (if (ji24) < (y508.length : Int) then (shelfmarklaw10_NarTwo.j1 k1 t502 (y508.set ((ji24) : Int).toNat (⟨(rd_T37 y508 (ji24)).f0, wrap64 (1 + (Int.tmod ((rd_T37 y508 (ji24)).f1) 2)), (rd_T37 y508 (ji24)).f2⟩ : S37))) else (none)) else (none)) = some r := by first | (rw [hji24] at H; exact H) | (simp only [hji24] at H ⊢; exact H)
                  by_cases c25 : 0 ≤ (ji24)
                  · rw [if_pos c25] at H
                    have c25b0 : decide (0 ≤ (ji24)) = true := decide_eq_true c25
                    clear c25
                    by_cases c26 : (ji24) < (y508.length : Int)
                    · rw [if_pos c26] at H
                      have c26b0 : decide ((ji24) < (y508.length : Int)) = true := decide_eq_true c26
                      clear c26
                      obtain ⟨y512, hy512⟩ : ∃ y_ : List (S37), y_ = (y508.set ((ji24) : Int).toNat (⟨(rd_T37 y508 (ji24)).f0, wrap64 (1 + (Int.tmod ((rd_T37 y508 (ji24)).f1) 2)), (rd_T37 y508 (ji24)).f2⟩ : S37)) := ⟨_, rfl⟩
                      replace H : (shelfmarklaw10_NarTwo.j1 k1 t502 y512) = some r := by first | (rw [hy512]; with_reducible exact H) | (have H2_ := (Option.bind_some _ _).symm.trans H; rw [hy512]; with_reducible exact H2_) | (have H2_ := (Option.bind_some _ _).symm.trans H; with_reducible exact H2_) | with_reducible exact H | (rw [hy512]; exact H) | exact H
                      have Ny512 := Aside0.mk hy512
                      clear hy512
                      have H' := Aside0.mk H
                      clear H
                      have p511 : 0 ≤ ((ji24) : Int) := of_decide_eq_true (by first | (with_reducible assumption) | assumption)
                      have q511 : (ji24) < (y508.length : Int) := of_decide_eq_true (by first | (with_reducible assumption) | assumption)
                      obtain ⟨ad511, e511, hx511_0, hx511_1, hx511_2⟩ := at_T37 (Kd.R_reads' HO510.out).2.2 (ji24) p511 q511
                      cases e511
                      replace p511 := eq_true p511
                      replace q511 := eq_true q511
                      have p27 : 0 ≤ ((ji24) : Int) := of_decide_eq_true (by first | (with_reducible assumption) | assumption)
                      have q27 : ((ji24) : Int) < ((y508.length : Int) : Int) := of_decide_eq_true (by first | (with_reducible assumption) | assumption)
                      obtain ⟨go27, co27, eo27, gb27, gl27, cl27, HG27⟩ := Kd.R_form HO510.out (by omega)
                      (first | cases eo27 | (injection eo27 with ea_ en_ ec_; (first | subst ea_ | (injection ea_ with ea_; subst ea_)); subst ec_; clear en_))
                      have GB27 := Aside0.mk gb27
                      have GG27 := Aside0.mk HG27
                      clear gb27 gl27 HG27
                      (first | simp only [add_plain] at hx511_0 | skip)
                      (first | simp only [add_plain] at hx511_1 | skip)
                      (first | simp only [add_plain] at hx511_2 | skip)
                      obtain ⟨ce27, hcl27, hM27, hcc27, hfr27⟩ := Kd.R_elem HO510.out z37 ((ji24) : Int) p27 q27
                      obtain rfl := k37_openM hM27
                      have hx27_0 : w20.cell? ⟨go27, ((ji24) : Int).toNat * 3, none⟩ = some (.string ((rd_T37 y508 (ji24)).f0)) := hcc27 0 _ rfl
                      have hx27_1 : w20.cell? ⟨go27, ((ji24) : Int).toNat * 3 + 1, none⟩ = some (.int .i64 ((rd_T37 y508 (ji24)).f1)) := hcc27 1 _ rfl
                      have hx27_2 : w20.cell? ⟨go27, ((ji24) : Int).toNat * 3 + 2, none⟩ = some (.string ((rd_T37 y508 (ji24)).f2)) := hcc27 2 _ rfl
                      have hf27_0 : w20.frozen? ⟨go27, ((ji24) : Int).toNat * 3, none⟩ = false := hfr27 0
                      have hf27_1 : w20.frozen? ⟨go27, ((ji24) : Int).toNat * 3 + 1, none⟩ = false := hfr27 1
                      have hf27_2 : w20.frozen? ⟨go27, ((ji24) : Int).toNat * 3 + 2, none⟩ = false := hfr27 2
                      clear hcl27 hcc27 hfr27 hM27
                      replace p27 := eq_true p27
                      replace q27 := eq_true q27
                      have HX28 := Aside0.mk (show Kd.R k37 37 w20 w.heap.size (fun k_ => some k_ ≠ (.slice Ao21 t502.length co21 : Value).ownBlock) (.slice (some ⟨go27, 0, none⟩) y508.length co22) y508 from (by (with_reducible repeat (first | apply Kd.R_alloc | apply Kd.R_drewN | apply Kd.R_drew)); exact HO510.out))
                      obtain ⟨ce28, hcl28, hM28, hcc28, hfr28⟩ := Kd.R_elem HX28.out z37 ((ji24) : Int) (of_decide_eq_true (by first | (with_reducible assumption) | assumption)) (by have h_ : ((ji24) : Int) < ((y508.length : Int) : Int) := of_decide_eq_true (by first | (with_reducible assumption) | assumption); first | exact h_ | (have e_ := (Kd.R_reads' HO510.out).1; omega) | simpa using h_)
                      obtain rfl := k37_openM hM28
                      have HP28 := Kd.R_seg HX28.out ((ji24) : Int) (of_decide_eq_true (by first | (with_reducible assumption) | assumption)) (by have h_ : ((ji24) : Int) < ((y508.length : Int) : Int) := of_decide_eq_true (by first | (with_reducible assumption) | assumption); first | exact h_ | (have e_ := (Kd.R_reads' HO510.out).1; omega) | simpa using h_) (seg := [.int .i64 (wrap64 (1 + (Int.tmod ((rd_T37 y508 (ji24)).f1) 2)))]) (j := 1) hcl28 hcc28 (show 2 ≤ 3 from by decide) (x' := (⟨(rd_T37 y508 (ji24)).f0, wrap64 (1 + (Int.tmod ((rd_T37 y508 (ji24)).f1) 2)), (rd_T37 y508 (ji24)).f2⟩ : S37)) (k37_mkM _ _ _ (⟨(rd_T37 y508 (ji24)).f0, wrap64 (1 + (Int.tmod ((rd_T37 y508 (ji24)).f1) 2)), (rd_T37 y508 (ji24)).f2⟩ : S37) ) (fun _ hk => hk)
                      have hx28_1 := hcc28 1 _ rfl
                      (try simp only [show (k37).sz = 3 from rfl, Nat.mul_one, Nat.add_zero] at hx28_1)
                      have hf28_1 := hfr28 1
                      (try simp only [show (k37).sz = 3 from rfl, Nat.mul_one, Nat.add_zero] at hf28_1)
                      clear hcl28 hcc28 hfr28 hM28
                      go_wp2_with (first | ((with_reducible refine gate_store (t := 3) (p := 71) rfl ?_); refine store_event (t := 3) (p := 71) (v := ?vo_w29) (w1 := (w20.setCell ⟨go27, ((ji24) : Int).toNat * 3 + 1, none⟩ (.int .i64 (wrap64 (1 + (Int.tmod ((rd_T37 y508 (ji24)).f1) 2)))))) ?hg ?ho ?hn ?hr ?_; (case ho => rfl); (case hg => rfl); (case hn => rfl); (case hr => first | (go_simp; done) | (go_simp; rfl)); intro w29 hw; have hg : w20.grownBy w29 (some go27) := (by rw [hw]; exact HP28.2); have hp_ : Kd.R k37 37 w29 w.heap.size (fun k_ => some k_ ≠ (.slice Ao21 t502.length co21 : Value).ownBlock) (.slice (some ⟨go27, 0, none⟩) y508.length co22) y512 := (by rw [hw, Ny512.out]; exact HP28.1); clear HP28; have n0_ := Aside0.mk (Kd.R_after (v := (.slice (some ⟨go27, 0, none⟩) y508.length co22)) (v1 := (.slice (some ⟨go27, 0, none⟩) y508.length co22)) (ok := (fun _ => True)) (by (with_reducible repeat (first | apply Kd.R_alloc | apply Kd.R_drewN | apply Kd.R_drew)); exact HO504.out) hg (.inl rfl)); have n1_ := Aside0.mk (hp_); have n2_ := Aside0.mk ((by rw [hw]; exact below_set (HB.out) GB27.out : Below w.heap.size w w29)); clear HO504; clear HO510; clear HB; have HO504 := n0_; have HO510 := n1_; have HB := n2_; clear n0_ n1_ n2_; clear hg hw hp_))
                      go_meet
                      case rel => exact ⟨_, (t502), (y512), H', ⟨by have := HK1.out; first | omega | exact Nat.le_refl _⟩, ⟨by (with_reducible repeat (first | apply Kd.R_alloc | apply Kd.R_drewN | apply Kd.R_drew)); exact Kd.R_mono HO504.out (fun _ hk => by first | exact hk.2 | exact fun e_ => hk.2 (e_.trans ((show ∀ (A : Option Addr) (n m c : Nat), (Value.slice A n c).ownBlock = (Value.slice A m c).ownBlock from fun A _ _ _ => by cases A <;> rfl) _ _ _ _)))⟩, ⟨by (with_reducible repeat (first | apply Kd.R_alloc | apply Kd.R_drewN | apply Kd.R_drew)); exact HO510.out⟩, ⟨by repeat (first | (with_reducible first | exact HB.out | apply below_alloc | apply pw_below_drewN | apply below_drew1) | exact HB.out)⟩⟩
                    · rw [if_neg c26] at H
                      exact absurd H (by simp)
                  · rw [if_neg c25] at H
                    exact absurd H (by simp)
                · rw [if_neg c23] at H
                  have c23b0 : ((Int.tmod a3 4) == 0) = false := beq_eq_false_iff_ne.mpr c23
                  have c23b1 : ((Int.tmod a3 4) != 0) = true := bne_iff_ne.mpr c23
                  (first | rw [c23b0] | (simp only [i64_w, i32_w]; rw [c23b0]) | skip)
                  by_cases c30 : (Int.tmod a3 4) = 1
                  · rw [if_pos c30] at H
                    have c30b0 : ((Int.tmod a3 4) == 1) = true := beq_iff_eq.mpr c30
                    have c30b1 : ((Int.tmod a3 4) != 1) = false := bne_eq_false_iff_eq.mpr c30
                    clear c30
                    obtain ⟨ji31, hji31⟩ : ∃ j_ : Int, (Int.tmod (wrap64 (a2)) (y508.length : Int)) = j_ := ⟨_, rfl⟩
                    replace H : (if 0 ≤ (ji31) then (if (ji31) < (y508.length : Int) then (if ((rd_T37 y508 (ji31)).f2).size + 1 ≤ 9223372036854775807 then (shelfmarklaw10_NarTwo.j1 k1 t502 (y508.set ((ji31) : Int).toNat (⟨(rd_T37 y508 (ji31)).f0, (rd_T37 y508 (ji31)).f1, ((rd_T37 y508 (ji31)).f2) ++ (⟨#[121]⟩ : ByteArray)⟩ : S37))) else (none)) else (none)) else (none)) = some r := by first | (rw [hji31] at H; exact H) | (simp only [hji31] at H ⊢; exact H)
                    by_cases c32 : 0 ≤ (ji31)
                    · rw [if_pos c32] at H
                      have c32b0 : decide (0 ≤ (ji31)) = true := decide_eq_true c32
                      clear c32
                      by_cases c33 : (ji31) < (y508.length : Int)
                      · rw [if_pos c33] at H
                        have c33b0 : decide ((ji31) < (y508.length : Int)) = true := decide_eq_true c33
                        clear c33
                        by_cases c34 : ((rd_T37 y508 (ji31)).f2).size + 1 ≤ 9223372036854775807
                        · rw [if_pos c34] at H
                          have c34b0 := eq_true c34
                          have c34b1 : decide (((rd_T37 y508 (ji31)).f2).size + 1 ≤ 9223372036854775807) = true := decide_eq_true c34
                          try have c34b2 : (9223372036854775807 < ((rd_T37 y508 (ji31)).f2).size + 1) = False := eq_false (Nat.not_lt.2 c34)
                          obtain ⟨y514, hy514⟩ : ∃ y_ : List (S37), y_ = (y508.set ((ji31) : Int).toNat (⟨(rd_T37 y508 (ji31)).f0, (rd_T37 y508 (ji31)).f1, ((rd_T37 y508 (ji31)).f2) ++ (⟨#[121]⟩ : ByteArray)⟩ : S37)) := ⟨_, rfl⟩
                          replace H : (shelfmarklaw10_NarTwo.j1 k1 t502 y514) = some r := by first | (rw [hy514]; with_reducible exact H) | (have H2_ := (Option.bind_some _ _).symm.trans H; rw [hy514]; with_reducible exact H2_) | (have H2_ := (Option.bind_some _ _).symm.trans H; with_reducible exact H2_) | with_reducible exact H | (rw [hy514]; exact H) | exact H
                          have Ny514 := Aside0.mk hy514
                          clear hy514
                          have H' := Aside0.mk H
                          clear H
                          have p513 : 0 ≤ ((ji31) : Int) := of_decide_eq_true (by first | (with_reducible assumption) | assumption)
                          have q513 : (ji31) < (y508.length : Int) := of_decide_eq_true (by first | (with_reducible assumption) | assumption)
                          obtain ⟨ad513, e513, hx513_0, hx513_1, hx513_2⟩ := at_T37 (Kd.R_reads' HO510.out).2.2 (ji31) p513 q513
                          cases e513
                          replace p513 := eq_true p513
                          replace q513 := eq_true q513
                          have p35 : 0 ≤ ((ji31) : Int) := of_decide_eq_true (by first | (with_reducible assumption) | assumption)
                          have q35 : ((ji31) : Int) < ((y508.length : Int) : Int) := of_decide_eq_true (by first | (with_reducible assumption) | assumption)
                          obtain ⟨go35, co35, eo35, gb35, gl35, cl35, HG35⟩ := Kd.R_form HO510.out (by omega)
                          (first | cases eo35 | (injection eo35 with ea_ en_ ec_; (first | subst ea_ | (injection ea_ with ea_; subst ea_)); subst ec_; clear en_))
                          have GB35 := Aside0.mk gb35
                          have GG35 := Aside0.mk HG35
                          clear gb35 gl35 HG35
                          (first | simp only [add_plain] at hx513_0 | skip)
                          (first | simp only [add_plain] at hx513_1 | skip)
                          (first | simp only [add_plain] at hx513_2 | skip)
                          obtain ⟨ce35, hcl35, hM35, hcc35, hfr35⟩ := Kd.R_elem HO510.out z37 ((ji31) : Int) p35 q35
                          obtain rfl := k37_openM hM35
                          have hx35_0 : w20.cell? ⟨go35, ((ji31) : Int).toNat * 3, none⟩ = some (.string ((rd_T37 y508 (ji31)).f0)) := hcc35 0 _ rfl
                          have hx35_1 : w20.cell? ⟨go35, ((ji31) : Int).toNat * 3 + 1, none⟩ = some (.int .i64 ((rd_T37 y508 (ji31)).f1)) := hcc35 1 _ rfl
                          have hx35_2 : w20.cell? ⟨go35, ((ji31) : Int).toNat * 3 + 2, none⟩ = some (.string ((rd_T37 y508 (ji31)).f2)) := hcc35 2 _ rfl
                          have hf35_0 : w20.frozen? ⟨go35, ((ji31) : Int).toNat * 3, none⟩ = false := hfr35 0
                          have hf35_1 : w20.frozen? ⟨go35, ((ji31) : Int).toNat * 3 + 1, none⟩ = false := hfr35 1
                          have hf35_2 : w20.frozen? ⟨go35, ((ji31) : Int).toNat * 3 + 2, none⟩ = false := hfr35 2
                          clear hcl35 hcc35 hfr35 hM35
                          replace p35 := eq_true p35
                          replace q35 := eq_true q35
                          have HX36 := Aside0.mk (show Kd.R k37 37 w20 w.heap.size (fun k_ => some k_ ≠ (.slice Ao21 t502.length co21 : Value).ownBlock) (.slice (some ⟨go35, 0, none⟩) y508.length co22) y508 from (by (with_reducible repeat (first | apply Kd.R_alloc | apply Kd.R_drewN | apply Kd.R_drew)); exact HO510.out))
                          obtain ⟨ce36, hcl36, hM36, hcc36, hfr36⟩ := Kd.R_elem HX36.out z37 ((ji31) : Int) (of_decide_eq_true (by first | (with_reducible assumption) | assumption)) (by have h_ : ((ji31) : Int) < ((y508.length : Int) : Int) := of_decide_eq_true (by first | (with_reducible assumption) | assumption); first | exact h_ | (have e_ := (Kd.R_reads' HO510.out).1; omega) | simpa using h_)
                          obtain rfl := k37_openM hM36
                          have HP36 := Kd.R_seg HX36.out ((ji31) : Int) (of_decide_eq_true (by first | (with_reducible assumption) | assumption)) (by have h_ : ((ji31) : Int) < ((y508.length : Int) : Int) := of_decide_eq_true (by first | (with_reducible assumption) | assumption); first | exact h_ | (have e_ := (Kd.R_reads' HO510.out).1; omega) | simpa using h_) (seg := [.string (((rd_T37 y508 (ji31)).f2) ++ (⟨#[121]⟩ : ByteArray))]) (j := 2) hcl36 hcc36 (show 3 ≤ 3 from by decide) (x' := (⟨(rd_T37 y508 (ji31)).f0, (rd_T37 y508 (ji31)).f1, ((rd_T37 y508 (ji31)).f2) ++ (⟨#[121]⟩ : ByteArray)⟩ : S37)) (k37_mkM _ _ _ (⟨(rd_T37 y508 (ji31)).f0, (rd_T37 y508 (ji31)).f1, ((rd_T37 y508 (ji31)).f2) ++ (⟨#[121]⟩ : ByteArray)⟩ : S37) ) (fun _ hk => hk)
                          have hx36_2 := hcc36 2 _ rfl
                          (try simp only [show (k37).sz = 3 from rfl, Nat.mul_one, Nat.add_zero] at hx36_2)
                          have hf36_2 := hfr36 2
                          (try simp only [show (k37).sz = 3 from rfl, Nat.mul_one, Nat.add_zero] at hf36_2)
                          clear hcl36 hcc36 hfr36 hM36
                          go_wp2_with (first | ((with_reducible refine gate_store (t := 9) (p := 83) rfl ?_); refine store_event (t := 9) (p := 83) (v := ?vo_w37) (w1 := (w20.setCell ⟨go35, ((ji31) : Int).toNat * 3 + 2, none⟩ (.string (((rd_T37 y508 (ji31)).f2) ++ (⟨#[121]⟩ : ByteArray))))) ?hg ?ho ?hn ?hr ?_; (case ho => rfl); (case hg => rfl); (case hn => rfl); (case hr => first | (go_simp; done) | (go_simp; rfl)); intro w37 hw; have hg : w20.grownBy w37 (some go35) := (by rw [hw]; exact HP36.2); have hp_ : Kd.R k37 37 w37 w.heap.size (fun k_ => some k_ ≠ (.slice Ao21 t502.length co21 : Value).ownBlock) (.slice (some ⟨go35, 0, none⟩) y508.length co22) y514 := (by rw [hw, Ny514.out]; exact HP36.1); clear HP36; have n0_ := Aside0.mk (Kd.R_after (v := (.slice (some ⟨go35, 0, none⟩) y508.length co22)) (v1 := (.slice (some ⟨go35, 0, none⟩) y508.length co22)) (ok := (fun _ => True)) (by (with_reducible repeat (first | apply Kd.R_alloc | apply Kd.R_drewN | apply Kd.R_drew)); exact HO504.out) hg (.inl rfl)); have n1_ := Aside0.mk (hp_); have n2_ := Aside0.mk ((by rw [hw]; exact below_set (HB.out) GB35.out : Below w.heap.size w w37)); clear HO504; clear HO510; clear HB; have HO504 := n0_; have HO510 := n1_; have HB := n2_; clear n0_ n1_ n2_; clear hg hw hp_))
                          go_meet
                          case rel => exact ⟨_, (t502), (y514), H', ⟨by have := HK1.out; first | omega | exact Nat.le_refl _⟩, ⟨by (with_reducible repeat (first | apply Kd.R_alloc | apply Kd.R_drewN | apply Kd.R_drew)); exact Kd.R_mono HO504.out (fun _ hk => by first | exact hk.2 | exact fun e_ => hk.2 (e_.trans ((show ∀ (A : Option Addr) (n m c : Nat), (Value.slice A n c).ownBlock = (Value.slice A m c).ownBlock from fun A _ _ _ => by cases A <;> rfl) _ _ _ _)))⟩, ⟨by (with_reducible repeat (first | apply Kd.R_alloc | apply Kd.R_drewN | apply Kd.R_drew)); exact HO510.out⟩, ⟨by repeat (first | (with_reducible first | exact HB.out | apply below_alloc | apply pw_below_drewN | apply below_drew1) | exact HB.out)⟩⟩
                        · rw [if_neg c34] at H
                          exact absurd H (by simp)
                      · rw [if_neg c33] at H
                        exact absurd H (by simp)
                    · rw [if_neg c32] at H
                      exact absurd H (by simp)
                  · rw [if_neg c30] at H
                    have c30b0 : ((Int.tmod a3 4) == 1) = false := beq_eq_false_iff_ne.mpr c30
                    have c30b1 : ((Int.tmod a3 4) != 1) = true := bne_iff_ne.mpr c30
                    by_cases c38 : (Int.tmod a3 4) = 2
                    · rw [if_pos c38] at H
                      have c38b0 : ((Int.tmod a3 4) == 2) = true := beq_iff_eq.mpr c38
                      have c38b1 : ((Int.tmod a3 4) != 2) = false := bne_eq_false_iff_eq.mpr c38
                      clear c38
                      obtain ⟨ji39, hji39⟩ : ∃ j_ : Int, (wrap64 ((Int.tmod (wrap64 (a2)) (y508.length : Int)) + 1)) = j_ := ⟨_, rfl⟩
                      replace H : (if 0 ≤ (ji39) then (if (ji39) ≤ (y508.length : Int) then (shelfmarklaw10_NarTwo.j1 k1 t502 (y508.take ((ji39) : Int).toNat)) else (none)) else (none)) = some r := by first | (rw [hji39] at H; exact H) | (simp only [hji39] at H ⊢; exact H)
                      have hji39w : (IntKind.i64.wrap ((Int.tmod (wrap64 (a2)) (y508.length : Int)) + 1)) = ji39 := (i64_w _).trans hji39
                      by_cases c40 : 0 ≤ (ji39)
                      · rw [if_pos c40] at H
                        have c40b0 := eq_true c40
                        have c40b1 : decide (0 ≤ (ji39)) = true := decide_eq_true c40
                        clear c40
                        by_cases c41 : (ji39) ≤ (y508.length : Int)
                        · rw [if_pos c41] at H
                          have c41b0 := eq_true c41
                          have c41b1 : decide ((ji39) ≤ (y508.length : Int)) = true := decide_eq_true c41
                          clear c41
                          obtain ⟨y515, hy515⟩ : ∃ y_ : List (S37), y_ = (y508.take ((ji39) : Int).toNat) := ⟨_, rfl⟩
                          replace H : (shelfmarklaw10_NarTwo.j1 k1 t502 y515) = some r := by first | (rw [hy515]; with_reducible exact H) | (have H2_ := (Option.bind_some _ _).symm.trans H; rw [hy515]; with_reducible exact H2_) | (have H2_ := (Option.bind_some _ _).symm.trans H; with_reducible exact H2_) | with_reducible exact H | (rw [hy515]; exact H) | exact H
                          have Ny515 := Aside0.mk hy515
                          clear hy515
                          have H' := Aside0.mk H
                          clear H
                          have q42 : ((ji39) : Int) ≤ ((y508.length : Int) : Int) := of_decide_eq_true (by first | (with_reducible assumption) | assumption)
                          obtain ⟨i042, hi042, _, hsz42, _⟩ := info_parts info37
                          have hcut42 := cut_to (P := Try.prog) 25 37 .i64 Try.underlying25 hi042 Ao22 y508.length co22 (ji39) (of_decide_eq_true (by first | (with_reducible assumption) | assumption)) q42 (Kd.R_reads' HO510.out).2.1
                          have hr42 := Kd.R_take (m := ((ji39) : Int).toNat) HO510.out (by omega)
                          have hy42 : y515.length = ((ji39) : Int).toNat := (by rw [Ny515.out, List.length_take]; omega)
                          rw [← Ny515.out] at hr42
                          rw [← hy42] at hr42 hcut42
                          clear hy42 hi042 hsz42 HO510
                          have HO517 := Aside0.mk hr42
                          clear hr42
                          replace q42 := eq_true q42
                          go_wp2
                          go_meet
                          case rel => exact ⟨_, (t502), (y515), H', ⟨by have := HK1.out; first | omega | exact Nat.le_refl _⟩, ⟨by (with_reducible repeat (first | apply Kd.R_alloc | apply Kd.R_drewN | apply Kd.R_drew)); exact Kd.R_mono HO504.out (fun _ hk => by first | exact hk.2 | exact fun e_ => hk.2 (e_.trans ((show ∀ (A : Option Addr) (n m c : Nat), (Value.slice A n c).ownBlock = (Value.slice A m c).ownBlock from fun A _ _ _ => by cases A <;> rfl) _ _ _ _)))⟩, ⟨by (with_reducible repeat (first | apply Kd.R_alloc | apply Kd.R_drewN | apply Kd.R_drew)); exact HO517.out⟩, ⟨by repeat (first | (with_reducible first | exact HB.out | apply below_alloc | apply pw_below_drewN | apply below_drew1) | exact HB.out)⟩⟩
                        · rw [if_neg c41] at H
                          exact absurd H (by simp)
                      · rw [if_neg c40] at H
                        exact absurd H (by simp)
                    · rw [if_neg c38] at H
                      have c38b0 : ((Int.tmod a3 4) == 2) = false := beq_eq_false_iff_ne.mpr c38
                      have c38b1 : ((Int.tmod a3 4) != 2) = true := bne_iff_ne.mpr c38
                      by_cases c43 : (Int.tmod (wrap64 (a2)) (y508.length : Int)) > 0
                      · rw [if_pos c43] at H
                        have c43b0 : decide (0 < (Int.tmod (wrap64 (a2)) (y508.length : Int))) = true := decide_eq_true c43
                        clear c43
                        obtain ⟨ji44, hji44⟩ : ∃ j_ : Int, (Int.tmod (wrap64 (a2)) (y508.length : Int)) = j_ := ⟨_, rfl⟩
                        replace H : (if 0 ≤ (ji44) then (if (ji44) < (y508.length : Int) then (if ((rd_T37 y508 (ji44)).f0).size + 1 ≤ 9223372036854775807 then (shelfmarklaw10_NarTwo.j1 k1 t502 (y508.set ((ji44) : Int).toNat (⟨((rd_T37 y508 (ji44)).f0) ++ (⟨#[113]⟩ : ByteArray), (rd_T37 y508 (ji44)).f1, (rd_T37 y508 (ji44)).f2⟩ : S37))) else (none)) else (none)) else (none)) = some r := by first | (rw [hji44] at H; exact H) | (simp only [hji44] at H ⊢; exact H)
                        (try rw [hji44] at c43b0)
                        by_cases c45 : 0 ≤ (ji44)
                        · rw [if_pos c45] at H
                          have c45b0 : decide (0 ≤ (ji44)) = true := decide_eq_true c45
                          clear c45
                          by_cases c46 : (ji44) < (y508.length : Int)
                          · rw [if_pos c46] at H
                            have c46b0 : decide ((ji44) < (y508.length : Int)) = true := decide_eq_true c46
                            clear c46
                            by_cases c47 : ((rd_T37 y508 (ji44)).f0).size + 1 ≤ 9223372036854775807
                            · rw [if_pos c47] at H
                              have c47b0 := eq_true c47
                              have c47b1 : decide (((rd_T37 y508 (ji44)).f0).size + 1 ≤ 9223372036854775807) = true := decide_eq_true c47
                              try have c47b2 : (9223372036854775807 < ((rd_T37 y508 (ji44)).f0).size + 1) = False := eq_false (Nat.not_lt.2 c47)
                              obtain ⟨y519, hy519⟩ : ∃ y_ : List (S37), y_ = (y508.set ((ji44) : Int).toNat (⟨((rd_T37 y508 (ji44)).f0) ++ (⟨#[113]⟩ : ByteArray), (rd_T37 y508 (ji44)).f1, (rd_T37 y508 (ji44)).f2⟩ : S37)) := ⟨_, rfl⟩
                              replace H : (shelfmarklaw10_NarTwo.j1 k1 t502 y519) = some r := by first | (rw [hy519]; with_reducible exact H) | (have H2_ := (Option.bind_some _ _).symm.trans H; rw [hy519]; with_reducible exact H2_) | (have H2_ := (Option.bind_some _ _).symm.trans H; with_reducible exact H2_) | with_reducible exact H | (rw [hy519]; exact H) | exact H
                              have Ny519 := Aside0.mk hy519
                              clear hy519
                              have H' := Aside0.mk H
                              clear H
                              have p518 : 0 ≤ ((ji44) : Int) := of_decide_eq_true (by first | (with_reducible assumption) | assumption)
                              have q518 : (ji44) < (y508.length : Int) := of_decide_eq_true (by first | (with_reducible assumption) | assumption)
                              obtain ⟨ad518, e518, hx518_0, hx518_1, hx518_2⟩ := at_T37 (Kd.R_reads' HO510.out).2.2 (ji44) p518 q518
                              cases e518
                              replace p518 := eq_true p518
                              replace q518 := eq_true q518
                              have p48 : 0 ≤ ((ji44) : Int) := of_decide_eq_true (by first | (with_reducible assumption) | assumption)
                              have q48 : ((ji44) : Int) < ((y508.length : Int) : Int) := of_decide_eq_true (by first | (with_reducible assumption) | assumption)
                              obtain ⟨go48, co48, eo48, gb48, gl48, cl48, HG48⟩ := Kd.R_form HO510.out (by omega)
                              (first | cases eo48 | (injection eo48 with ea_ en_ ec_; (first | subst ea_ | (injection ea_ with ea_; subst ea_)); subst ec_; clear en_))
                              have GB48 := Aside0.mk gb48
                              have GG48 := Aside0.mk HG48
                              clear gb48 gl48 HG48
                              (first | simp only [add_plain] at hx518_0 | skip)
                              (first | simp only [add_plain] at hx518_1 | skip)
                              (first | simp only [add_plain] at hx518_2 | skip)
                              obtain ⟨ce48, hcl48, hM48, hcc48, hfr48⟩ := Kd.R_elem HO510.out z37 ((ji44) : Int) p48 q48
                              obtain rfl := k37_openM hM48
                              have hx48_0 : w20.cell? ⟨go48, ((ji44) : Int).toNat * 3, none⟩ = some (.string ((rd_T37 y508 (ji44)).f0)) := hcc48 0 _ rfl
                              have hx48_1 : w20.cell? ⟨go48, ((ji44) : Int).toNat * 3 + 1, none⟩ = some (.int .i64 ((rd_T37 y508 (ji44)).f1)) := hcc48 1 _ rfl
                              have hx48_2 : w20.cell? ⟨go48, ((ji44) : Int).toNat * 3 + 2, none⟩ = some (.string ((rd_T37 y508 (ji44)).f2)) := hcc48 2 _ rfl
                              have hf48_0 : w20.frozen? ⟨go48, ((ji44) : Int).toNat * 3, none⟩ = false := hfr48 0
                              have hf48_1 : w20.frozen? ⟨go48, ((ji44) : Int).toNat * 3 + 1, none⟩ = false := hfr48 1
                              have hf48_2 : w20.frozen? ⟨go48, ((ji44) : Int).toNat * 3 + 2, none⟩ = false := hfr48 2
                              clear hcl48 hcc48 hfr48 hM48
                              replace p48 := eq_true p48
                              replace q48 := eq_true q48
                              have HX49 := Aside0.mk (show Kd.R k37 37 w20 w.heap.size (fun k_ => some k_ ≠ (.slice Ao21 t502.length co21 : Value).ownBlock) (.slice (some ⟨go48, 0, none⟩) y508.length co22) y508 from (by (with_reducible repeat (first | apply Kd.R_alloc | apply Kd.R_drewN | apply Kd.R_drew)); exact HO510.out))
                              obtain ⟨ce49, hcl49, hM49, hcc49, hfr49⟩ := Kd.R_elem HX49.out z37 ((ji44) : Int) (of_decide_eq_true (by first | (with_reducible assumption) | assumption)) (by have h_ : ((ji44) : Int) < ((y508.length : Int) : Int) := of_decide_eq_true (by first | (with_reducible assumption) | assumption); first | exact h_ | (have e_ := (Kd.R_reads' HO510.out).1; omega) | simpa using h_)
                              obtain rfl := k37_openM hM49
                              have HP49 := Kd.R_seg HX49.out ((ji44) : Int) (of_decide_eq_true (by first | (with_reducible assumption) | assumption)) (by have h_ : ((ji44) : Int) < ((y508.length : Int) : Int) := of_decide_eq_true (by first | (with_reducible assumption) | assumption); first | exact h_ | (have e_ := (Kd.R_reads' HO510.out).1; omega) | simpa using h_) (seg := [.string (((rd_T37 y508 (ji44)).f0) ++ (⟨#[113]⟩ : ByteArray))]) (j := 0) hcl49 hcc49 (show 1 ≤ 3 from by decide) (x' := (⟨((rd_T37 y508 (ji44)).f0) ++ (⟨#[113]⟩ : ByteArray), (rd_T37 y508 (ji44)).f1, (rd_T37 y508 (ji44)).f2⟩ : S37)) (k37_mkM _ _ _ (⟨((rd_T37 y508 (ji44)).f0) ++ (⟨#[113]⟩ : ByteArray), (rd_T37 y508 (ji44)).f1, (rd_T37 y508 (ji44)).f2⟩ : S37) ) (fun _ hk => hk)
                              have hx49_0 := hcc49 0 _ rfl
                              (try simp only [show (k37).sz = 3 from rfl, Nat.mul_one, Nat.add_zero] at hx49_0)
                              have hf49_0 := hfr49 0
                              (try simp only [show (k37).sz = 3 from rfl, Nat.mul_one, Nat.add_zero] at hf49_0)
                              clear hcl49 hcc49 hfr49 hM49
                              go_wp2_with (first | ((with_reducible refine gate_store (t := 9) (p := 58) rfl ?_); refine store_event (t := 9) (p := 58) (v := ?vo_w50) (w1 := (w20.setCell ⟨go48, ((ji44) : Int).toNat * 3, none⟩ (.string (((rd_T37 y508 (ji44)).f0) ++ (⟨#[113]⟩ : ByteArray))))) ?hg ?ho ?hn ?hr ?_; (case ho => rfl); (case hg => rfl); (case hn => rfl); (case hr => first | (go_simp; done) | (go_simp; rfl)); intro w50 hw; have hg : w20.grownBy w50 (some go48) := (by rw [hw]; exact HP49.2); have hp_ : Kd.R k37 37 w50 w.heap.size (fun k_ => some k_ ≠ (.slice Ao21 t502.length co21 : Value).ownBlock) (.slice (some ⟨go48, 0, none⟩) y508.length co22) y519 := (by rw [hw, Ny519.out]; exact HP49.1); clear HP49; have n0_ := Aside0.mk (Kd.R_after (v := (.slice (some ⟨go48, 0, none⟩) y508.length co22)) (v1 := (.slice (some ⟨go48, 0, none⟩) y508.length co22)) (ok := (fun _ => True)) (by (with_reducible repeat (first | apply Kd.R_alloc | apply Kd.R_drewN | apply Kd.R_drew)); exact HO504.out) hg (.inl rfl)); have n1_ := Aside0.mk (hp_); have n2_ := Aside0.mk ((by rw [hw]; exact below_set (HB.out) GB48.out : Below w.heap.size w w50)); clear HO504; clear HO510; clear HB; have HO504 := n0_; have HO510 := n1_; have HB := n2_; clear n0_ n1_ n2_; clear hg hw hp_))
                              go_meet
                              case rel => exact ⟨_, (t502), (y519), H', ⟨by have := HK1.out; first | omega | exact Nat.le_refl _⟩, ⟨by (with_reducible repeat (first | apply Kd.R_alloc | apply Kd.R_drewN | apply Kd.R_drew)); exact Kd.R_mono HO504.out (fun _ hk => by first | exact hk.2 | exact fun e_ => hk.2 (e_.trans ((show ∀ (A : Option Addr) (n m c : Nat), (Value.slice A n c).ownBlock = (Value.slice A m c).ownBlock from fun A _ _ _ => by cases A <;> rfl) _ _ _ _)))⟩, ⟨by (with_reducible repeat (first | apply Kd.R_alloc | apply Kd.R_drewN | apply Kd.R_drew)); exact HO510.out⟩, ⟨by repeat (first | (with_reducible first | exact HB.out | apply below_alloc | apply pw_below_drewN | apply below_drew1) | exact HB.out)⟩⟩
                            · rw [if_neg c47] at H
                              exact absurd H (by simp)
                          · rw [if_neg c46] at H
                            exact absurd H (by simp)
                        · rw [if_neg c45] at H
                          exact absurd H (by simp)
                      · rw [if_neg c43] at H
                        have c43b0 : decide (0 < (Int.tmod (wrap64 (a2)) (y508.length : Int))) = false := decide_eq_false c43
                        clear c43
                        have H' := Aside0.mk H
                        clear H
                        go_wp2
                        go_meet
                        case rel => exact ⟨_, (t502), (y508), H', ⟨by have := HK1.out; first | omega | exact Nat.le_refl _⟩, ⟨by (with_reducible repeat (first | apply Kd.R_alloc | apply Kd.R_drewN | apply Kd.R_drew)); exact Kd.R_mono HO504.out (fun _ hk => by first | exact hk.2 | exact fun e_ => hk.2 (e_.trans ((show ∀ (A : Option Addr) (n m c : Nat), (Value.slice A n c).ownBlock = (Value.slice A m c).ownBlock from fun A _ _ _ => by cases A <;> rfl) _ _ _ _)))⟩, ⟨by (with_reducible repeat (first | apply Kd.R_alloc | apply Kd.R_drewN | apply Kd.R_drew)); exact HO510.out⟩, ⟨by repeat (first | (with_reducible first | exact HB.out | apply below_alloc | apply pw_below_drewN | apply below_drew1) | exact HB.out)⟩⟩
              case rest =>
                clear HC16
                try clear c1
                try clear c2
                try clear p2
                try clear q2
                try clear hx2
                try clear c3
                try clear p3
                try clear q3
                try clear hx3
                try clear c4
                try clear p4
                try clear q4
                try clear hx4
                try clear hf4
                try clear c5
                try clear c5b0
                try clear c5b1
                try clear p5
                try clear q5
                try clear hx5
                try clear p6
                try clear c8
                try clear c8b0
                try clear c9
                try clear c9b0
                try clear c10
                try clear c10b0
                try clear c10b1
                try clear c11
                try clear c12
                try clear c14
                try clear c15
                try clear c15b0
                try clear c15b1
                try clear c15b2
                try clear c23
                try clear c23b0
                try clear c23b1
                try clear c25
                try clear c25b0
                try clear c26
                try clear c26b0
                try clear c27
                try clear p27
                try clear q27
                try clear hx27
                try clear hf27
                try clear c28
                try clear hx28
                try clear hf28
                try clear c30
                try clear c30b0
                try clear c30b1
                try clear c32
                try clear c32b0
                try clear c33
                try clear c33b0
                try clear c34
                try clear c34b0
                try clear c34b1
                try clear c34b2
                try clear c35
                try clear p35
                try clear q35
                try clear hx35
                try clear hf35
                try clear c36
                try clear hx36
                try clear hf36
                try clear c38
                try clear c38b0
                try clear c38b1
                try clear c40
                try clear c40b0
                try clear c40b1
                try clear c41
                try clear c41b0
                try clear c41b1
                try clear q42
                try clear c43
                try clear c43b0
                try clear c45
                try clear c45b0
                try clear c46
                try clear c46b0
                try clear c47
                try clear c47b0
                try clear c47b1
                try clear c47b2
                try clear c48
                try clear p48
                try clear q48
                try clear hx48
                try clear hf48
                try clear c49
                try clear hx49
                try clear hf49
                try clear p50
                try clear q50
                try clear hx50
                try clear hx27_0
                try clear hx27_1
                try clear hx27_2
                try clear hx28_1
                try clear hx35_0
                try clear hx35_1
                try clear hx35_2
                try clear hx36_2
                try clear hx48_0
                try clear hx48_1
                try clear hx48_2
                try clear hx49_0
                try clear hx500_0
                try clear hx511_0
                try clear hx511_1
                try clear hx511_2
                try clear hx513_0
                try clear hx513_1
                try clear hx513_2
                try clear hx518_0
                try clear hx518_1
                try clear hx518_2
                try clear p2
                try clear p27
                try clear p35
                try clear p48
                try clear p500
                try clear p511
                try clear p513
                try clear p518
                try clear q27
                try clear q35
                try clear q42
                try clear q48
                try clear q500
                try clear q511
                try clear q513
                try clear q518
                obtain ⟨kq, x10_15, x11_15, HA, HJ15, HO_10, HO_11, HB⟩ := hcut
                have hl10_15 := (Kd.R_reads' HO_10.out).1
                rw [hl10_15] at HO_10
                (try simp only [hl10_15])
                (try simp only [hl10_15] at HO_11)
                cases kq with
                | zero => exact absurd HA.out (by simp [shelfmarklaw10_NarTwo.j1])
                | succ kj15 =>
                  have H := HA.out
                  clear HA
                  simp only [shelfmarklaw10_NarTwo.j1] at H
                  replace H := Option.bind_eq_some_iff.mp H
                  obtain ⟨⟨t520, t521⟩, A510, H⟩ := H
                  replace H : ((nar_Pack.f x11_15).bind fun bt522 => ((shelfmarklaw1_Err.f t521).bind fun t524 => (if t524 = 0 then ((shelfmarklaw1_Err.f bt522.2).bind fun t525 => (if t525 = 0 then ((nar_Same.f kj15 x10_15 x11_15).bind fun t526 => (if ((t520.toList == bt522.1.toList) == t526) = true then ((nar_Same.f kj15 x10_15 x10_15).bind fun t527 => (if t527 = true then ((shelfmarklaw10_awake.f kj15).bind fun t528 => (some t528)) else (some false))) else (some false))) else ((nar_Same.f kj15 x10_15 x10_15).bind fun t529 => (if t529 = true then ((shelfmarklaw10_awake.f kj15).bind fun t530 => (some t530)) else (some false))))) else (some false)))) = some r := H
                  have A51 := Aside0.mk A510
                  clear A510
                  replace H := Option.bind_eq_some_iff.mp H
                  obtain ⟨⟨t522, t523⟩, A520, H⟩ := H
                  replace H : ((shelfmarklaw1_Err.f t521).bind fun t524 => (if t524 = 0 then ((shelfmarklaw1_Err.f t523).bind fun t525 => (if t525 = 0 then ((nar_Same.f kj15 x10_15 x11_15).bind fun t526 => (if ((t520.toList == t522.toList) == t526) = true then ((nar_Same.f kj15 x10_15 x10_15).bind fun t527 => (if t527 = true then ((shelfmarklaw10_awake.f kj15).bind fun t528 => (some t528)) else (some false))) else (some false))) else ((nar_Same.f kj15 x10_15 x10_15).bind fun t529 => (if t529 = true then ((shelfmarklaw10_awake.f kj15).bind fun t530 => (some t530)) else (some false))))) else (some false))) = some r := H
                  have A52 := Aside0.mk A520
                  clear A520
                  replace H := Option.bind_eq_some_iff.mp H
                  obtain ⟨t524, A530, H⟩ := H
                  replace H : (if t524 = 0 then ((shelfmarklaw1_Err.f t523).bind fun t525 => (if t525 = 0 then ((nar_Same.f kj15 x10_15 x11_15).bind fun t526 => (if ((t520.toList == t522.toList) == t526) = true then ((nar_Same.f kj15 x10_15 x10_15).bind fun t527 => (if t527 = true then ((shelfmarklaw10_awake.f kj15).bind fun t528 => (some t528)) else (some false))) else (some false))) else ((nar_Same.f kj15 x10_15 x10_15).bind fun t529 => (if t529 = true then ((shelfmarklaw10_awake.f kj15).bind fun t530 => (some t530)) else (some false))))) else (some false)) = some r := H
                  have A53 := Aside0.mk A530
                  clear A530
                  by_cases c54 : t524 = 0
                  · rw [if_pos c54] at H
                    have c54b0 : (t524 == 0) = true := beq_iff_eq.mpr c54
                    have c54b1 : (t524 != 0) = false := bne_eq_false_iff_eq.mpr c54
                    clear c54
                    replace H := Option.bind_eq_some_iff.mp H
                    obtain ⟨t525, A550, H⟩ := H
                    replace H : (if t525 = 0 then ((nar_Same.f kj15 x10_15 x11_15).bind fun t526 => (if ((t520.toList == t522.toList) == t526) = true then ((nar_Same.f kj15 x10_15 x10_15).bind fun t527 => (if t527 = true then ((shelfmarklaw10_awake.f kj15).bind fun t528 => (some t528)) else (some false))) else (some false))) else ((nar_Same.f kj15 x10_15 x10_15).bind fun t529 => (if t529 = true then ((shelfmarklaw10_awake.f kj15).bind fun t530 => (some t530)) else (some false)))) = some r := H
                    have A55 := Aside0.mk A550
                    clear A550
                    by_cases c56 : t525 = 0
                    · rw [if_pos c56] at H
                      have c56b0 : (t525 == 0) = true := beq_iff_eq.mpr c56
                      have c56b1 : (t525 != 0) = false := bne_eq_false_iff_eq.mpr c56
                      clear c56
                      replace H := Option.bind_eq_some_iff.mp H
                      obtain ⟨t526, A570, H⟩ := H
                      replace H : (if ((t520.toList == t522.toList) == t526) = true then ((nar_Same.f kj15 x10_15 x10_15).bind fun t527 => (if t527 = true then ((shelfmarklaw10_awake.f kj15).bind fun t528 => (some t528)) else (some false))) else (some false)) = some r := H
                      have A57 := Aside0.mk A570
                      clear A570
                      by_cases c58 : ((t520.toList == t522.toList) == t526) = true
                      · rw [if_pos c58] at H
                        have c58b0 : ((t520.toList == t522.toList) == t526) = true := c58
                        (try (have c58b1 : decide ((t520.toList == t522.toList) = t526) = true := by simpa using c58))
                        (try (have c58b2 : ((t520.toList == t522.toList) == t526) = true := by simpa using c58))
                        clear c58
                        replace H := Option.bind_eq_some_iff.mp H
                        obtain ⟨t527, A590, H⟩ := H
                        replace H : (if t527 = true then ((shelfmarklaw10_awake.f kj15).bind fun t528 => (some t528)) else (some false)) = some r := H
                        have A59 := Aside0.mk A590
                        clear A590
                        by_cases c60 : t527 = true
                        · subst c60
                          have H1 : ((shelfmarklaw10_awake.f kj15).bind fun t528 => (some t528)) = some r := by rw [if_pos rfl] at H; exact H
                          clear H
                          have H := H1
                          clear H1
                          replace H := Option.bind_eq_some_iff.mp H
                          obtain ⟨t528, A610, H⟩ := H
                          replace H : (some t528) = some r := H
                          have A61 := Aside0.mk A610
                          clear A610
                          obtain rfl := Option.some.inj H
                          go_wp2_with (first | ((with_reducible refine gate_callee (f := 13) rfl ?_); refine goesL_ (some 92) rfl rfl Try.func13 (by kernel_rfl) rfl #[.slice Ao21 x10_15.length co21] rfl (by (try simp only [List.map_toArray, List.map_cons, List.map_nil]); first | done | rfl | (simp only [List.length_drop, List.length_take]; rfl)) ?_; (with_reducible refine (nar_Pack.calls _ _ x10_15 t520 t521 _ ?side1 ?side2 A51.out).mono ?_); (case side1 => repeat (first | exact (Kd.R_reads' HO_10.out).2.2 | (with_reducible refine Kd.C_alloc ?_ _) | (with_reducible refine Kd.C_drewN ?_ _) | (with_reducible refine Kd.C_drew ?_))); (case side2 => exact (Kd.R_reads' HO_10.out).2.1); rintro e w62 ⟨rfl, hb⟩; refine ⟨_, rfl, ?_⟩; have n0_ := Aside0.mk (Kd.R_below (by (with_reducible repeat (first | apply Kd.R_alloc | apply Kd.R_drewN | apply Kd.R_drew)); exact HO_10.out) hb); have n1_ := Aside0.mk (Kd.R_below (by (with_reducible repeat (first | apply Kd.R_alloc | apply Kd.R_drewN | apply Kd.R_drew)); exact HO_11.out) hb); have n2_ := Aside0.mk (below_step (by repeat (first | (with_reducible first | exact HB.out | apply below_alloc | apply pw_below_drewN | apply below_drew1) | exact HB.out)) hb); clear HO_10; clear HO_11; clear HB; have HO_10 := n0_; have HO_11 := n1_; have HB := n2_; clear n0_ n1_ n2_; (try clear hb); (try clear hb2); (try clear hk); (try clear hi); obtain ⟨Ao63, co63, eo63⟩ := Kd.R_slice HO_11.out; subst eo63) | ((with_reducible refine gate_callee (f := 13) rfl ?_); refine goesL_ (some 97) rfl rfl Try.func13 (by kernel_rfl) rfl #[.slice Ao63 x11_15.length co63] rfl (by (try simp only [List.map_toArray, List.map_cons, List.map_nil]); first | done | rfl | (simp only [List.length_drop, List.length_take]; rfl)) ?_; (with_reducible refine (nar_Pack.calls _ _ x11_15 t522 t523 _ ?side1 ?side2 A52.out).mono ?_); (case side1 => repeat (first | exact (Kd.R_reads' HO_11.out).2.2 | (with_reducible refine Kd.C_alloc ?_ _) | (with_reducible refine Kd.C_drewN ?_ _) | (with_reducible refine Kd.C_drew ?_))); (case side2 => exact (Kd.R_reads' HO_11.out).2.1); rintro e w64 ⟨rfl, hb⟩; refine ⟨_, rfl, ?_⟩; have n0_ := Aside0.mk (Kd.R_below (by (with_reducible repeat (first | apply Kd.R_alloc | apply Kd.R_drewN | apply Kd.R_drew)); exact HO_10.out) hb); have n1_ := Aside0.mk (Kd.R_below (by (with_reducible repeat (first | apply Kd.R_alloc | apply Kd.R_drewN | apply Kd.R_drew)); exact HO_11.out) hb); have n2_ := Aside0.mk (below_step (by repeat (first | (with_reducible first | exact HB.out | apply below_alloc | apply pw_below_drewN | apply below_drew1) | exact HB.out)) hb); clear HO_10; clear HO_11; clear HB; have HO_10 := n0_; have HO_11 := n1_; have HB := n2_; clear n0_ n1_ n2_; (try clear hb); (try clear hb2); (try clear hk); (try clear hi)) | ((with_reducible refine gate_callee (f := 15) rfl ?_); refine goesL_ (some 101) rfl rfl Try.func15 (by kernel_rfl) rfl #[.int .i64 t521] rfl (by (try simp only [List.map_toArray, List.map_cons, List.map_nil]); first | done | rfl | (simp only [List.length_drop, List.length_take]; rfl)) ?_; (with_reducible refine (shelfmarklaw1_Err.calls t521 t524 _ A53.out).mono ?_); rintro e w' ⟨rfl, ⟨nd, rfl⟩⟩; refine ⟨_, rfl, ?_⟩) | ((with_reducible refine gate_callee (f := 15) rfl ?_); refine goesL_ (some 104) rfl rfl Try.func15 (by kernel_rfl) rfl #[.int .i64 t523] rfl (by (try simp only [List.map_toArray, List.map_cons, List.map_nil]); first | done | rfl | (simp only [List.length_drop, List.length_take]; rfl)) ?_; (with_reducible refine (shelfmarklaw1_Err.calls t523 t525 _ A55.out).mono ?_); rintro e w' ⟨rfl, ⟨nd, rfl⟩⟩; refine ⟨_, rfl, ?_⟩) | (go_at_call 26; (with_reducible refine (nar_Same.calls kj15 _ _ x10_15 _ _ x11_15 t526 _ ?side1 ?side2 ?side3 ?side4 A57.out).mono ?_); (case side1 => repeat (first | exact (Kd.R_reads' HO_10.out).2.2 | (with_reducible refine Kd.C_alloc ?_ _) | (with_reducible refine Kd.C_drewN ?_ _) | (with_reducible refine Kd.C_drew ?_))); (case side2 => exact (Kd.R_reads' HO_10.out).2.1); (case side3 => repeat (first | exact (Kd.R_reads' HO_11.out).2.2 | (with_reducible refine Kd.C_alloc ?_ _) | (with_reducible refine Kd.C_drewN ?_ _) | (with_reducible refine Kd.C_drew ?_))); (case side4 => exact (Kd.R_reads' HO_11.out).2.1); rintro e w' ⟨rfl, ⟨nd, rfl⟩⟩) | (go_at_call 26; (with_reducible refine (nar_Same.calls kj15 _ _ x10_15 _ _ x10_15 true _ ?side1 ?side2 ?side3 ?side4 A59.out).mono ?_); (case side1 => repeat (first | exact (Kd.R_reads' HO_10.out).2.2 | (with_reducible refine Kd.C_alloc ?_ _) | (with_reducible refine Kd.C_drewN ?_ _) | (with_reducible refine Kd.C_drew ?_))); (case side2 => exact (Kd.R_reads' HO_10.out).2.1); (case side3 => repeat (first | exact (Kd.R_reads' HO_10.out).2.2 | (with_reducible refine Kd.C_alloc ?_ _) | (with_reducible refine Kd.C_drewN ?_ _) | (with_reducible refine Kd.C_drew ?_))); (case side4 => exact (Kd.R_reads' HO_10.out).2.1); rintro e w' ⟨rfl, ⟨nd, rfl⟩⟩) | (go_at_call 11; (with_reducible refine (shelfmarklaw10_awake.calls kj15  t528 _ A61.out).mono ?_); rintro e w65 ⟨rfl, hb⟩; have n0_ := Aside0.mk (Kd.R_below (by (with_reducible repeat (first | apply Kd.R_alloc | apply Kd.R_drewN | apply Kd.R_drew)); exact HO_10.out) hb); have n1_ := Aside0.mk (Kd.R_below (by (with_reducible repeat (first | apply Kd.R_alloc | apply Kd.R_drewN | apply Kd.R_drew)); exact HO_11.out) hb); have n2_ := Aside0.mk (below_step (by repeat (first | (with_reducible first | exact HB.out | apply below_alloc | apply pw_below_drewN | apply below_drew1) | exact HB.out)) hb); clear HO_10; clear HO_11; clear HB; have HO_10 := n0_; have HO_11 := n1_; have HB := n2_; clear n0_ n1_ n2_; (try clear hb); (try clear hb2); (try clear hk); (try clear hi)))
                          go_ret
                          exact ⟨by first | rfl | (simp [errW_none, errW_some] <;> rfl) | (simp [*, errW_none, errW_some] <;> rfl), by repeat (first | (with_reducible first | exact HB.out | apply below_alloc | apply pw_below_drewN | apply below_drew1) | exact HB.out)⟩
                        · replace c60 := Bool.eq_false_iff.mpr c60
                          subst c60
                          have H1 : (some false) = some r := by rw [if_neg (show ¬ (false = true) by decide)] at H; exact H
                          clear H
                          have H := H1
                          clear H1
                          obtain rfl := Option.some.inj H
                          go_wp2_with (first | ((with_reducible refine gate_callee (f := 13) rfl ?_); refine goesL_ (some 92) rfl rfl Try.func13 (by kernel_rfl) rfl #[.slice Ao21 x10_15.length co21] rfl (by (try simp only [List.map_toArray, List.map_cons, List.map_nil]); first | done | rfl | (simp only [List.length_drop, List.length_take]; rfl)) ?_; (with_reducible refine (nar_Pack.calls _ _ x10_15 t520 t521 _ ?side1 ?side2 A51.out).mono ?_); (case side1 => repeat (first | exact (Kd.R_reads' HO_10.out).2.2 | (with_reducible refine Kd.C_alloc ?_ _) | (with_reducible refine Kd.C_drewN ?_ _) | (with_reducible refine Kd.C_drew ?_))); (case side2 => exact (Kd.R_reads' HO_10.out).2.1); rintro e w66 ⟨rfl, hb⟩; refine ⟨_, rfl, ?_⟩; have n0_ := Aside0.mk (Kd.R_below (by (with_reducible repeat (first | apply Kd.R_alloc | apply Kd.R_drewN | apply Kd.R_drew)); exact HO_10.out) hb); have n1_ := Aside0.mk (Kd.R_below (by (with_reducible repeat (first | apply Kd.R_alloc | apply Kd.R_drewN | apply Kd.R_drew)); exact HO_11.out) hb); have n2_ := Aside0.mk (below_step (by repeat (first | (with_reducible first | exact HB.out | apply below_alloc | apply pw_below_drewN | apply below_drew1) | exact HB.out)) hb); clear HO_10; clear HO_11; clear HB; have HO_10 := n0_; have HO_11 := n1_; have HB := n2_; clear n0_ n1_ n2_; (try clear hb); (try clear hb2); (try clear hk); (try clear hi); obtain ⟨Ao67, co67, eo67⟩ := Kd.R_slice HO_11.out; subst eo67) | ((with_reducible refine gate_callee (f := 13) rfl ?_); refine goesL_ (some 97) rfl rfl Try.func13 (by kernel_rfl) rfl #[.slice Ao67 x11_15.length co67] rfl (by (try simp only [List.map_toArray, List.map_cons, List.map_nil]); first | done | rfl | (simp only [List.length_drop, List.length_take]; rfl)) ?_; (with_reducible refine (nar_Pack.calls _ _ x11_15 t522 t523 _ ?side1 ?side2 A52.out).mono ?_); (case side1 => repeat (first | exact (Kd.R_reads' HO_11.out).2.2 | (with_reducible refine Kd.C_alloc ?_ _) | (with_reducible refine Kd.C_drewN ?_ _) | (with_reducible refine Kd.C_drew ?_))); (case side2 => exact (Kd.R_reads' HO_11.out).2.1); rintro e w68 ⟨rfl, hb⟩; refine ⟨_, rfl, ?_⟩; have n0_ := Aside0.mk (Kd.R_below (by (with_reducible repeat (first | apply Kd.R_alloc | apply Kd.R_drewN | apply Kd.R_drew)); exact HO_10.out) hb); have n1_ := Aside0.mk (Kd.R_below (by (with_reducible repeat (first | apply Kd.R_alloc | apply Kd.R_drewN | apply Kd.R_drew)); exact HO_11.out) hb); have n2_ := Aside0.mk (below_step (by repeat (first | (with_reducible first | exact HB.out | apply below_alloc | apply pw_below_drewN | apply below_drew1) | exact HB.out)) hb); clear HO_10; clear HO_11; clear HB; have HO_10 := n0_; have HO_11 := n1_; have HB := n2_; clear n0_ n1_ n2_; (try clear hb); (try clear hb2); (try clear hk); (try clear hi)) | ((with_reducible refine gate_callee (f := 15) rfl ?_); refine goesL_ (some 101) rfl rfl Try.func15 (by kernel_rfl) rfl #[.int .i64 t521] rfl (by (try simp only [List.map_toArray, List.map_cons, List.map_nil]); first | done | rfl | (simp only [List.length_drop, List.length_take]; rfl)) ?_; (with_reducible refine (shelfmarklaw1_Err.calls t521 t524 _ A53.out).mono ?_); rintro e w' ⟨rfl, ⟨nd, rfl⟩⟩; refine ⟨_, rfl, ?_⟩) | ((with_reducible refine gate_callee (f := 15) rfl ?_); refine goesL_ (some 104) rfl rfl Try.func15 (by kernel_rfl) rfl #[.int .i64 t523] rfl (by (try simp only [List.map_toArray, List.map_cons, List.map_nil]); first | done | rfl | (simp only [List.length_drop, List.length_take]; rfl)) ?_; (with_reducible refine (shelfmarklaw1_Err.calls t523 t525 _ A55.out).mono ?_); rintro e w' ⟨rfl, ⟨nd, rfl⟩⟩; refine ⟨_, rfl, ?_⟩) | (go_at_call 26; (with_reducible refine (nar_Same.calls kj15 _ _ x10_15 _ _ x11_15 t526 _ ?side1 ?side2 ?side3 ?side4 A57.out).mono ?_); (case side1 => repeat (first | exact (Kd.R_reads' HO_10.out).2.2 | (with_reducible refine Kd.C_alloc ?_ _) | (with_reducible refine Kd.C_drewN ?_ _) | (with_reducible refine Kd.C_drew ?_))); (case side2 => exact (Kd.R_reads' HO_10.out).2.1); (case side3 => repeat (first | exact (Kd.R_reads' HO_11.out).2.2 | (with_reducible refine Kd.C_alloc ?_ _) | (with_reducible refine Kd.C_drewN ?_ _) | (with_reducible refine Kd.C_drew ?_))); (case side4 => exact (Kd.R_reads' HO_11.out).2.1); rintro e w' ⟨rfl, ⟨nd, rfl⟩⟩) | (go_at_call 26; (with_reducible refine (nar_Same.calls kj15 _ _ x10_15 _ _ x10_15 false _ ?side1 ?side2 ?side3 ?side4 A59.out).mono ?_); (case side1 => repeat (first | exact (Kd.R_reads' HO_10.out).2.2 | (with_reducible refine Kd.C_alloc ?_ _) | (with_reducible refine Kd.C_drewN ?_ _) | (with_reducible refine Kd.C_drew ?_))); (case side2 => exact (Kd.R_reads' HO_10.out).2.1); (case side3 => repeat (first | exact (Kd.R_reads' HO_10.out).2.2 | (with_reducible refine Kd.C_alloc ?_ _) | (with_reducible refine Kd.C_drewN ?_ _) | (with_reducible refine Kd.C_drew ?_))); (case side4 => exact (Kd.R_reads' HO_10.out).2.1); rintro e w' ⟨rfl, ⟨nd, rfl⟩⟩))
                          go_ret
                          exact ⟨by first | rfl | (simp [errW_none, errW_some] <;> rfl) | (simp [*, errW_none, errW_some] <;> rfl), by repeat (first | (with_reducible first | exact HB.out | apply below_alloc | apply pw_below_drewN | apply below_drew1) | exact HB.out)⟩
                      · rw [if_neg c58] at H
                        have c58b0 : ((t520.toList == t522.toList) == t526) = false := by simpa using c58
                        (try (have c58b1 : decide ((t520.toList == t522.toList) = t526) = false := by simpa using c58))
                        (try (have c58b2 : ((t520.toList == t522.toList) == t526) = false := by simpa using c58))
                        (try (have c58b3 : ¬ ((t520.toList == t522.toList) = t526) := by simpa using c58))
                        clear c58
                        obtain rfl := Option.some.inj H
                        go_wp2_with (first | ((with_reducible refine gate_callee (f := 13) rfl ?_); refine goesL_ (some 92) rfl rfl Try.func13 (by kernel_rfl) rfl #[.slice Ao21 x10_15.length co21] rfl (by (try simp only [List.map_toArray, List.map_cons, List.map_nil]); first | done | rfl | (simp only [List.length_drop, List.length_take]; rfl)) ?_; (with_reducible refine (nar_Pack.calls _ _ x10_15 t520 t521 _ ?side1 ?side2 A51.out).mono ?_); (case side1 => repeat (first | exact (Kd.R_reads' HO_10.out).2.2 | (with_reducible refine Kd.C_alloc ?_ _) | (with_reducible refine Kd.C_drewN ?_ _) | (with_reducible refine Kd.C_drew ?_))); (case side2 => exact (Kd.R_reads' HO_10.out).2.1); rintro e w69 ⟨rfl, hb⟩; refine ⟨_, rfl, ?_⟩; have n0_ := Aside0.mk (Kd.R_below (by (with_reducible repeat (first | apply Kd.R_alloc | apply Kd.R_drewN | apply Kd.R_drew)); exact HO_10.out) hb); have n1_ := Aside0.mk (Kd.R_below (by (with_reducible repeat (first | apply Kd.R_alloc | apply Kd.R_drewN | apply Kd.R_drew)); exact HO_11.out) hb); have n2_ := Aside0.mk (below_step (by repeat (first | (with_reducible first | exact HB.out | apply below_alloc | apply pw_below_drewN | apply below_drew1) | exact HB.out)) hb); clear HO_10; clear HO_11; clear HB; have HO_10 := n0_; have HO_11 := n1_; have HB := n2_; clear n0_ n1_ n2_; (try clear hb); (try clear hb2); (try clear hk); (try clear hi); obtain ⟨Ao70, co70, eo70⟩ := Kd.R_slice HO_11.out; subst eo70) | ((with_reducible refine gate_callee (f := 13) rfl ?_); refine goesL_ (some 97) rfl rfl Try.func13 (by kernel_rfl) rfl #[.slice Ao70 x11_15.length co70] rfl (by (try simp only [List.map_toArray, List.map_cons, List.map_nil]); first | done | rfl | (simp only [List.length_drop, List.length_take]; rfl)) ?_; (with_reducible refine (nar_Pack.calls _ _ x11_15 t522 t523 _ ?side1 ?side2 A52.out).mono ?_); (case side1 => repeat (first | exact (Kd.R_reads' HO_11.out).2.2 | (with_reducible refine Kd.C_alloc ?_ _) | (with_reducible refine Kd.C_drewN ?_ _) | (with_reducible refine Kd.C_drew ?_))); (case side2 => exact (Kd.R_reads' HO_11.out).2.1); rintro e w71 ⟨rfl, hb⟩; refine ⟨_, rfl, ?_⟩; have n0_ := Aside0.mk (Kd.R_below (by (with_reducible repeat (first | apply Kd.R_alloc | apply Kd.R_drewN | apply Kd.R_drew)); exact HO_10.out) hb); have n1_ := Aside0.mk (Kd.R_below (by (with_reducible repeat (first | apply Kd.R_alloc | apply Kd.R_drewN | apply Kd.R_drew)); exact HO_11.out) hb); have n2_ := Aside0.mk (below_step (by repeat (first | (with_reducible first | exact HB.out | apply below_alloc | apply pw_below_drewN | apply below_drew1) | exact HB.out)) hb); clear HO_10; clear HO_11; clear HB; have HO_10 := n0_; have HO_11 := n1_; have HB := n2_; clear n0_ n1_ n2_; (try clear hb); (try clear hb2); (try clear hk); (try clear hi)) | ((with_reducible refine gate_callee (f := 15) rfl ?_); refine goesL_ (some 101) rfl rfl Try.func15 (by kernel_rfl) rfl #[.int .i64 t521] rfl (by (try simp only [List.map_toArray, List.map_cons, List.map_nil]); first | done | rfl | (simp only [List.length_drop, List.length_take]; rfl)) ?_; (with_reducible refine (shelfmarklaw1_Err.calls t521 t524 _ A53.out).mono ?_); rintro e w' ⟨rfl, ⟨nd, rfl⟩⟩; refine ⟨_, rfl, ?_⟩) | ((with_reducible refine gate_callee (f := 15) rfl ?_); refine goesL_ (some 104) rfl rfl Try.func15 (by kernel_rfl) rfl #[.int .i64 t523] rfl (by (try simp only [List.map_toArray, List.map_cons, List.map_nil]); first | done | rfl | (simp only [List.length_drop, List.length_take]; rfl)) ?_; (with_reducible refine (shelfmarklaw1_Err.calls t523 t525 _ A55.out).mono ?_); rintro e w' ⟨rfl, ⟨nd, rfl⟩⟩; refine ⟨_, rfl, ?_⟩) | (go_at_call 26; (with_reducible refine (nar_Same.calls kj15 _ _ x10_15 _ _ x11_15 t526 _ ?side1 ?side2 ?side3 ?side4 A57.out).mono ?_); (case side1 => repeat (first | exact (Kd.R_reads' HO_10.out).2.2 | (with_reducible refine Kd.C_alloc ?_ _) | (with_reducible refine Kd.C_drewN ?_ _) | (with_reducible refine Kd.C_drew ?_))); (case side2 => exact (Kd.R_reads' HO_10.out).2.1); (case side3 => repeat (first | exact (Kd.R_reads' HO_11.out).2.2 | (with_reducible refine Kd.C_alloc ?_ _) | (with_reducible refine Kd.C_drewN ?_ _) | (with_reducible refine Kd.C_drew ?_))); (case side4 => exact (Kd.R_reads' HO_11.out).2.1); rintro e w' ⟨rfl, ⟨nd, rfl⟩⟩))
                        go_ret
                        exact ⟨by first | rfl | (simp [errW_none, errW_some] <;> rfl) | (simp [*, errW_none, errW_some] <;> rfl), by repeat (first | (with_reducible first | exact HB.out | apply below_alloc | apply pw_below_drewN | apply below_drew1) | exact HB.out)⟩
                    · rw [if_neg c56] at H
                      have c56b0 : (t525 == 0) = false := beq_eq_false_iff_ne.mpr c56
                      have c56b1 : (t525 != 0) = true := bne_iff_ne.mpr c56
                      replace H := Option.bind_eq_some_iff.mp H
                      obtain ⟨t529, A720, H⟩ := H
                      replace H : (if t529 = true then ((shelfmarklaw10_awake.f kj15).bind fun t530 => (some t530)) else (some false)) = some r := H
                      have A72 := Aside0.mk A720
                      clear A720
                      by_cases c73 : t529 = true
                      · subst c73
                        have H1 : ((shelfmarklaw10_awake.f kj15).bind fun t530 => (some t530)) = some r := by rw [if_pos rfl] at H; exact H
                        clear H
                        have H := H1
                        clear H1
                        replace H := Option.bind_eq_some_iff.mp H
                        obtain ⟨t530, A740, H⟩ := H
                        replace H : (some t530) = some r := H
                        have A74 := Aside0.mk A740
                        clear A740
                        obtain rfl := Option.some.inj H
                        go_wp2_with (first | ((with_reducible refine gate_callee (f := 13) rfl ?_); refine goesL_ (some 92) rfl rfl Try.func13 (by kernel_rfl) rfl #[.slice Ao21 x10_15.length co21] rfl (by (try simp only [List.map_toArray, List.map_cons, List.map_nil]); first | done | rfl | (simp only [List.length_drop, List.length_take]; rfl)) ?_; (with_reducible refine (nar_Pack.calls _ _ x10_15 t520 t521 _ ?side1 ?side2 A51.out).mono ?_); (case side1 => repeat (first | exact (Kd.R_reads' HO_10.out).2.2 | (with_reducible refine Kd.C_alloc ?_ _) | (with_reducible refine Kd.C_drewN ?_ _) | (with_reducible refine Kd.C_drew ?_))); (case side2 => exact (Kd.R_reads' HO_10.out).2.1); rintro e w75 ⟨rfl, hb⟩; refine ⟨_, rfl, ?_⟩; have n0_ := Aside0.mk (Kd.R_below (by (with_reducible repeat (first | apply Kd.R_alloc | apply Kd.R_drewN | apply Kd.R_drew)); exact HO_10.out) hb); have n1_ := Aside0.mk (Kd.R_below (by (with_reducible repeat (first | apply Kd.R_alloc | apply Kd.R_drewN | apply Kd.R_drew)); exact HO_11.out) hb); have n2_ := Aside0.mk (below_step (by repeat (first | (with_reducible first | exact HB.out | apply below_alloc | apply pw_below_drewN | apply below_drew1) | exact HB.out)) hb); clear HO_10; clear HO_11; clear HB; have HO_10 := n0_; have HO_11 := n1_; have HB := n2_; clear n0_ n1_ n2_; (try clear hb); (try clear hb2); (try clear hk); (try clear hi); obtain ⟨Ao76, co76, eo76⟩ := Kd.R_slice HO_11.out; subst eo76) | ((with_reducible refine gate_callee (f := 13) rfl ?_); refine goesL_ (some 97) rfl rfl Try.func13 (by kernel_rfl) rfl #[.slice Ao76 x11_15.length co76] rfl (by (try simp only [List.map_toArray, List.map_cons, List.map_nil]); first | done | rfl | (simp only [List.length_drop, List.length_take]; rfl)) ?_; (with_reducible refine (nar_Pack.calls _ _ x11_15 t522 t523 _ ?side1 ?side2 A52.out).mono ?_); (case side1 => repeat (first | exact (Kd.R_reads' HO_11.out).2.2 | (with_reducible refine Kd.C_alloc ?_ _) | (with_reducible refine Kd.C_drewN ?_ _) | (with_reducible refine Kd.C_drew ?_))); (case side2 => exact (Kd.R_reads' HO_11.out).2.1); rintro e w77 ⟨rfl, hb⟩; refine ⟨_, rfl, ?_⟩; have n0_ := Aside0.mk (Kd.R_below (by (with_reducible repeat (first | apply Kd.R_alloc | apply Kd.R_drewN | apply Kd.R_drew)); exact HO_10.out) hb); have n1_ := Aside0.mk (Kd.R_below (by (with_reducible repeat (first | apply Kd.R_alloc | apply Kd.R_drewN | apply Kd.R_drew)); exact HO_11.out) hb); have n2_ := Aside0.mk (below_step (by repeat (first | (with_reducible first | exact HB.out | apply below_alloc | apply pw_below_drewN | apply below_drew1) | exact HB.out)) hb); clear HO_10; clear HO_11; clear HB; have HO_10 := n0_; have HO_11 := n1_; have HB := n2_; clear n0_ n1_ n2_; (try clear hb); (try clear hb2); (try clear hk); (try clear hi)) | ((with_reducible refine gate_callee (f := 15) rfl ?_); refine goesL_ (some 101) rfl rfl Try.func15 (by kernel_rfl) rfl #[.int .i64 t521] rfl (by (try simp only [List.map_toArray, List.map_cons, List.map_nil]); first | done | rfl | (simp only [List.length_drop, List.length_take]; rfl)) ?_; (with_reducible refine (shelfmarklaw1_Err.calls t521 t524 _ A53.out).mono ?_); rintro e w' ⟨rfl, ⟨nd, rfl⟩⟩; refine ⟨_, rfl, ?_⟩) | ((with_reducible refine gate_callee (f := 15) rfl ?_); refine goesL_ (some 104) rfl rfl Try.func15 (by kernel_rfl) rfl #[.int .i64 t523] rfl (by (try simp only [List.map_toArray, List.map_cons, List.map_nil]); first | done | rfl | (simp only [List.length_drop, List.length_take]; rfl)) ?_; (with_reducible refine (shelfmarklaw1_Err.calls t523 t525 _ A55.out).mono ?_); rintro e w' ⟨rfl, ⟨nd, rfl⟩⟩; refine ⟨_, rfl, ?_⟩) | (go_at_call 26; (with_reducible refine (nar_Same.calls kj15 _ _ x10_15 _ _ x10_15 true _ ?side1 ?side2 ?side3 ?side4 A72.out).mono ?_); (case side1 => repeat (first | exact (Kd.R_reads' HO_10.out).2.2 | (with_reducible refine Kd.C_alloc ?_ _) | (with_reducible refine Kd.C_drewN ?_ _) | (with_reducible refine Kd.C_drew ?_))); (case side2 => exact (Kd.R_reads' HO_10.out).2.1); (case side3 => repeat (first | exact (Kd.R_reads' HO_10.out).2.2 | (with_reducible refine Kd.C_alloc ?_ _) | (with_reducible refine Kd.C_drewN ?_ _) | (with_reducible refine Kd.C_drew ?_))); (case side4 => exact (Kd.R_reads' HO_10.out).2.1); rintro e w' ⟨rfl, ⟨nd, rfl⟩⟩) | (go_at_call 11; (with_reducible refine (shelfmarklaw10_awake.calls kj15  t530 _ A74.out).mono ?_); rintro e w78 ⟨rfl, hb⟩; have n0_ := Aside0.mk (Kd.R_below (by (with_reducible repeat (first | apply Kd.R_alloc | apply Kd.R_drewN | apply Kd.R_drew)); exact HO_10.out) hb); have n1_ := Aside0.mk (Kd.R_below (by (with_reducible repeat (first | apply Kd.R_alloc | apply Kd.R_drewN | apply Kd.R_drew)); exact HO_11.out) hb); have n2_ := Aside0.mk (below_step (by repeat (first | (with_reducible first | exact HB.out | apply below_alloc | apply pw_below_drewN | apply below_drew1) | exact HB.out)) hb); clear HO_10; clear HO_11; clear HB; have HO_10 := n0_; have HO_11 := n1_; have HB := n2_; clear n0_ n1_ n2_; (try clear hb); (try clear hb2); (try clear hk); (try clear hi)))
                        go_ret
                        exact ⟨by first | rfl | (simp [errW_none, errW_some] <;> rfl) | (simp [*, errW_none, errW_some] <;> rfl), by repeat (first | (with_reducible first | exact HB.out | apply below_alloc | apply pw_below_drewN | apply below_drew1) | exact HB.out)⟩
                      · replace c73 := Bool.eq_false_iff.mpr c73
                        subst c73
                        have H1 : (some false) = some r := by rw [if_neg (show ¬ (false = true) by decide)] at H; exact H
                        clear H
                        have H := H1
                        clear H1
                        obtain rfl := Option.some.inj H
                        go_wp2_with (first | ((with_reducible refine gate_callee (f := 13) rfl ?_); refine goesL_ (some 92) rfl rfl Try.func13 (by kernel_rfl) rfl #[.slice Ao21 x10_15.length co21] rfl (by (try simp only [List.map_toArray, List.map_cons, List.map_nil]); first | done | rfl | (simp only [List.length_drop, List.length_take]; rfl)) ?_; (with_reducible refine (nar_Pack.calls _ _ x10_15 t520 t521 _ ?side1 ?side2 A51.out).mono ?_); (case side1 => repeat (first | exact (Kd.R_reads' HO_10.out).2.2 | (with_reducible refine Kd.C_alloc ?_ _) | (with_reducible refine Kd.C_drewN ?_ _) | (with_reducible refine Kd.C_drew ?_))); (case side2 => exact (Kd.R_reads' HO_10.out).2.1); rintro e w79 ⟨rfl, hb⟩; refine ⟨_, rfl, ?_⟩; have n0_ := Aside0.mk (Kd.R_below (by (with_reducible repeat (first | apply Kd.R_alloc | apply Kd.R_drewN | apply Kd.R_drew)); exact HO_10.out) hb); have n1_ := Aside0.mk (Kd.R_below (by (with_reducible repeat (first | apply Kd.R_alloc | apply Kd.R_drewN | apply Kd.R_drew)); exact HO_11.out) hb); have n2_ := Aside0.mk (below_step (by repeat (first | (with_reducible first | exact HB.out | apply below_alloc | apply pw_below_drewN | apply below_drew1) | exact HB.out)) hb); clear HO_10; clear HO_11; clear HB; have HO_10 := n0_; have HO_11 := n1_; have HB := n2_; clear n0_ n1_ n2_; (try clear hb); (try clear hb2); (try clear hk); (try clear hi); obtain ⟨Ao80, co80, eo80⟩ := Kd.R_slice HO_11.out; subst eo80) | ((with_reducible refine gate_callee (f := 13) rfl ?_); refine goesL_ (some 97) rfl rfl Try.func13 (by kernel_rfl) rfl #[.slice Ao80 x11_15.length co80] rfl (by (try simp only [List.map_toArray, List.map_cons, List.map_nil]); first | done | rfl | (simp only [List.length_drop, List.length_take]; rfl)) ?_; (with_reducible refine (nar_Pack.calls _ _ x11_15 t522 t523 _ ?side1 ?side2 A52.out).mono ?_); (case side1 => repeat (first | exact (Kd.R_reads' HO_11.out).2.2 | (with_reducible refine Kd.C_alloc ?_ _) | (with_reducible refine Kd.C_drewN ?_ _) | (with_reducible refine Kd.C_drew ?_))); (case side2 => exact (Kd.R_reads' HO_11.out).2.1); rintro e w81 ⟨rfl, hb⟩; refine ⟨_, rfl, ?_⟩; have n0_ := Aside0.mk (Kd.R_below (by (with_reducible repeat (first | apply Kd.R_alloc | apply Kd.R_drewN | apply Kd.R_drew)); exact HO_10.out) hb); have n1_ := Aside0.mk (Kd.R_below (by (with_reducible repeat (first | apply Kd.R_alloc | apply Kd.R_drewN | apply Kd.R_drew)); exact HO_11.out) hb); have n2_ := Aside0.mk (below_step (by repeat (first | (with_reducible first | exact HB.out | apply below_alloc | apply pw_below_drewN | apply below_drew1) | exact HB.out)) hb); clear HO_10; clear HO_11; clear HB; have HO_10 := n0_; have HO_11 := n1_; have HB := n2_; clear n0_ n1_ n2_; (try clear hb); (try clear hb2); (try clear hk); (try clear hi)) | ((with_reducible refine gate_callee (f := 15) rfl ?_); refine goesL_ (some 101) rfl rfl Try.func15 (by kernel_rfl) rfl #[.int .i64 t521] rfl (by (try simp only [List.map_toArray, List.map_cons, List.map_nil]); first | done | rfl | (simp only [List.length_drop, List.length_take]; rfl)) ?_; (with_reducible refine (shelfmarklaw1_Err.calls t521 t524 _ A53.out).mono ?_); rintro e w' ⟨rfl, ⟨nd, rfl⟩⟩; refine ⟨_, rfl, ?_⟩) | ((with_reducible refine gate_callee (f := 15) rfl ?_); refine goesL_ (some 104) rfl rfl Try.func15 (by kernel_rfl) rfl #[.int .i64 t523] rfl (by (try simp only [List.map_toArray, List.map_cons, List.map_nil]); first | done | rfl | (simp only [List.length_drop, List.length_take]; rfl)) ?_; (with_reducible refine (shelfmarklaw1_Err.calls t523 t525 _ A55.out).mono ?_); rintro e w' ⟨rfl, ⟨nd, rfl⟩⟩; refine ⟨_, rfl, ?_⟩) | (go_at_call 26; (with_reducible refine (nar_Same.calls kj15 _ _ x10_15 _ _ x10_15 false _ ?side1 ?side2 ?side3 ?side4 A72.out).mono ?_); (case side1 => repeat (first | exact (Kd.R_reads' HO_10.out).2.2 | (with_reducible refine Kd.C_alloc ?_ _) | (with_reducible refine Kd.C_drewN ?_ _) | (with_reducible refine Kd.C_drew ?_))); (case side2 => exact (Kd.R_reads' HO_10.out).2.1); (case side3 => repeat (first | exact (Kd.R_reads' HO_10.out).2.2 | (with_reducible refine Kd.C_alloc ?_ _) | (with_reducible refine Kd.C_drewN ?_ _) | (with_reducible refine Kd.C_drew ?_))); (case side4 => exact (Kd.R_reads' HO_10.out).2.1); rintro e w' ⟨rfl, ⟨nd, rfl⟩⟩))
                        go_ret
                        exact ⟨by first | rfl | (simp [errW_none, errW_some] <;> rfl) | (simp [*, errW_none, errW_some] <;> rfl), by repeat (first | (with_reducible first | exact HB.out | apply below_alloc | apply pw_below_drewN | apply below_drew1) | exact HB.out)⟩
                  · rw [if_neg c54] at H
                    have c54b0 : (t524 == 0) = false := beq_eq_false_iff_ne.mpr c54
                    have c54b1 : (t524 != 0) = true := bne_iff_ne.mpr c54
                    obtain rfl := Option.some.inj H
                    go_wp2_with (first | ((with_reducible refine gate_callee (f := 13) rfl ?_); refine goesL_ (some 92) rfl rfl Try.func13 (by kernel_rfl) rfl #[.slice Ao21 x10_15.length co21] rfl (by (try simp only [List.map_toArray, List.map_cons, List.map_nil]); first | done | rfl | (simp only [List.length_drop, List.length_take]; rfl)) ?_; (with_reducible refine (nar_Pack.calls _ _ x10_15 t520 t521 _ ?side1 ?side2 A51.out).mono ?_); (case side1 => repeat (first | exact (Kd.R_reads' HO_10.out).2.2 | (with_reducible refine Kd.C_alloc ?_ _) | (with_reducible refine Kd.C_drewN ?_ _) | (with_reducible refine Kd.C_drew ?_))); (case side2 => exact (Kd.R_reads' HO_10.out).2.1); rintro e w82 ⟨rfl, hb⟩; refine ⟨_, rfl, ?_⟩; have n0_ := Aside0.mk (Kd.R_below (by (with_reducible repeat (first | apply Kd.R_alloc | apply Kd.R_drewN | apply Kd.R_drew)); exact HO_10.out) hb); have n1_ := Aside0.mk (Kd.R_below (by (with_reducible repeat (first | apply Kd.R_alloc | apply Kd.R_drewN | apply Kd.R_drew)); exact HO_11.out) hb); have n2_ := Aside0.mk (below_step (by repeat (first | (with_reducible first | exact HB.out | apply below_alloc | apply pw_below_drewN | apply below_drew1) | exact HB.out)) hb); clear HO_10; clear HO_11; clear HB; have HO_10 := n0_; have HO_11 := n1_; have HB := n2_; clear n0_ n1_ n2_; (try clear hb); (try clear hb2); (try clear hk); (try clear hi); obtain ⟨Ao83, co83, eo83⟩ := Kd.R_slice HO_11.out; subst eo83) | ((with_reducible refine gate_callee (f := 13) rfl ?_); refine goesL_ (some 97) rfl rfl Try.func13 (by kernel_rfl) rfl #[.slice Ao83 x11_15.length co83] rfl (by (try simp only [List.map_toArray, List.map_cons, List.map_nil]); first | done | rfl | (simp only [List.length_drop, List.length_take]; rfl)) ?_; (with_reducible refine (nar_Pack.calls _ _ x11_15 t522 t523 _ ?side1 ?side2 A52.out).mono ?_); (case side1 => repeat (first | exact (Kd.R_reads' HO_11.out).2.2 | (with_reducible refine Kd.C_alloc ?_ _) | (with_reducible refine Kd.C_drewN ?_ _) | (with_reducible refine Kd.C_drew ?_))); (case side2 => exact (Kd.R_reads' HO_11.out).2.1); rintro e w84 ⟨rfl, hb⟩; refine ⟨_, rfl, ?_⟩; have n0_ := Aside0.mk (Kd.R_below (by (with_reducible repeat (first | apply Kd.R_alloc | apply Kd.R_drewN | apply Kd.R_drew)); exact HO_10.out) hb); have n1_ := Aside0.mk (Kd.R_below (by (with_reducible repeat (first | apply Kd.R_alloc | apply Kd.R_drewN | apply Kd.R_drew)); exact HO_11.out) hb); have n2_ := Aside0.mk (below_step (by repeat (first | (with_reducible first | exact HB.out | apply below_alloc | apply pw_below_drewN | apply below_drew1) | exact HB.out)) hb); clear HO_10; clear HO_11; clear HB; have HO_10 := n0_; have HO_11 := n1_; have HB := n2_; clear n0_ n1_ n2_; (try clear hb); (try clear hb2); (try clear hk); (try clear hi)) | ((with_reducible refine gate_callee (f := 15) rfl ?_); refine goesL_ (some 101) rfl rfl Try.func15 (by kernel_rfl) rfl #[.int .i64 t521] rfl (by (try simp only [List.map_toArray, List.map_cons, List.map_nil]); first | done | rfl | (simp only [List.length_drop, List.length_take]; rfl)) ?_; (with_reducible refine (shelfmarklaw1_Err.calls t521 t524 _ A53.out).mono ?_); rintro e w' ⟨rfl, ⟨nd, rfl⟩⟩; refine ⟨_, rfl, ?_⟩))
                    go_ret
                    exact ⟨by first | rfl | (simp [errW_none, errW_some] <;> rfl) | (simp [*, errW_none, errW_some] <;> rfl), by repeat (first | (with_reducible first | exact HB.out | apply below_alloc | apply pw_below_drewN | apply below_drew1) | exact HB.out)⟩
          · rw [if_neg c14] at H
            exact absurd H (by simp)
end
end Go.Proofs.Ytncokgdfkbgflaa.P

namespace Go.Proofs.Ytncokgdfkbgflaa.P
open Go.RowKit Go.Proofs.YtncokgdfkbgflaaW.PrintWords Go.Proofs.YtncokgdfkbgflaaW.PrintLast Go.Proofs.YtncokgdfkbgflaaW.PrintMore
attribute [local go_sem] max2_int min2_int max_two min_two max_three min_three max_four min_four   -- for this text's walks alone
set_option linter.unusedVariables false
set_option linter.unusedSimpArgs false
def shelfmarkref10_has.l0 : Nat → ByteArray → Int → Int → Option (Bool)
  | 0, _, _, _ => none
  | k + 1, x0, x1, x5 => if x5 < (x0.size : Int) then (if 0 ≤ x5 then (if (bt x0 x5) = x1 then (some true) else (shelfmarkref10_has.l0 k x0 x1 (wrap64 (x5 + 1)))) else (none)) else (some false)
def shelfmarkref10_has.f (k : Nat) (a0 : ByteArray) (a1 : Int) : Option (Bool) := shelfmarkref10_has.l0 k a0 a1 0
def shelfmarkref10_MayName.f (k : Nat) (a0 : ByteArray) : Option (Bool) := if (a0.size : Int) ≥ 1 then (if (a0.size : Int) ≤ 255 then ((shelfmarkref10_has.f k a0 0).bind fun t203 => (if t203 = true then (some false) else ((shelfmarkref10_has.f k a0 47).bind fun t204 => (if t204 = true then (some false) else (if a0.toList = ([46] : List UInt8) then (some false) else (some (a0.toList != ([46, 46] : List UInt8)))))))) else (some false)) else (some false)
def shelfmarkref10_mayData.j0 : Nat → Int → Bool → ByteArray → Int → ByteArray → Option (Bool)
  | 0, _, _, _, _, _ => none
  | k + 1, x4, x5, x206000, x206001, x206002 => if x5 = true then (some (decide ((x206002.size : Int) ≤ 65536))) else (if x4 = 3 then (if (x206002.size : Int) ≥ 1 then (if (x206002.size : Int) ≤ 4096 then ((shelfmarkref10_has.f k x206002 0).bind fun t206 => (some (!t206))) else (some false)) else (some false)) else (if x4 = 4 then (some (x206002.toList == ([] : List UInt8))) else (some false)))
def shelfmarkref10_mayData.f (k : Nat) (a0_0 : ByteArray) (a0_1 : Int) (a0_2 : ByteArray) : Option (Bool) := if a0_1 = 1 then (shelfmarkref10_mayData.j0 k a0_1 (a0_1 == 1) a0_0 a0_1 a0_2) else (shelfmarkref10_mayData.j0 k a0_1 (a0_1 == 2) a0_0 a0_1 a0_2)
def shelfmarkref10_cut.l0 : Nat → ByteArray → Int → Option (ByteArray × ByteArray)
  | 0, _, _ => none
  | k + 1, x0, x4 => if x4 ≥ 0 then (if 0 ≤ x4 then (if x4 < (x0.size : Int) then (if (bt x0 x4) = 47 then (if x4 ≤ (x0.size : Int) then (if 0 ≤ (wrap64 (x4 + 1)) then (if (wrap64 (x4 + 1)) ≤ (x0.size : Int) then (some (x0.extract 0 (x4 : Int).toNat, x0.extract ((wrap64 (x4 + 1)) : Int).toNat x0.size)) else (none)) else (none)) else (none)) else (shelfmarkref10_cut.l0 k x0 (wrap64 (x4 - 1)))) else (none)) else (none)) else (some ((⟨#[]⟩ : ByteArray), x0))
def shelfmarkref10_cut.f (k : Nat) (a0 : ByteArray) : Option (ByteArray × ByteArray) := shelfmarkref10_cut.l0 k a0 (wrap64 ((a0.size : Int) - 1))
def shelfmarkref10_deep.l0 : Nat → ByteArray → Int → Int → Option (Int)
  | 0, _, _, _ => none
  | k + 1, x0, x3, x4 => if x4 < (x0.size : Int) then (if 0 ≤ x4 then (if (bt x0 x4) = 47 then (shelfmarkref10_deep.l0 k x0 (wrap64 (x3 + 1)) (wrap64 (x4 + 1))) else (shelfmarkref10_deep.l0 k x0 x3 (wrap64 (x4 + 1)))) else (none)) else (some x3)
def shelfmarkref10_deep.f (k : Nat) (a0 : ByteArray) : Option (Int) := shelfmarkref10_deep.l0 k a0 1 0
end Go.Proofs.Ytncokgdfkbgflaa.P

namespace Go.Proofs.Ytncokgdfkbgflaa.P
open Go.RowKit Go.Proofs.YtncokgdfkbgflaaW.PrintWords Go.Proofs.YtncokgdfkbgflaaW.PrintLast Go.Proofs.YtncokgdfkbgflaaW.PrintMore
attribute [local go_sem] max2_int min2_int max_two min_two max_three min_three max_four min_four   -- for this text's walks alone
set_option linter.unusedVariables false
set_option linter.unusedSimpArgs false
def shelfmarkref10_name.j0 : Nat → ByteArray → ByteArray → Bool → Option (ByteArray)
  | 0, _, _, _ => none
  | k + 1, x0, x1, x26 => if x26 = true then (some (⟨#[]⟩ : ByteArray)) else (if 0 ≤ (wrap64 ((x1.size : Int) + 1)) then (if (wrap64 ((x1.size : Int) + 1)) ≤ (x0.size : Int) then ((shelfmarkref10_has.f k (x0.extract ((wrap64 ((x1.size : Int) + 1)) : Int).toNat x0.size) 47).bind fun t208 => (if t208 = true then (some (⟨#[]⟩ : ByteArray)) else (some (x0.extract ((wrap64 ((x1.size : Int) + 1)) : Int).toNat x0.size)))) else (none)) else (none))
def shelfmarkref10_name.f (k : Nat) (a0 : ByteArray) (a1 : ByteArray) : Option (ByteArray) := if a1.toList = ([] : List UInt8) then ((shelfmarkref10_has.f k a0 47).bind fun t207 => (if t207 = true then (some (⟨#[]⟩ : ByteArray)) else (some a0))) else (if (a0.size : Int) ≤ (a1.size : Int) then (shelfmarkref10_name.j0 k a0 a1 true) else (if 0 ≤ (a1.size : Int) then (if (a1.size : Int) ≤ (a0.size : Int) then (if (a0.extract 0 ((a1.size : Int) : Int).toNat).toList = a1.toList then (if (a1.size : Int) < (a0.size : Int) then (shelfmarkref10_name.j0 k a0 a1 ((bt a0 (a1.size : Int)) != 47)) else (none)) else (shelfmarkref10_name.j0 k a0 a1 true)) else (none)) else (none)))
mutual
def shelfmarkref10_under.l0 : Nat → List (S37) → Int → Int → ByteArray → Option (Int)
  | 0, _, _, _, _ => none
  | k + 1, x0, x1, x5, x6 => if x5 < (x0.length : Int) then (if 0 ≤ x1 then (if x1 < (x0.length : Int) then (shelfmarkref10_under.j1 k x0 x1 x5 x6 (((rd_T37 x0 x1).f1) == 4)) else (none)) else (none)) else (shelfmarkref10_under.j1 k x0 x1 x5 x6 false)
def shelfmarkref10_under.j1 : Nat → List (S37) → Int → Int → ByteArray → Bool → Option (Int)
  | 0, _, _, _, _, _ => none
  | k + 1, x0, x1, x5, x6, x21 => if x21 = true then (if 0 ≤ x5 then (if x5 < (x0.length : Int) then (if 0 ≤ x1 then (if x1 < (x0.length : Int) then ((shelfmarkref10_name.f k ((rd_T37 x0 x5).f0) ((rd_T37 x0 x1).f0)).bind fun t212 => (if t212.toList = ([] : List UInt8) then (some x5) else (if (Op.bytesLess t212.toList x6.toList || t212.toList == x6.toList) = true then (some x5) else ((shelfmarkref10_under.f k x0 x5).bind fun t213 => (shelfmarkref10_under.l0 k x0 x1 t213 t212))))) else (none)) else (none)) else (none)) else (none)) else (some x5)
def shelfmarkref10_under.f : Nat → List (S37) → Int → Option (Int)
  | 0, _, _ => none
  | k + 1, l0, a1 => shelfmarkref10_under.l0 k l0 a1 (wrap64 (a1 + 1)) (⟨#[]⟩ : ByteArray)
end
end Go.Proofs.Ytncokgdfkbgflaa.P

namespace Go.Proofs.Ytncokgdfkbgflaa.P
open Go.RowKit Go.Proofs.YtncokgdfkbgflaaW.PrintWords Go.Proofs.YtncokgdfkbgflaaW.PrintLast Go.Proofs.YtncokgdfkbgflaaW.PrintMore
attribute [local go_sem] max2_int min2_int max_two min_two max_three min_three max_four min_four   -- for this text's walks alone
set_option linter.unusedVariables false
set_option linter.unusedSimpArgs false
mutual
def shelfmarkref10_May.j0 : Nat → List (S37) → Bool → Option (Bool)
  | 0, _, _ => none
  | k + 1, x0, x27 => if x27 = true then (some false) else (shelfmarkref10_May.l0 k x0 1)
def shelfmarkref10_May.l0 : Nat → List (S37) → Int → Option (Bool)
  | 0, _, _ => none
  | k + 1, x0, x3 => if x3 < (x0.length : Int) then (if 0 ≤ x3 then ((shelfmarkref10_cut.f k ((rd_T37 x0 x3).f0)).bind fun bt219 => ((shelfmarkref10_MayName.f k bt219.2).bind fun t221 => (if t221 = true then ((shelfmarkref10_deep.f k ((rd_T37 x0 x3).f0)).bind fun t223 => (if t223 > 64 then (some false) else ((shelfmarkref10_mayData.f k ((rd_T37 x0 x3).f0) ((rd_T37 x0 x3).f1) ((rd_T37 x0 x3).f2)).bind fun t225 => (if t225 = true then (shelfmarkref10_May.l0 k x0 (wrap64 (x3 + 1))) else (some false))))) else (some false)))) else (none)) else ((shelfmarkref10_under.f k x0 0).bind fun t217 => (some (t217 == (x0.length : Int))))
end
def shelfmarkref10_May.f (k : Nat) (l0 : List (S37)) : Option (Bool) := if (l0.length : Int) < 1 then (shelfmarkref10_May.j0 k l0 true) else (if (l0.length : Int) > 256 then (shelfmarkref10_May.j0 k l0 true) else (if 0 < (l0.length : Int) then (if ((rd_T37 l0 0).f0).toList = ([] : List UInt8) then ((shelfmarkref10_mayData.f k ((rd_T37 l0 0).f0) ((rd_T37 l0 0).f1) ((rd_T37 l0 0).f2)).bind fun t216 => (shelfmarkref10_May.j0 k l0 (!t216))) else (shelfmarkref10_May.j0 k l0 true)) else (none)))
def shelfmarkref1_little.l0 : Nat → Int → Int → List Int → Int → Option (ByteArray)
  | 0, _, _, _, _ => none
  | k + 1, x0, x1, x5, x6 => if x6 < x1 then (if 0 ≤ (wrap64 (8 * x6)) then (if 0 ≤ x6 then (if x6 < (x5.length : Int) then (shelfmarkref1_little.l0 k x0 x1 (x5.set (x6 : Int).toNat ((shr .u64 x0 (wrap64 (8 * x6))) % 256)) (wrap64 (x6 + 1))) else (none)) else (none)) else (none)) else (some (strOfNums x5))
def shelfmarkref1_little.f (k : Nat) (a0 : Int) (a1 : Int) : Option (ByteArray) := if 0 ≤ a1 then (if (a1 : Int).toNat ≤ 281474976710656 then (shelfmarkref1_little.l0 k a0 a1 (List.replicate (a1 : Int).toNat 0) 0) else (none)) else (none)
def shelfmarkref1_Little.f (k : Nat) (a0 : Int) (a1 : Int) : Option (ByteArray) := (shelfmarkref1_little.f k a0 a1).bind fun t230 => (some t230)
def shelfmarkref10_Word.f (k : Nat) (a0 : Int) : Option (ByteArray) := (shelfmarkref1_Little.f k (IntKind.u64.wrap (mx a0 0)) 8).bind fun t231 => (some t231)
def shelfmarkref10_Str.l0 : Nat → ByteArray → Option (ByteArray)
  | 0, _ => none
  | k + 1, x3 => if ((x3.size : Int) % 8) = 0 then (some x3) else (if x3.size + 1 ≤ 9223372036854775807 then (shelfmarkref10_Str.l0 k (x3 ++ (⟨#[0]⟩ : ByteArray))) else (none))
def shelfmarkref10_Str.f (k : Nat) (a0 : ByteArray) : Option (ByteArray) := (shelfmarkref10_Word.f k (a0.size : Int)).bind fun t232 => (if t232.size + a0.size ≤ 9223372036854775807 then (shelfmarkref10_Str.l0 k (t232 ++ a0)) else (none))
def shelfmarkref10_strs.l0 : Nat → List ByteArray → ByteArray → Int → Option (ByteArray)
  | 0, _, _, _ => none
  | k + 1, x0, x3, x4 => if x4 < (x0.length : Int) then (if 0 ≤ x4 then ((shelfmarkref10_Str.f k (rdOf ByteArray.empty x0 x4)).bind fun t234 => (if x3.size + t234.size ≤ 9223372036854775807 then (shelfmarkref10_strs.l0 k x0 (x3 ++ t234) (wrap64 (x4 + 1))) else (none))) else (none)) else (some x3)
def shelfmarkref10_strs.f (k : Nat) (l0 : List ByteArray) : Option (ByteArray) := shelfmarkref10_strs.l0 k l0 (⟨#[]⟩ : ByteArray) 0
end Go.Proofs.Ytncokgdfkbgflaa.P

namespace Go.Proofs.Ytncokgdfkbgflaa.P
open Go.RowKit Go.Proofs.YtncokgdfkbgflaaW.PrintWords Go.Proofs.YtncokgdfkbgflaaW.PrintLast Go.Proofs.YtncokgdfkbgflaaW.PrintMore
attribute [local go_sem] max2_int min2_int max_two min_two max_three min_three max_four min_four   -- for this text's walks alone
set_option linter.unusedVariables false
set_option linter.unusedSimpArgs false
mutual
def shelfmarkref10_node.l0 : Nat → List (S37) → ByteArray → Int → ByteArray → Int → ByteArray → Option (ByteArray × Int)
  | 0, _, _, _, _, _, _ => none
  | k + 1, x0, x7, x8, x237000, x237001, x237002 => if x8 < (x0.length : Int) then (if 0 ≤ x8 then ((shelfmarkref10_name.f k ((rd_T37 x0 x8).f0) x237000).bind fun t270 => (shelfmarkref10_node.j1 k x0 x7 x8 (t270.toList != ([] : List UInt8)) x237000 x237001 x237002)) else (none)) else (shelfmarkref10_node.j1 k x0 x7 x8 false x237000 x237001 x237002)
def shelfmarkref10_node.j1 : Nat → List (S37) → ByteArray → Int → Bool → ByteArray → Int → ByteArray → Option (ByteArray × Int)
  | 0, _, _, _, _, _, _, _ => none
  | k + 1, x0, x7, x8, x39, x237000, x237001, x237002 => if x39 = true then ((shelfmarkref10_node.f k x0 x8).bind fun bt275 => (if 0 ≤ x8 then (if x8 < (x0.length : Int) then ((shelfmarkref10_name.f k ((rd_T37 x0 x8).f0) x237000).bind fun t278 => ((shelfmarkref10_strs.f k (([(⟨#[101, 110, 116, 114, 121]⟩ : ByteArray), (⟨#[40]⟩ : ByteArray), (⟨#[110, 97, 109, 101]⟩ : ByteArray), t278, (⟨#[110, 111, 100, 101]⟩ : ByteArray)] : List ByteArray))).bind fun t282 => (if x7.size + t282.size ≤ 9223372036854775807 then (if (x7 ++ t282).size + bt275.1.size ≤ 9223372036854775807 then ((shelfmarkref10_strs.f k (([(⟨#[41]⟩ : ByteArray)] : List ByteArray))).bind fun t286 => (if ((x7 ++ t282) ++ bt275.1).size + t286.size ≤ 9223372036854775807 then (shelfmarkref10_node.l0 k x0 (((x7 ++ t282) ++ bt275.1) ++ t286) bt275.2 x237000 x237001 x237002) else (none))) else (none)) else (none)))) else (none)) else (none))) else ((shelfmarkref10_strs.f k (([(⟨#[41]⟩ : ByteArray)] : List ByteArray))).bind fun t274 => (if x7.size + t274.size ≤ 9223372036854775807 then (some (x7 ++ t274, x8)) else (none)))
def shelfmarkref10_node.f : Nat → List (S37) → Int → Option (ByteArray × Int)
  | 0, _, _ => none
  | k + 1, l0, a1 => if 0 ≤ a1 then (if a1 < (l0.length : Int) then ((shelfmarkref10_strs.f k (([(⟨#[40]⟩ : ByteArray), (⟨#[116, 121, 112, 101]⟩ : ByteArray)] : List ByteArray))).bind fun t240 => (if ((rd_T37 l0 a1).f1) = 1 then ((shelfmarkref10_strs.f k (([(⟨#[114, 101, 103, 117, 108, 97, 114]⟩ : ByteArray), (⟨#[99, 111, 110, 116, 101, 110, 116, 115]⟩ : ByteArray), (rd_T37 l0 a1).f2] : List ByteArray))).bind fun t244 => (if t240.size + t244.size ≤ 9223372036854775807 then ((shelfmarkref10_strs.f k (([(⟨#[41]⟩ : ByteArray)] : List ByteArray))).bind fun t248 => (if (t240 ++ t244).size + t248.size ≤ 9223372036854775807 then (some ((t240 ++ t244) ++ t248, wrap64 (a1 + 1))) else (none))) else (none))) else (if ((rd_T37 l0 a1).f1) = 2 then ((shelfmarkref10_strs.f k (([(⟨#[114, 101, 103, 117, 108, 97, 114]⟩ : ByteArray), (⟨#[101, 120, 101, 99, 117, 116, 97, 98, 108, 101]⟩ : ByteArray), (⟨#[]⟩ : ByteArray), (⟨#[99, 111, 110, 116, 101, 110, 116, 115]⟩ : ByteArray), (rd_T37 l0 a1).f2] : List ByteArray))).bind fun t252 => (if t240.size + t252.size ≤ 9223372036854775807 then ((shelfmarkref10_strs.f k (([(⟨#[41]⟩ : ByteArray)] : List ByteArray))).bind fun t256 => (if (t240 ++ t252).size + t256.size ≤ 9223372036854775807 then (some ((t240 ++ t252) ++ t256, wrap64 (a1 + 1))) else (none))) else (none))) else (if ((rd_T37 l0 a1).f1) = 3 then ((shelfmarkref10_strs.f k (([(⟨#[115, 121, 109, 108, 105, 110, 107]⟩ : ByteArray), (⟨#[116, 97, 114, 103, 101, 116]⟩ : ByteArray), (rd_T37 l0 a1).f2] : List ByteArray))).bind fun t260 => (if t240.size + t260.size ≤ 9223372036854775807 then ((shelfmarkref10_strs.f k (([(⟨#[41]⟩ : ByteArray)] : List ByteArray))).bind fun t264 => (if (t240 ++ t260).size + t264.size ≤ 9223372036854775807 then (some ((t240 ++ t260) ++ t264, wrap64 (a1 + 1))) else (none))) else (none))) else ((shelfmarkref10_strs.f k (([(⟨#[100, 105, 114, 101, 99, 116, 111, 114, 121]⟩ : ByteArray)] : List ByteArray))).bind fun t268 => (if t240.size + t268.size ≤ 9223372036854775807 then (shelfmarkref10_node.l0 k l0 (t240 ++ t268) (wrap64 (a1 + 1)) ((rd_T37 l0 a1).f0) ((rd_T37 l0 a1).f1) ((rd_T37 l0 a1).f2)) else (none))))))) else (none)) else (none)
end
def shelfmarkref10_node.T6 : Bool × List (List Nat × List Nat) := (true, [([], []), ([], []), ([1], [1]), ([0, 2], [0, 2]), ([3], [3]), ([4], [4]), ([4], [4]), ([5, 6, 4], [4, 5, 6]), ([7, 4], [4, 7]), ([8, 4], [4, 8]), ([4], [4]), ([10, 4], [4, 10]), ([9, 11, 4, 4], [4, 9, 11]), ([12, 4], [4, 12]), ([4, 13], [4, 13])])
def shelfmarkref10_node.B6 : List Nat := [0, 0, 2, 7, 15, 31, 31, 127, 255, 511, 31, 1055, 4095, 8191, 16383]
def shelfmarkref10_node.T8 : Bool × List (List Nat × List Nat) := (true, [([], []), ([], []), ([], []), ([1, 2], [1, 2]), ([3], [3]), ([4], [4]), ([], []), ([6], [6]), ([5, 7], [5, 7]), ([8], [8]), ([9, 8], [9]), ([0, 10], [0, 10]), ([], []), ([11, 12], [11, 12]), ([], []), ([14, 10], [14]), ([13, 15], [13, 15]), ([16, 15, 0, 1, 2, 3, 4, 5, 6, 7, 8, 9, 10, 11, 12, 13, 14, 15, 16], [0, 16])])
def shelfmarkref10_node.B8 : List Nat := [0, 0, 0, 6, 14, 30, 0, 64, 254, 510, 1022, 2047, 0, 8191, 0, 18430, 65535, 131071]
theorem shelfmarkref10_node.tab8 : rtab .any (opsOf Try.f45 8) = shelfmarkref10_node.T8 := by kernel_rfl
theorem shelfmarkref10_node.bits8 : waitsOk shelfmarkref10_node.T8.2 shelfmarkref10_node.B8 = true := by kernel_rfl
end Go.Proofs.Ytncokgdfkbgflaa.P

namespace Go.Proofs.Ytncokgdfkbgflaa.P
open Go.RowKit Go.Proofs.YtncokgdfkbgflaaW.PrintWords Go.Proofs.YtncokgdfkbgflaaW.PrintLast Go.Proofs.YtncokgdfkbgflaaW.PrintMore
attribute [local go_sem] max2_int min2_int max_two min_two max_three min_three max_four min_four   -- for this text's walks alone
set_option linter.unusedVariables false
set_option linter.unusedSimpArgs false
def shelfmarkref10_Pack.f (k : Nat) (l0 : List (S37)) : Option (ByteArray × Int) := (shelfmarkref10_May.f k l0).bind fun t288 => (if t288 = true then ((shelfmarkref10_node.f k l0 0).bind fun bt289 => ((shelfmarkref10_strs.f k (([(⟨#[110, 105, 120, 45, 97, 114, 99, 104, 105, 118, 101, 45, 49]⟩ : ByteArray)] : List ByteArray))).bind fun t294 => (if t294.size + bt289.1.size ≤ 9223372036854775807 then (some (t294 ++ bt289.1, 0)) else (none)))) else (some ((⟨#[]⟩ : ByteArray), 1)))
end Go.Proofs.Ytncokgdfkbgflaa.P

namespace Go.Proofs.Ytncokgdfkbgflaa
set_option linter.unusedVariables false
set_option linter.unusedSimpArgs false
def cutSlash : List UInt8 → Option (List UInt8 × List UInt8)
  | [] => none
  | b :: l =>
    match cutSlash l with
    | some (a, n) => some (b :: a, n)
    | none => if b = 47 then some ([], l) else none
theorem cutSlash_none : ∀ (l : List UInt8), 47 ∉ l → cutSlash l = none
  | [], _ => rfl
  | b :: l, h => by
    have h1 := cutSlash_none l (fun x => h (List.mem_cons_of_mem _ x))
    unfold cutSlash
    rw [h1]
    simp only
    rw [if_neg (fun e => h (by rw [e]; exact List.mem_cons_self))]
theorem cutSlash_some : ∀ (a n : List UInt8), 47 ∉ n → cutSlash (a ++ 47 :: n) = some (a, n)
  | [], n, h => by
    show cutSlash (47 :: n) = _
    unfold cutSlash
    rw [cutSlash_none n h]
    simp
  | b :: a, n, h => by
    show cutSlash (b :: (a ++ 47 :: n)) = _
    unfold cutSlash
    rw [cutSlash_some a n h]
def mayName (s : List UInt8) : Bool := !(s == []) && (decide (s.length ≤ 255) && (!hasSep s && (!(s == [46]) && !(s == [46, 46]))))
def okNd (n : Nd) : Bool :=
  if n.kind = 1 ∨ n.kind = 2 then decide (n.data.length ≤ 65536)
  else if n.kind = 3 then (!(n.data == [])) && decide (n.data.length ≤ 4096) && !(hasZero n.data)
  else if n.kind = 4 then n.data == []
  else false
abbrev Lv := List UInt8 × List UInt8
def withinP (op : List Lv) (p : List UInt8) : Option (Nat × List UInt8) :=
  match cutSlash p with
  | none => if idxOf (fun x : Lv => x.1 == []) op < 0 then none else some ((idxOf (fun x : Lv => x.1 == []) op).toNat, p)
  | some (a, n) => if a = [] then none else if idxOf (fun x : Lv => x.1 == a) op < 0 then none else some ((idxOf (fun x : Lv => x.1 == a) op).toNat, n)
def mayStep (op : List Lv) (n : Nd) : Option (List Lv) :=
  match withinP op n.path with
  | none => none
  | some (i, name) =>
    if mayName name && (!(Op.bytesLess name (op.getD i ([], [])).2 || name == (op.getD i ([], [])).2) && decide (i < 64)) then
      some ((op.take (i + 1)).set i ((op.getD i ([], [])).1, name) ++ (if n.kind = 4 then [(n.path, [])] else []))
    else none
def mayGo : List Lv → List Nd → Bool
  | _, [] => true
  | op, n :: l =>
    match mayStep op n with
    | none => false
    | some op' => mayGo op' l
def May (l : List Nd) : Bool :=
  match l with
  | [] => false
  | n :: r => decide (l.length ≤ 256) && (n.path == [] && (l.all okNd && mayGo (if n.kind = 4 then [([], [])] else []) r))
end Go.Proofs.Ytncokgdfkbgflaa

namespace Go.Proofs.Ytncokgdfkbgflaa
def runLen (head : List UInt8) : List Nd → Nat
  | [] => 0
  | n :: l => if Lib.hasPrefix n.path head then 1 + runLen head l else 0
theorem runLen_le (head : List UInt8) : ∀ l : List Nd, runLen head l ≤ l.length
  | [] => by simp [runLen]
  | n :: l => by
    have := runLen_le head l
    unfold runLen
    split
    · rw [List.length_cons]; omega
    · omega
theorem hasPrefix_iff (s p : List UInt8) : Lib.hasPrefix s p = true ↔ ∃ t, s = p ++ t := by
  unfold Lib.hasPrefix
  rw [List.isPrefixOf_iff_prefix]
  constructor
  · rintro ⟨t, h⟩; exact ⟨t, h.symm⟩
  · rintro ⟨t, h⟩; exact ⟨t, h.symm⟩
theorem below_skip (head nm : List UInt8) : ∀ (m : List Nd) (j : Nat),
    belowFrom head j m = belowFrom head (j + runLen (head ++ nm ++ [47]) m) (m.drop (runLen (head ++ nm ++ [47]) m)) ∧
    runLen head m = runLen (head ++ nm ++ [47]) m + runLen head (m.drop (runLen (head ++ nm ++ [47]) m))
  | [], j => by simp [runLen, belowFrom]
  | n :: m, j => by
    by_cases h : Lib.hasPrefix n.path (head ++ nm ++ [47]) = true
    · obtain ⟨t, ht⟩ := (hasPrefix_iff _ _).1 h
      have hp : Lib.hasPrefix n.path head = true := (hasPrefix_iff _ _).2 ⟨nm ++ [47] ++ t, by rw [ht]; simp [List.append_assoc]⟩
      have hc : (n.path.drop head.length).contains 47 = true := by
        rw [ht]
        simp [List.append_assoc]
      obtain ⟨i1, i2⟩ := below_skip head nm m (j + 1)
      have hr : runLen (head ++ nm ++ [47]) (n :: m) = 1 + runLen (head ++ nm ++ [47]) m := by rw [runLen, if_pos h]
      have hr2 : runLen head (n :: m) = 1 + runLen head m := by rw [runLen, if_pos hp]
      rw [hr, hr2, show 1 + runLen (head ++ nm ++ [47]) m = runLen (head ++ nm ++ [47]) m + 1 from Nat.add_comm _ _, List.drop_succ_cons]
      constructor
      · conv => lhs; rw [belowFrom, if_pos hp, if_pos hc, i1]
        congr 1
        omega
      · omega
    · have hr : runLen (head ++ nm ++ [47]) (n :: m) = 0 := by rw [runLen, if_neg h]
      rw [hr]
      simp
def pathAt (l : List Nd) (i : Nat) : List UInt8 := ((l[i]?).map Nd.path).getD []
theorem pathAt_is (l : List Nd) (i : Nat) (h : i < l.length) : pathAt l i = l[i].path := by
  unfold pathAt; rw [List.getElem?_eq_getElem h]; rfl
def holds (l : List Nd) (i : Nat) : Nat := 1 + runLen (headOf (pathAt l i)) (l.drop (i + 1))
theorem below_sum (l : List Nd) (head : List UInt8) (hne : ∀ j (h : j < l.length), 0 < j → l[j].path ≠ []) : ∀ (d j : Nat), 0 < j → l.length - j ≤ d →
    ((belowFrom head j (l.drop j)).map fun x => holds l x.1).sum ≤ runLen head (l.drop j) := by
  intro d
  induction d with
  | zero =>
    intro j _ h
    rw [List.drop_eq_nil_of_le (by omega)]
    simp [belowFrom]
  | succ d ih =>
    intro j hj0 h
    by_cases hj : j < l.length
    · rw [List.drop_eq_getElem_cons hj]
      have hn := hne j hj hj0
      unfold belowFrom runLen
      by_cases hp : Lib.hasPrefix l[j].path head = true
      · rw [if_pos hp, if_pos hp]
        by_cases hc : (l[j].path.drop head.length).contains 47 = true
        · rw [if_pos hc]
          have := ih (j + 1) (by omega) (by omega)
          omega
        · rw [if_neg hc, List.map_cons, List.sum_cons]
          obtain ⟨nm, hnm⟩ := (hasPrefix_iff _ _).1 hp
          have hw : holds l j = 1 + runLen (head ++ nm ++ [47]) (l.drop (j + 1)) := by
            unfold holds
            rw [pathAt_is l j hj, headOf, if_neg hn, hnm]
          obtain ⟨i1, i2⟩ := below_skip head nm (l.drop (j + 1)) (j + 1)
          have := ih (j + 1 + runLen (head ++ nm ++ [47]) (l.drop (j + 1))) (by omega) (by omega)
          rw [i1, hw, i2, List.drop_drop]
          omega
      · rw [if_neg hp, if_neg hp]
        simp
    · rw [List.drop_eq_nil_of_le (by omega)]
      simp [belowFrom]
theorem flat_sum (C : Nat) (F : Nat × List UInt8 → List UInt8) (w : Nat × List UInt8 → Nat) : ∀ (ys : List (Nat × List UInt8)), (∀ y ∈ ys, (F y).length ≤ C * w y) → (ys.flatMap F).length ≤ C * (ys.map w).sum
  | [], _ => by simp
  | y :: ys, h => by
    have h1 := h y List.mem_cons_self
    have h2 := flat_sum C F w ys (fun z hz => h z (List.mem_cons_of_mem _ hz))
    rw [List.flatMap_cons, List.length_append, List.map_cons, List.sum_cons, Nat.mul_add]
    omega
theorem belowFrom_name (P : Nat) (head : List UInt8) : ∀ (l : List Nd) (i : Nat) (x : Nat × List UInt8), (∀ n ∈ l, n.path.length ≤ P) → x ∈ belowFrom head i l → x.2.length ≤ P
  | [], _, _, _, h => by simp [belowFrom] at h
  | n :: l, i, x, hP, h => by
    have hn := hP n List.mem_cons_self
    have hr := fun h => belowFrom_name P head l (i + 1) x (fun z hz => hP z (List.mem_cons_of_mem _ hz)) h
    unfold belowFrom at h
    split at h
    · split at h
      · exact hr h
      · rcases List.mem_cons.mp h with rfl | h
        · simp only [List.length_drop]; omega
        · exact hr h
    · simp at h
theorem entryB_len (nm body : List UInt8) : (entryB nm body).length ≤ body.length + (nm.length + 140) := by
  unfold entryB
  have h1 := strB_le nm
  have h2 : (strB wEntry).length = 16 := by decide
  have h3 : (strB wOpen).length = 16 := by decide
  have h4 : (strB wName).length = 16 := by decide
  have h5 : (strB wNode).length = 16 := by decide
  have h6 : (strB wShut).length = 16 := by decide
  simp only [strsB, List.length_append, List.append_nil]
  rw [h2, h3, h4, h5, h6]
  omega
theorem packN_le (l : List Nd) (K P : Nat) (hK : ∀ n ∈ l, (leafB n).length + 72 ≤ K) (hP : ∀ n ∈ l, n.path.length ≤ P) (hK0 : 72 ≤ K) (hne : ∀ j (h : j < l.length), 0 < j → l[j].path ≠ []) :
    ∀ (f i : Nat), (packN f l i).length + (P + 140) ≤ (K + (P + 140)) * holds l i := by
  have h1 : (strsB [wOpen, wType]).length = 32 := by decide
  have h2 : (strsB [wShut]).length = 16 := by decide
  have h3 : (strsB [wDir]).length = 24 := by decide
  intro f
  induction f with
  | zero =>
    intro i
    have : 1 ≤ holds l i := by unfold holds; omega
    have := Nat.mul_le_mul (Nat.le_refl (K + (P + 140))) this
    simp only [packN, List.length_nil]
    omega
  | succ f ih =>
    intro i
    have hw : (K + (P + 140)) * holds l i = (K + (P + 140)) + (K + (P + 140)) * runLen (headOf (pathAt l i)) (l.drop (i + 1)) := by
      unfold holds; rw [Nat.mul_add, Nat.mul_one]
    rw [hw]
    unfold packN
    by_cases hi : i < l.length
    · rw [List.getElem?_eq_getElem hi]
      simp only
      split
      · have h4 := hK _ (List.getElem_mem hi)
        rw [List.length_append, List.length_append, h1, h2]
        omega
      · rw [List.length_append, List.length_append, List.length_append, h1, h2, h3]
        have h5 := flat_sum (K + (P + 140)) (fun x => entryB x.2 (packN f l x.1)) (fun x => holds l x.1) (belowFrom (headOf (l[i]).path) (i + 1) (l.drop (i + 1))) (by
          intro y hy
          have h6 := entryB_len y.2 (packN f l y.1)
          have h7 := belowFrom_name P _ _ _ _ (fun n hn => hP n (List.mem_of_mem_drop hn)) hy
          have h8 := ih y.1
          omega)
        have h6 := below_sum l (headOf (l[i]).path) hne (l.length - (i + 1)) (i + 1) (by omega) (Nat.le_refl _)
        have h7 := Nat.mul_le_mul (Nat.le_refl (K + (P + 140))) h6
        rw [pathAt_is l i hi]
        omega
    · rw [List.getElem?_eq_none (by omega)]
      simp only [List.length_nil]
      omega
theorem holds_le (l : List Nd) (i : Nat) : holds l i ≤ l.length + 1 := by
  unfold holds
  have := runLen_le (headOf (pathAt l i)) (l.drop (i + 1))
  rw [List.length_drop] at this
  omega
end Go.Proofs.Ytncokgdfkbgflaa

namespace Go.Proofs.Ytncokgdfkbgflaa
mutual
/-- A tree. -/
inductive Tr where
  | leaf (k : Int) (d : List UInt8)
  | dir (es : Es)
/-- What stands in a directory. -/
inductive Es where
  | nil
  | cons (nm : List UInt8) (t : Tr) (es : Es)
end

mutual
/-- The nodes of a tree at a path. -/
def Tr.nodes (p : List UInt8) : Tr → List Nd
  | .leaf k d => [⟨p, k, d⟩]
  | .dir es => ⟨p, 4, []⟩ :: es.nodes p
def Es.nodes (p : List UInt8) : Es → List Nd
  | .nil => []
  | .cons nm t es => t.nodes (headOf p ++ nm) ++ es.nodes p
end
mutual
/-- The bytes of a tree. -/
def Tr.enc : Tr → List UInt8
  | .leaf k d => strsB [wOpen, wType] ++ leafB ⟨[], k, d⟩ ++ strsB [wShut]
  | .dir es => strsB [wOpen, wType] ++ (strsB [wDir] ++ es.enc) ++ strsB [wShut]
def Es.enc : Es → List UInt8
  | .nil => []
  | .cons nm t es => entryB nm t.enc ++ es.enc
end
mutual
/-- May a tree be, so deep? -/
def Tr.ok (d : Nat) : Tr → Bool
  | .leaf k x => decide (k = 1 ∨ k = 2 ∨ k = 3) && okNd ⟨[], k, x⟩
  | .dir es => es.ok d []
def Es.ok (d : Nat) (last : List UInt8) : Es → Bool
  | .nil => true
  | .cons nm t es => mayName nm && (!(Op.bytesLess nm last || nm == last) && (decide (d < 64) && (t.ok (d + 1) && es.ok d nm)))
end

theorem mayName_ne {nm : List UInt8} (h : mayName nm = true) : nm ≠ [] ∧ 47 ∉ nm := by
  unfold mayName at h
  simp only [Bool.and_eq_true, Bool.not_eq_true'] at h
  refine ⟨fun e => by rw [e] at h; simp at h, fun e => ?_⟩
  have h3 := h.2.2.1
  unfold hasSep at h3
  rw [List.any_eq_false] at h3
  exact h3 47 e (by decide)
theorem Tr.first (p : List UInt8) : ∀ t : Tr, ∃ n l, t.nodes p = n :: l ∧ n.path = p
  | .leaf k d => ⟨_, _, by rw [Tr.nodes], rfl⟩
  | .dir es => ⟨_, _, by rw [Tr.nodes], rfl⟩
theorem headOf_ne {p : List UInt8} (h : p ≠ []) : headOf p = p ++ [47] := by rw [headOf, if_neg h]
mutual
theorem Tr.below_path (d : Nat) (p : List UInt8) : ∀ t : Tr, t.ok d = true → ∀ n ∈ (t.nodes p).drop 1, ∃ s, s ≠ [] ∧ n.path = headOf p ++ s
  | .leaf k x, _ => by rw [Tr.nodes]; intro n hn; simp at hn
  | .dir es, h => by
    rw [Tr.nodes]
    rw [Tr.ok] at h
    exact Es.below_path d [] p es h
theorem Es.below_path (d : Nat) (last p : List UInt8) : ∀ es : Es, es.ok d last = true → ∀ n ∈ es.nodes p, ∃ s, s ≠ [] ∧ n.path = headOf p ++ s
  | .nil, _ => by rw [Es.nodes]; intro n hn; simp at hn
  | .cons nm t es, h => by
    rw [Es.ok] at h
    simp only [Bool.and_eq_true] at h
    obtain ⟨h1, _, _, h4, h5⟩ := h
    have hne := (mayName_ne h1).1
    rw [Es.nodes]
    intro n hn
    rcases List.mem_append.1 hn with hn | hn
    · obtain ⟨m, l, hm, hp⟩ := Tr.first (headOf p ++ nm) t
      have hb := Tr.below_path (d + 1) (headOf p ++ nm) t h4
      rw [hm] at hn hb
      rcases List.mem_cons.1 hn with rfl | hn
      · exact ⟨nm, hne, hp⟩
      · obtain ⟨s, hs, hs2⟩ := hb n hn
        rw [headOf_ne (by intro e; exact hne (List.append_eq_nil_iff.1 e).2)] at hs2
        exact ⟨nm ++ [47] ++ s, by simp, by rw [hs2]; simp [List.append_assoc]⟩
    · exact Es.below_path d nm p es h5 n hn
end
end Go.Proofs.Ytncokgdfkbgflaa

namespace Go.Proofs.Ytncokgdfkbgflaa
mutual
/-- How many nodes. -/
def Tr.size : Tr → Nat
  | .leaf _ _ => 1
  | .dir es => 1 + es.size
def Es.size : Es → Nat
  | .nil => 0
  | .cons _ t es => t.size + es.size
end
mutual
theorem Tr.nodes_length (p : List UInt8) : ∀ t : Tr, (t.nodes p).length = t.size
  | .leaf k d => by rw [Tr.nodes, Tr.size]; rfl
  | .dir es => by rw [Tr.nodes, Tr.size, List.length_cons, Es.nodes_length p es]; omega
theorem Es.nodes_length (p : List UInt8) : ∀ es : Es, (es.nodes p).length = es.size
  | .nil => by rw [Es.nodes, Es.size]; rfl
  | .cons nm t es => by rw [Es.nodes, Es.size, List.length_append, Tr.nodes_length _ t, Es.nodes_length p es]
end
theorem Tr.size_pos : ∀ t : Tr, 1 ≤ t.size
  | .leaf k d => by rw [Tr.size]; exact Nat.le_refl 1
  | .dir es => by rw [Tr.size]; omega
def StopsAt (head : List UInt8) (post : List Nd) : Prop := ∀ n l, post = n :: l → Lib.hasPrefix n.path head = false
theorem below_stopped (head : List UInt8) (post : List Nd) (h : StopsAt head post) (j : Nat) : belowFrom head j post = [] := by
  cases post with
  | nil => rfl
  | cons n l => unfold belowFrom; rw [if_neg (by rw [h n l rfl]; decide)]
theorem below_over (head nm : List UInt8) : ∀ (r rest : List Nd) (j : Nat), (∀ n ∈ r, ∃ s, n.path = head ++ nm ++ [47] ++ s) → belowFrom head j (r ++ rest) = belowFrom head (j + r.length) rest
  | [], rest, j, _ => rfl
  | n :: r, rest, j, h => by
    obtain ⟨s, hs⟩ := h n List.mem_cons_self
    have ih := below_over head nm r rest (j + 1) (fun m hm => h m (List.mem_cons_of_mem _ hm))
    have hp : Lib.hasPrefix n.path head = true := (hasPrefix_iff _ _).2 ⟨nm ++ [47] ++ s, by rw [hs]; simp [List.append_assoc]⟩
    have hc : (n.path.drop head.length).contains 47 = true := by rw [hs]; simp [List.append_assoc]
    rw [List.cons_append, belowFrom, if_pos hp, if_pos hc, ih, List.length_cons]
    congr 1
    omega
def Es.places : Nat → Es → List (Nat × List UInt8)
  | _, .nil => []
  | j, .cons nm t es => (j, nm) :: Es.places (j + t.size) es
theorem Es.stops (d : Nat) (last p q : List UInt8) (es : Es) (post : List Nd) (nm : List UInt8) (hq : q = headOf p ++ nm) (hnm : nm ≠ []) (h : es.ok d last = true) (hpost : StopsAt (headOf p) post) : StopsAt (headOf q) (es.nodes p ++ post) := by
  have hqq : headOf q = headOf p ++ nm ++ [47] := by rw [hq, headOf_ne (by intro e; exact hnm (List.append_eq_nil_iff.1 e).2)]
  intro n l hl
  rw [Bool.eq_false_iff]
  intro hp
  rw [hqq] at hp
  obtain ⟨s, hs⟩ := (hasPrefix_iff _ _).1 hp
  cases es with
  | nil =>
    rw [Es.nodes] at hl
    have h1 := hpost n l hl
    have h2 : Lib.hasPrefix n.path (headOf p) = true := (hasPrefix_iff _ _).2 ⟨nm ++ [47] ++ s, by rw [hs]; simp [List.append_assoc]⟩
    rw [h2] at h1
    exact absurd h1 (by decide)
  | cons nm2 t2 es2 =>
    rw [Es.ok] at h
    simp only [Bool.and_eq_true] at h
    have h47 := (mayName_ne h.1).2
    obtain ⟨m, r, hm, hmp⟩ := Tr.first (headOf p ++ nm2) t2
    rw [Es.nodes, hm, List.cons_append, List.cons_append] at hl
    injection hl with hl1 hl2
    rw [← hl1, hmp] at hs
    have h3 : nm2 = nm ++ [47] ++ s := by
      have : headOf p ++ nm2 = headOf p ++ (nm ++ [47] ++ s) := by rw [hs]; simp [List.append_assoc]
      exact List.append_cancel_left this
    exact h47 (by rw [h3]; simp)
theorem Es.below_is (d : Nat) (p : List UInt8) (post : List Nd) (hpost : StopsAt (headOf p) post) : ∀ (es : Es) (last : List UInt8) (j : Nat), es.ok d last = true → belowFrom (headOf p) j (es.nodes p ++ post) = es.places j
  | .nil, last, j, _ => by rw [Es.nodes, Es.places]; exact below_stopped _ _ hpost j
  | .cons nm t es, last, j, h => by
    have h' := h
    rw [Es.ok] at h
    simp only [Bool.and_eq_true] at h
    obtain ⟨h1, _, _, h4, h5⟩ := h
    obtain ⟨hne, h47⟩ := mayName_ne h1
    have ih := Es.below_is d p post hpost es nm (j + t.size) h5
    obtain ⟨n, r, hn, hnp⟩ := Tr.first (headOf p ++ nm) t
    have hb := Tr.below_path (d + 1) (headOf p ++ nm) t h4
    have hlen := Tr.nodes_length (headOf p ++ nm) t
    rw [hn] at hb hlen
    have hp : Lib.hasPrefix n.path (headOf p) = true := (hasPrefix_iff _ _).2 ⟨nm, hnp⟩
    have hd : n.path.drop (headOf p).length = nm := by rw [hnp]; simp
    have hc : ¬ (nm.contains 47 = true) := by simpa using h47
    rw [Es.nodes, Es.places, hn, List.cons_append, List.cons_append, belowFrom, if_pos hp, hd, if_neg hc, List.append_assoc,
      below_over (headOf p) nm r (es.nodes p ++ post) (j + 1) (by
        intro m hm
        obtain ⟨s, _, hs⟩ := hb m (by simpa using hm)
        rw [headOf_ne (by intro e; exact hne (List.append_eq_nil_iff.1 e).2)] at hs
        exact ⟨s, hs⟩)]
    rw [List.length_cons] at hlen
    rw [show j + 1 + r.length = j + t.size by omega, ih]
mutual
theorem Tr.pack_is : ∀ (t : Tr) (d : Nat) (p : List UInt8) (pre post : List Nd) (f : Nat), t.ok d = true → StopsAt (headOf p) post → t.size ≤ f → packN f (pre ++ (t.nodes p ++ post)) pre.length = t.enc
  | .leaf k x, d, p, pre, post, f, h, hs, hf => by
    rw [Tr.size] at hf
    obtain ⟨f, rfl⟩ : ∃ g, f = g + 1 := ⟨f - 1, by omega⟩
    rw [Tr.ok] at h
    simp only [Bool.and_eq_true, decide_eq_true_eq] at h
    rw [Tr.nodes, Tr.enc, packN]
    simp only [List.cons_append, List.nil_append, List.length_append, List.getElem?_append_right (Nat.le_refl pre.length), Nat.sub_self, List.getElem?_cons_zero]
    rw [if_pos h.1]
    rfl
  | .dir es, d, p, pre, post, f, h, hs, hf => by
    rw [Tr.size] at hf
    obtain ⟨f, rfl⟩ : ∃ g, f = g + 1 := ⟨f - 1, by omega⟩
    rw [Tr.ok] at h
    have hb := Es.below_is d p post hs es [] (pre.length + 1) h
    have ih := Es.pack_is es d [] p (pre ++ [⟨p, 4, []⟩]) post f h hs (by omega)
    have hdrop : (pre ++ (⟨p, 4, []⟩ :: (es.nodes p ++ post))).drop (pre.length + 1) = es.nodes p ++ post := by
      rw [List.drop_append]
      simp
    rw [Tr.nodes, Tr.enc, packN]
    simp only [List.cons_append, List.getElem?_append_right (Nat.le_refl pre.length), Nat.sub_self, List.getElem?_cons_zero]
    rw [if_neg (by decide), hdrop, hb]
    rw [List.length_append, List.length_cons, List.length_nil] at ih
    rw [List.append_assoc] at ih
    simp only [List.cons_append, List.nil_append] at ih
    rw [ih]
theorem Es.pack_is : ∀ (es : Es) (d : Nat) (last p : List UInt8) (pre post : List Nd) (f : Nat), es.ok d last = true → StopsAt (headOf p) post → es.size ≤ f →
    (es.places pre.length).flatMap (fun x => entryB x.2 (packN f (pre ++ (es.nodes p ++ post)) x.1)) = es.enc
  | .nil, d, last, p, pre, post, f, h, hs, hf => by rw [Es.places, Es.enc]; rfl
  | .cons nm t es, d, last, p, pre, post, f, h, hs, hf => by
    rw [Es.size] at hf
    rw [Es.ok] at h
    simp only [Bool.and_eq_true] at h
    obtain ⟨h1, _, _, h4, h5⟩ := h
    have hne := (mayName_ne h1).1
    have it := Tr.pack_is t (d + 1) (headOf p ++ nm) pre (es.nodes p ++ post) f h4 (Es.stops d nm p _ es post nm rfl hne h5 hs) (by omega)
    have ie := Es.pack_is es d nm p (pre ++ t.nodes (headOf p ++ nm)) post f h5 hs (by omega)
    rw [List.length_append, Tr.nodes_length, List.append_assoc] at ie
    rw [Es.places, Es.enc, Es.nodes, List.flatMap_cons]
    simp only [List.append_assoc] at it ie ⊢
    rw [it, ie]
end
end Go.Proofs.Ytncokgdfkbgflaa

namespace Go.Proofs.Ytncokgdfkbgflaa
theorem cutSlash_is : ∀ (l a n : List UInt8), cutSlash l = some (a, n) → l = a ++ 47 :: n
  | [], a, n, h => by simp [cutSlash] at h
  | b :: l, a, n, h => by
    unfold cutSlash at h
    split at h
    · rename_i a' n' h2
      injection h with h
      obtain rfl : n' = n := congrArg Prod.snd h
      have : b :: a' = a := congrArg Prod.fst h
      rw [← this, cutSlash_is l a' n' h2]
      rfl
    · split at h
      · rename_i h2
        injection h with h
        obtain rfl : l = n := congrArg Prod.snd h
        have : ([] : List UInt8) = a := congrArg Prod.fst h
        rw [← this, h2]
        rfl
      · cases h
theorem idxOf_lt' {α : Type} (p : α → Bool) : ∀ (l : List α) (i : Nat), idxOf p l = i → i < l.length
  | [], i, h => by simp [idxOf] at h
  | x :: l, i, h => by
    have hg := idxOf_ge p l
    unfold idxOf at h
    rw [List.length_cons]
    split at h
    · omega
    · split at h
      · omega
      · have := idxOf_lt' p l (i - 1) (by omega)
        omega
theorem idxOf_append {α : Type} (f : α → Bool) : ∀ (l : List α) (z : α), idxOf f (l ++ [z]) = if 0 ≤ idxOf f l then idxOf f l else if f z then (l.length : Int) else -1
  | [], z => by
    simp only [List.nil_append, idxOf]
    split <;> simp
  | x :: l, z => by
    have ih := idxOf_append f l z
    have hg := idxOf_ge f l
    have hg2 := idxOf_ge f (l ++ [z])
    rw [List.cons_append]
    by_cases h : f x = true
    · simp only [idxOf, if_pos h]
      simp
    · simp only [idxOf, if_neg h, ih]
      rw [List.length_cons]
      repeat' split
      all_goals omega
def parentOf (p : List UInt8) : Option (List UInt8 × List UInt8) :=
  match cutSlash p with
  | none => some ([], p)
  | some (a, n) => if a = [] then none else some (a, n)
theorem parentOf_is {p a n : List UInt8} (h : parentOf p = some (a, n)) : p = headOf a ++ n := by
  unfold parentOf at h
  split at h
  · injection h with h
    have h1 : [] = a := congrArg Prod.fst h
    have h2 : p = n := congrArg Prod.snd h
    rw [← h1, ← h2]; rfl
  · rename_i a' n' hc
    split at h
    · cases h
    · rename_i hne
      injection h with h
      have h1 : a' = a := congrArg Prod.fst h
      have h2 : n' = n := congrArg Prod.snd h
      rw [cutSlash_is _ _ _ hc, ← h1, ← h2, headOf_ne hne]
      simp
theorem withinP_is (op : List Lv) (p : List UInt8) : withinP op p = match parentOf p with
    | none => none
    | some (a, n) => if idxOf (fun x : Lv => x.1 == a) op < 0 then none else some ((idxOf (fun x : Lv => x.1 == a) op).toNat, n) := by
  unfold withinP parentOf
  cases cutSlash p with
  | none => rfl
  | some x =>
    obtain ⟨a, n⟩ := x
    simp only
    split
    · rfl
    · rfl
theorem mayStep_cases (outer : List Lv) (p last : List UInt8) (n : Nd) (op' : List Lv) (h : mayStep (outer ++ [(p, last)]) n = some op') :
    (mayStep outer n = some op') ∨ (∃ nm, n.path = headOf p ++ nm ∧ mayName nm = true ∧ (Op.bytesLess nm last || nm == last) = false ∧ outer.length < 64 ∧ op' = outer ++ [(p, nm)] ++ (if n.kind = 4 then [(n.path, [])] else [])) := by
  unfold mayStep at h ⊢
  rw [withinP_is] at h ⊢
  cases hpar : parentOf n.path with
  | none => rw [hpar] at h; cases h
  | some x =>
    obtain ⟨a, nm⟩ := x
    rw [hpar] at h
    simp only [idxOf_append] at h ⊢
    by_cases h0 : 0 ≤ idxOf (fun x : Lv => x.1 == a) outer
    · left
      rw [if_pos h0] at h
      rw [if_neg (by omega)] at h ⊢
      obtain ⟨i, hi⟩ := Int.eq_ofNat_of_zero_le h0
      have hlt := idxOf_lt' _ _ _ hi
      rw [hi, Int.toNat_natCast] at h ⊢
      simp only at h ⊢
      have hg : (outer ++ [(p, last)]).getD i ([], []) = outer.getD i ([], []) := by
        simp [List.getD_eq_getElem?_getD, List.getElem?_append_left hlt]
      rw [hg, List.take_append_of_le_length (by omega)] at h
      exact h
    · right
      rw [if_neg h0] at h
      by_cases hz : p = a
      · have hb : (p == a) = true := by rw [hz]; simp
        rw [if_pos hb, if_neg (by omega), Int.toNat_natCast] at h
        simp only at h
        have hg : (outer ++ [(p, last)]).getD outer.length ([], []) = (p, last) := by
          simp [List.getD_eq_getElem?_getD]
        rw [hg, List.take_of_length_le (by simp)] at h
        split at h
        · rename_i hc
          simp only [Bool.and_eq_true, Bool.not_eq_true', decide_eq_true_eq] at hc
          injection h with h
          refine ⟨nm, by rw [hz]; exact parentOf_is hpar, hc.1, hc.2.1, hc.2.2, ?_⟩
          rw [← h]
          congr 1
          simp
        · cases h
      · have hb : ¬ ((p == a) = true) := by simpa using hz
        rw [if_neg hb, if_pos (by omega)] at h
        cases h
theorem mayGo_next {outer : List Lv} {n : Nd} {l : List Nd} (h : mayGo outer (n :: l) = true) : ∃ op', mayStep outer n = some op' ∧ mayGo op' l = true := by
  unfold mayGo at h
  split at h
  · cases h
  · rename_i op' hs
    exact ⟨op', hs, h⟩
theorem mayGo_of {outer : List Lv} {n : Nd} {l : List Nd} {op' : List Lv} (h : mayStep outer n = some op') (h2 : mayGo op' l = true) : mayGo outer (n :: l) = true := by
  unfold mayGo
  rw [h]
  exact h2
theorem okNd_kind {n : Nd} (h : okNd n = true) : (n.kind = 1 ∨ n.kind = 2 ∨ n.kind = 3) ∨ (n.kind = 4 ∧ n.data = []) := by
  unfold okNd at h
  split at h
  · rename_i h1
    rcases h1 with h1 | h1
    · exact .inl (.inl h1)
    · exact .inl (.inr (.inl h1))
  · split at h
    · rename_i h3
      exact .inl (.inr (.inr h3))
    · split at h
      · rename_i h4
        exact .inr ⟨h4, by simpa using h⟩
      · cases h
theorem okNd_path (n : Nd) (p : List UInt8) : okNd ⟨p, n.kind, n.data⟩ = okNd n := rfl
theorem mayGo_tree : ∀ (m : Nat) (l : List Nd) (outer : List Lv) (p last : List UInt8), l.length ≤ m → mayGo (outer ++ [(p, last)]) l = true → (∀ n ∈ l, okNd n = true) →
    ∃ es rest, l = Es.nodes p es ++ rest ∧ Es.ok outer.length last es = true ∧ mayGo outer rest = true := by
  intro m
  induction m with
  | zero =>
    intro l outer p last hm h hok
    obtain rfl : l = [] := List.eq_nil_of_length_eq_zero (by omega)
    exact ⟨.nil, [], by rw [Es.nodes]; rfl, by rw [Es.ok], by rw [mayGo]⟩
  | succ m ih =>
    intro l outer p last hm h hok
    cases l with
    | nil => exact ⟨.nil, [], by rw [Es.nodes]; rfl, by rw [Es.ok], by rw [mayGo]⟩
    | cons n l =>
      obtain ⟨op', hs, h2⟩ := mayGo_next h
      rw [List.length_cons] at hm
      have hok' := fun x hx => hok x (List.mem_cons_of_mem _ hx)
      have hn := hok n List.mem_cons_self
      rcases mayStep_cases outer p last n op' hs with hs' | ⟨nm, hp, hnm, hlt, h64, hop⟩
      · exact ⟨.nil, n :: l, by rw [Es.nodes]; rfl, by rw [Es.ok], mayGo_of hs' h2⟩
      · rcases okNd_kind hn with hk | ⟨hk, hd⟩
        · have hk4 : ¬ n.kind = 4 := by omega
          rw [if_neg hk4, List.append_nil] at hop
          rw [hop] at h2
          obtain ⟨es, rest, e1, e2, e3⟩ := ih l outer p nm (by omega) h2 hok'
          refine ⟨.cons nm (.leaf n.kind n.data) es, rest, ?_, ?_, e3⟩
          · rw [Es.nodes, Tr.nodes, ← hp, e1]; rfl
          · rw [Es.ok, hnm, hlt, decide_eq_true h64, Tr.ok, decide_eq_true hk, e2, okNd_path, hn]; rfl
        · rw [if_pos hk] at hop
          rw [hop] at h2
          obtain ⟨es1, rest1, e1, e2, e3⟩ := ih l (outer ++ [(p, nm)]) n.path [] (by omega) h2 hok'
          have hr : rest1.length ≤ l.length := by rw [e1, List.length_append]; omega
          obtain ⟨es2, rest2, f1, f2, f3⟩ := ih rest1 outer p nm (by omega) e3 (fun x hx => hok' x (by rw [e1]; exact List.mem_append_right _ hx))
          refine ⟨.cons nm (.dir es1) es2, rest2, ?_, ?_, f3⟩
          · rw [Es.nodes, Tr.nodes, ← hp, e1, f1]
            have : n = ⟨n.path, 4, []⟩ := by rw [← hk, ← hd]
            conv => lhs; rw [this]
            simp [List.append_assoc]
          · rw [List.length_append, List.length_cons, List.length_nil] at e2
            rw [Es.ok, hnm, hlt, decide_eq_true h64, Tr.ok, f2, e2]; rfl
theorem mayGo_nil : ∀ l : List Nd, mayGo [] l = true → l = []
  | [], _ => rfl
  | n :: l, h => by
    obtain ⟨op', hs, _⟩ := mayGo_next h
    unfold mayStep at hs
    rw [withinP_is] at hs
    cases hpar : parentOf n.path with
    | none => rw [hpar] at hs; cases hs
    | some x =>
      rw [hpar] at hs
      simp [idxOf] at hs
theorem may_tree (l : List Nd) (h : May l = true) : ∃ t : Tr, t.ok 0 = true ∧ l = t.nodes [] := by
  unfold May at h
  cases l with
  | nil => cases h
  | cons n r =>
    simp only [Bool.and_eq_true, decide_eq_true_eq] at h
    obtain ⟨_, h2, h3, h4⟩ := h
    have hp : n.path = [] := by simpa using h2
    have hall : ∀ x ∈ n :: r, okNd x = true := fun x hx => List.all_eq_true.1 h3 x hx
    have hn := hall n List.mem_cons_self
    rcases okNd_kind hn with hk | ⟨hk, hd⟩
    · rw [if_neg (by omega)] at h4
      obtain rfl := mayGo_nil r h4
      refine ⟨.leaf n.kind n.data, ?_, ?_⟩
      · rw [Tr.ok, decide_eq_true hk, okNd_path, hn]; rfl
      · rw [Tr.nodes, ← hp]
    · rw [if_pos hk] at h4
      obtain ⟨es, rest, e1, e2, e3⟩ := mayGo_tree r.length r [] [] [] (Nat.le_refl _) h4 (fun x hx => hall x (List.mem_cons_of_mem _ hx))
      obtain rfl := mayGo_nil rest e3
      refine ⟨.dir es, ?_, ?_⟩
      · rw [Tr.ok]; exact e2
      · rw [Tr.nodes, e1, List.append_nil]
        have : n = ⟨[], 4, []⟩ := by
          cases n
          simp only at hp hk hd
          rw [hp, hk, hd]
        rw [this]
theorem packN_tree (t : Tr) (h : t.ok 0 = true) : packN (t.nodes []).length (t.nodes []) 0 = t.enc := by
  have := Tr.pack_is t 0 [] [] [] (t.nodes []).length h (fun n l e => by cases e) (by rw [Tr.nodes_length]; exact Nat.le_refl _)
  simpa using this
end Go.Proofs.Ytncokgdfkbgflaa

namespace Go.Proofs.Ytncokgdfkbgflaa
theorem parentOf_in (p nm : List UInt8) (h : 47 ∉ nm) : parentOf (headOf p ++ nm) = some (p, nm) := by
  unfold parentOf
  by_cases hp : p = []
  · subst hp
    rw [show headOf [] ++ nm = nm from rfl, cutSlash_none nm h]
  · have e : headOf p ++ nm = p ++ 47 :: nm := by rw [headOf_ne hp]; simp
    rw [e, cutSlash_some p nm h]
    simp only
    rw [if_neg hp]
theorem idxOf_mid (p : List UInt8) (outer tail : List Lv) (last : List UInt8) (hout : ∀ x ∈ outer, x.1 ≠ p) : idxOf (fun x : Lv => x.1 == p) (outer ++ [(p, last)] ++ tail) = (outer.length : Int) := by
  refine idxOf_hit _ _ outer.length (by simp) ?_ ?_
  · intro j hj
    have e : (outer ++ [(p, last)] ++ tail)[j]'(by simp; omega) = outer[j] := by
      simp [List.append_assoc, List.getElem_append_left hj]
    rw [e]
    exact beq_eq_false_iff_ne.2 (hout _ (List.getElem_mem _))
  · simp [List.append_assoc, List.getElem_append_right]
theorem mayStep_in (outer tail : List Lv) (p last nm : List UInt8) (n : Nd) (hp : n.path = headOf p ++ nm) (hnm : mayName nm = true) (hlt : (Op.bytesLess nm last || nm == last) = false) (h64 : outer.length < 64) (hout : ∀ x ∈ outer, x.1 ≠ p) :
    mayStep (outer ++ [(p, last)] ++ tail) n = some (outer ++ [(p, nm)] ++ (if n.kind = 4 then [(n.path, [])] else [])) := by
  unfold mayStep
  rw [withinP_is, hp, parentOf_in p nm (mayName_ne hnm).2]
  simp only
  rw [idxOf_mid p outer tail last hout, if_neg (by omega), Int.toNat_natCast]
  simp only
  have hg : (outer ++ [(p, last)] ++ tail).getD outer.length ([], []) = (p, last) := by
    simp [List.getD_eq_getElem?_getD, List.append_assoc]
  have ht : (outer ++ [(p, last)] ++ tail).take (outer.length + 1) = outer ++ [(p, last)] := by
    rw [List.take_append_of_le_length (by simp)]
    exact List.take_of_length_le (by simp)
  rw [hg, ht, hnm, hlt, decide_eq_true h64]
  simp [hp]
def Es.lastN (last : List UInt8) : Es → List UInt8
  | .nil => last
  | .cons nm _ es => es.lastN nm
theorem okNd_dir (p : List UInt8) : okNd ⟨p, 4, []⟩ = true := by simp [okNd]
mutual
theorem Tr.may_in : ∀ (t : Tr) (outer tail : List Lv) (p last nm : List UInt8) (rest : List Nd), t.ok (outer.length + 1) = true → mayName nm = true → (Op.bytesLess nm last || nm == last) = false → outer.length < 64 →
    (∀ x ∈ outer, x.1.length < p.length) → (∀ tail', mayGo (outer ++ [(p, nm)] ++ tail') rest = true) → mayGo (outer ++ [(p, last)] ++ tail) (t.nodes (headOf p ++ nm) ++ rest) = true
  | .leaf k x, outer, tail, p, last, nm, rest, h, hnm, hlt, h64, hout, hr => by
    rw [Tr.nodes]
    exact mayGo_of (mayStep_in outer tail p last nm ⟨headOf p ++ nm, k, x⟩ rfl hnm hlt h64 (fun x hx e => by have := hout x hx; rw [e] at this; omega)) (hr _)
  | .dir es, outer, tail, p, last, nm, rest, h, hnm, hlt, h64, hout, hr => by
    rw [Tr.nodes, List.cons_append]
    refine mayGo_of (mayStep_in outer tail p last nm ⟨headOf p ++ nm, 4, []⟩ rfl hnm hlt h64 (fun x hx e => by have := hout x hx; rw [e] at this; omega)) ?_
    rw [if_pos rfl]
    rw [Tr.ok] at h
    have hne := (mayName_ne hnm).1
    have hlen : p.length < (headOf p ++ nm).length := by
      have : nm.length ≠ 0 := fun e => hne (List.length_eq_zero_iff.1 e)
      rw [List.length_append, headOf]
      split
      · rename_i e; rw [e]; simp; omega
      · simp; omega
    have := Es.may_in es (outer ++ [(p, nm)]) [] (headOf p ++ nm) [] rest (by simpa using h) (by
      intro x hx
      rcases List.mem_append.1 hx with hx | hx
      · have := hout x hx; omega
      · simp at hx; rw [hx]; exact hlen) (fun last' tail' => by
      have := hr ([(headOf p ++ nm, last')] ++ tail')
      simpa [List.append_assoc] using this)
    simpa using this
theorem Es.may_in : ∀ (es : Es) (outer tail : List Lv) (p last : List UInt8) (rest : List Nd), es.ok outer.length last = true →
    (∀ x ∈ outer, x.1.length < p.length) → (∀ last' tail', mayGo (outer ++ [(p, last')] ++ tail') rest = true) → mayGo (outer ++ [(p, last)] ++ tail) (es.nodes p ++ rest) = true
  | .nil, outer, tail, p, last, rest, h, hout, hr => by rw [Es.nodes]; exact hr last tail
  | .cons nm t es, outer, tail, p, last, rest, h, hout, hr => by
    rw [Es.ok] at h
    simp only [Bool.and_eq_true, Bool.not_eq_true', decide_eq_true_eq] at h
    obtain ⟨h1, h2, h3, h4, h5⟩ := h
    rw [Es.nodes, List.append_assoc (Tr.nodes _ t)]
    exact Tr.may_in t outer tail p last nm (es.nodes p ++ rest) h4 h1 h2 h3 hout (fun tail' => Es.may_in es outer tail' p nm rest h5 hout hr)
end

mutual
theorem Tr.ok_nodes (d : Nat) (p : List UInt8) : ∀ t : Tr, t.ok d = true → ∀ n ∈ t.nodes p, okNd n = true
  | .leaf k x, h => by
    rw [Tr.nodes]
    rw [Tr.ok] at h
    simp only [Bool.and_eq_true] at h
    intro n hn
    rw [List.mem_singleton.1 hn]
    exact h.2
  | .dir es, h => by
    rw [Tr.nodes]
    rw [Tr.ok] at h
    intro n hn
    rcases List.mem_cons.1 hn with rfl | hn
    · exact okNd_dir p
    · exact Es.ok_nodes d [] p es h n hn
theorem Es.ok_nodes (d : Nat) (last p : List UInt8) : ∀ es : Es, es.ok d last = true → ∀ n ∈ es.nodes p, okNd n = true
  | .nil, _ => by rw [Es.nodes]; intro n hn; simp at hn
  | .cons nm t es, h => by
    rw [Es.ok] at h
    simp only [Bool.and_eq_true] at h
    rw [Es.nodes]
    intro n hn
    rcases List.mem_append.1 hn with hn | hn
    · exact Tr.ok_nodes (d + 1) _ t h.2.2.2.1 n hn
    · exact Es.ok_nodes d nm p es h.2.2.2.2 n hn
end

theorem May_cons (n : Nd) (r : List Nd) : May (n :: r) = (decide ((n :: r).length ≤ 256) && (n.path == [] && ((n :: r).all okNd && mayGo (if n.kind = 4 then [([], [])] else []) r))) := rfl
theorem tree_may (t : Tr) (h : t.ok 0 = true) (hs : t.size ≤ 256) : May (t.nodes []) = true := by
  have hok := Tr.ok_nodes 0 [] t h
  have hl := Tr.nodes_length [] t
  cases t with
  | leaf k x =>
    rw [Tr.nodes] at hok ⊢
    rw [Tr.ok] at h
    simp only [Bool.and_eq_true, decide_eq_true_eq] at h
    rw [May_cons]
    rw [if_neg (by show ¬ k = 4; omega), mayGo]
    simp only [List.all_cons, List.all_nil, hok _ (List.mem_singleton.2 rfl)]
    simp
  | dir es =>
    rw [Tr.nodes] at hok hl ⊢
    rw [Tr.ok] at h
    rw [May_cons]
    have hall : (⟨[], 4, []⟩ :: es.nodes []).all okNd = true := List.all_eq_true.2 hok
    have hgo := Es.may_in es [] [] [] [] [] h (fun x hx => by cases hx) (fun _ _ => by rw [mayGo])
    rw [hall, if_pos rfl, hl, decide_eq_true hs]
    simpa using hgo
end Go.Proofs.Ytncokgdfkbgflaa

namespace Go.Proofs.Ytncokgdfkbgflaa
def refName (path dir : List UInt8) : List UInt8 :=
  if Lib.hasPrefix path (headOf dir) then (if (path.drop (headOf dir).length).contains 47 then [] else path.drop (headOf dir).length) else []
theorem refName_in (p nm : List UInt8) (h : 47 ∉ nm) : refName (headOf p ++ nm) p = nm := by
  unfold refName
  rw [if_pos ((hasPrefix_iff _ _).2 ⟨nm, rfl⟩)]
  have : (headOf p ++ nm).drop (headOf p).length = nm := by simp
  rw [this, if_neg (by simpa using h)]
theorem refName_stop {path p : List UInt8} (h : Lib.hasPrefix path (headOf p) = false) : refName path p = [] := by
  unfold refName; rw [if_neg (by rw [h]; decide)]
def takeDir : Nat → List UInt8 → List UInt8 → List Nd → List Nd
  | 0, _, _, l => l
  | _ + 1, _, _, [] => []
  | f + 1, p, last, n :: l =>
    if refName n.path p = [] ∨ (Op.bytesLess (refName n.path p) last || refName n.path p == last) = true then n :: l
    else takeDir f p (refName n.path p) (if n.kind = 4 then takeDir f n.path [] l else l)
theorem takeDir_stop (f : Nat) (p last : List UInt8) (rest : List Nd) (h : StopsAt (headOf p) rest) : takeDir f p last rest = rest := by
  cases f with
  | zero => rfl
  | succ f =>
    cases rest with
    | nil => rfl
    | cons n l => unfold takeDir; rw [if_pos (.inl (refName_stop (h n l rfl)))]
mutual
theorem Tr.take_in : ∀ (t : Tr) (d : Nat) (p last nm : List UInt8) (rest : List Nd) (f : Nat), t.ok (d + 1) = true → mayName nm = true → (Op.bytesLess nm last || nm == last) = false → StopsAt (headOf (headOf p ++ nm)) rest → t.size ≤ f →
    takeDir (f + 1) p last (t.nodes (headOf p ++ nm) ++ rest) = takeDir f p nm rest
  | .leaf k x, d, p, last, nm, rest, f, h, hnm, hlt, hs, hf => by
    rw [Tr.ok] at h
    simp only [Bool.and_eq_true, decide_eq_true_eq] at h
    have e := refName_in p nm (mayName_ne hnm).2
    rw [Tr.nodes, List.cons_append, List.nil_append, takeDir]
    simp only [e]
    rw [if_neg (by rw [hlt]; simp [(mayName_ne hnm).1]), if_neg (by omega)]
  | .dir es, d, p, last, nm, rest, f, h, hnm, hlt, hs, hf => by
    rw [Tr.ok] at h
    rw [Tr.size] at hf
    have e := refName_in p nm (mayName_ne hnm).2
    rw [Tr.nodes, List.cons_append, takeDir]
    simp only [e]
    rw [if_neg (by rw [hlt]; simp [(mayName_ne hnm).1]), if_pos trivial, Es.take_in es (d + 1) (headOf p ++ nm) [] rest f h hs (by omega)]
theorem Es.take_in : ∀ (es : Es) (d : Nat) (p last : List UInt8) (rest : List Nd) (f : Nat), es.ok d last = true → StopsAt (headOf p) rest → es.size + 1 ≤ f → takeDir f p last (es.nodes p ++ rest) = rest
  | .nil, d, p, last, rest, f, h, hs, hf => by rw [Es.nodes]; exact takeDir_stop f p last rest hs
  | .cons nm t es, d, p, last, rest, f, h, hs, hf => by
    have h' := h
    rw [Es.ok] at h
    simp only [Bool.and_eq_true, Bool.not_eq_true', decide_eq_true_eq] at h
    obtain ⟨h1, h2, h3, h4, h5⟩ := h
    rw [Es.size] at hf
    have hp := Tr.size_pos t
    obtain ⟨f, rfl⟩ : ∃ g, f = g + 1 := ⟨f - 1, by omega⟩
    rw [Es.nodes, List.append_assoc, Tr.take_in t d p last nm (es.nodes p ++ rest) f h4 h1 h2 (Es.stops d nm p _ es rest nm rfl (mayName_ne h1).1 h5 hs) (by omega)]
    exact Es.take_in es d p nm rest f h5 hs (by omega)
end
end Go.Proofs.Ytncokgdfkbgflaa

namespace Go.Proofs.Ytncokgdfkbgflaa
def slashes (p : List UInt8) : Nat := p.count 47
def refNode (n : Nd) : Bool := okNd n && (decide (slashes n.path < 64) && mayName (match cutSlash n.path with | none => n.path | some (_, nm) => nm))
theorem cut_in (p nm : List UInt8) (h : 47 ∉ nm) : (match cutSlash (headOf p ++ nm) with | none => headOf p ++ nm | some (_, x) => x) = nm := by
  by_cases hp : p = []
  · subst hp
    rw [show headOf [] ++ nm = nm from rfl, cutSlash_none nm h]
  · have e : headOf p ++ nm = p ++ 47 :: nm := by rw [headOf_ne hp]; simp
    rw [e, cutSlash_some p nm h]
end Go.Proofs.Ytncokgdfkbgflaa

namespace Go.Proofs.Ytncokgdfkbgflaa
def refMay (l : List Nd) : Bool :=
  match l with
  | [] => false
  | n :: r => decide ((n :: r).length ≤ 256) && (n.path == [] && (okNd n && (r.all refNode && (if n.kind = 4 then (takeDir (r.length + 1) [] [] r).isEmpty else r.isEmpty))))
theorem refNode_in (p nm : List UInt8) (k : Int) (x : List UInt8) (hnm : mayName nm = true) (hd : slashes (headOf p) < 64) (hk : okNd ⟨[], k, x⟩ = true) : refNode ⟨headOf p ++ nm, k, x⟩ = true := by
  have h47 := (mayName_ne hnm).2
  unfold refNode
  have hs : slashes (headOf p ++ nm) < 64 := by
    unfold slashes at hd ⊢
    rw [List.count_append, List.count_eq_zero_of_not_mem h47]; exact hd
  simp only
  rw [cut_in p nm h47, hnm, decide_eq_true hs]
  have : okNd ⟨headOf p ++ nm, k, x⟩ = okNd ⟨[], k, x⟩ := rfl
  rw [this, hk]; rfl
mutual
theorem Tr.ref_nodes : ∀ (t : Tr) (d : Nat) (p nm : List UInt8), t.ok (d + 1) = true → mayName nm = true → slashes (headOf p) = d → d < 64 → ∀ n ∈ t.nodes (headOf p ++ nm), refNode n = true
  | .leaf k x, d, p, nm, h, hnm, hd, h64 => by
    rw [Tr.nodes]
    rw [Tr.ok] at h
    simp only [Bool.and_eq_true] at h
    intro n hn
    rw [List.mem_singleton.1 hn]
    exact refNode_in p nm k x hnm (by omega) h.2
  | .dir es, d, p, nm, h, hnm, hd, h64 => by
    rw [Tr.nodes]
    rw [Tr.ok] at h
    intro n hn
    rcases List.mem_cons.1 hn with rfl | hn
    · exact refNode_in p nm 4 [] hnm (by omega) (okNd_dir [])
    · refine Es.ref_nodes es (d + 1) [] (headOf p ++ nm) h ?_ n hn
      obtain ⟨hne, h47⟩ := mayName_ne hnm
      rw [headOf_ne (by intro e; exact hne (List.append_eq_nil_iff.1 e).2)]
      unfold slashes at hd ⊢
      rw [List.count_append, List.count_append, hd, List.count_eq_zero_of_not_mem h47]; rfl
theorem Es.ref_nodes : ∀ (es : Es) (d : Nat) (last p : List UInt8), es.ok d last = true → slashes (headOf p) = d → ∀ n ∈ es.nodes p, refNode n = true
  | .nil, d, last, p, h, hd => by rw [Es.nodes]; intro n hn; simp at hn
  | .cons nm t es, d, last, p, h, hd => by
    rw [Es.ok] at h
    simp only [Bool.and_eq_true, decide_eq_true_eq] at h
    rw [Es.nodes]
    intro n hn
    rcases List.mem_append.1 hn with hn | hn
    · exact Tr.ref_nodes t d p nm h.2.2.2.1 h.1 hd h.2.2.1 n hn
    · exact Es.ref_nodes es d nm p h.2.2.2.2 hd n hn
end

end Go.Proofs.Ytncokgdfkbgflaa

namespace Go.Proofs.Ytncokgdfkbgflaa
set_option linter.unusedVariables false
set_option linter.unusedSimpArgs false
open Go.RowKit Go.Proofs.YtncokgdfkbgflaaW.PrintWords Go.Proofs.YtncokgdfkbgflaaW.PrintMore P
theorem bt_is (s : ByteArray) (i : Nat) (h : i < s.data.toList.length) : bt s (i : Int) = ((s.data.toList[i]).toNat : Int) := by
  have h2 : (i : Int).toNat < s.size := by rw [Int.toNat_natCast, Lib.size_eq]; exact h
  rw [← bt_at s (i : Int) h2]
  rfl
theorem wrap_up (j : Nat) (h : j < 4611686018427387904) : wrap64 ((j : Int) + 1) = ((j + 1 : Nat) : Int) := by unfold wrap64; omega
theorem has_rounds (s : ByteArray) (c : UInt8) (hs : s.size < 4611686018427387904) : ∀ (m k i : Nat), s.data.toList.length - i ≤ m → i ≤ s.data.toList.length → m + 1 ≤ k → shelfmarkref10_has.l0 k s (c.toNat : Int) (i : Int) = some ((s.data.toList.drop i).contains c) := by
  have hz : s.size = s.data.toList.length := Lib.size_eq s
  intro m
  induction m with
  | zero =>
    intro k i h1 h2 h3
    obtain ⟨k, rfl⟩ : ∃ g, k = g + 1 := ⟨k - 1, by omega⟩
    rw [shelfmarkref10_has.l0, if_neg (by omega), List.drop_eq_nil_of_le (by omega)]
    rfl
  | succ m ih =>
    intro k i h1 h2 h3
    obtain ⟨k, rfl⟩ : ∃ g, k = g + 1 := ⟨k - 1, by omega⟩
    by_cases hi : i < s.data.toList.length
    · rw [shelfmarkref10_has.l0, if_pos (by omega), if_pos (by omega), bt_is s i hi, List.drop_eq_getElem_cons hi]
      by_cases hc : s.data.toList[i] = c
      · rw [if_pos (by rw [hc]), hc]
        simp
      · rw [if_neg (by
          intro e
          apply hc
          apply UInt8.toNat_inj.mp
          omega), wrap_up i (by omega), ih k (i + 1) (by omega) (by omega) (by omega)]
        congr 1
        rw [List.contains_cons, beq_eq_false_iff_ne.2 (fun e => hc e.symm), Bool.false_or]
    · rw [shelfmarkref10_has.l0, if_neg (by omega), List.drop_eq_nil_of_le (by omega)]
      rfl
theorem has_f (s : ByteArray) (c : UInt8) (hs : s.size < 4611686018427387904) (k : Nat) (hk : s.size + 1 ≤ k) : shelfmarkref10_has.f k s (c.toNat : Int) = some (s.data.toList.contains c) := by
  have hz : s.size = s.data.toList.length := Lib.size_eq s
  have := has_rounds s c hs s.data.toList.length k 0 (by omega) (by omega) (by omega)
  rw [List.drop_zero] at this
  exact this
end Go.Proofs.Ytncokgdfkbgflaa

namespace Go.Proofs.Ytncokgdfkbgflaa
set_option linter.unusedVariables false
set_option linter.unusedSimpArgs false
open Go.RowKit Go.Proofs.YtncokgdfkbgflaaW.PrintWords Go.Proofs.YtncokgdfkbgflaaW.PrintMore P
def Tame (s : List UInt8) : Prop := True
theorem mayName_f (s : ByteArray) (h : Tame s.data.toList) : nar_MayName.f s = some (mayName s.data.toList) := by
  unfold nar_MayName.f mayName
  rw [toList_data]
  by_cases h0 : s.data.toList = []
  · rw [if_pos h0, h0]; rfl
  · rw [if_neg h0]
    have h1 : (s.data.toList == []) = false := beq_eq_false_iff_ne.2 h0
    rw [h1]
    by_cases h2 : (s.size : Int) ≤ 255
    · rw [if_pos h2]
      have h3 : s.data.toList.length ≤ 255 := by rw [← Lib.size_eq]; omega
      have h4 : strings_ContainsAny.f s ⟨#[0, 47]⟩ = some (hasSep s.data.toList) := by
        unfold strings_ContainsAny.f
        rw [if_pos ⟨rfl, by omega⟩]
      rw [h4, decide_eq_true h3]
      simp only [Option.bind_some]
      cases hasSep s.data.toList with
      | true => simp
      | false =>
        by_cases h5 : s.data.toList = [46]
        · simp [h5]
        · simp [h5, bne]
    · rw [if_neg h2]
      have h3 : ¬ s.data.toList.length ≤ 255 := by rw [← Lib.size_eq]; omega
      rw [decide_eq_false h3]
      simp
def lv (x : S74) : Lv := (x.f0.data.toList, x.f1.data.toList)
theorem idx_lv (a : ByteArray) : ∀ (l : List S74), idxOf (isLevel a) l = idxOf (fun x : Lv => x.1 == a.data.toList) (l.map lv)
  | [] => rfl
  | x :: l => by
    have ih := idx_lv a l
    have e : isLevel a x = ((lv x).1 == a.data.toList) := by simp [isLevel, lv, toList_data]
    simp only [idxOf, List.map_cons, ih, e]
theorem idxOf_lt {α : Type} (p : α → Bool) : ∀ (l : List α) (i : Nat), idxOf p l = i → i < l.length
  | [], i, h => by simp [idxOf] at h
  | x :: l, i, h => by
    have hg := idxOf_ge p l
    unfold idxOf at h
    rw [List.length_cons]
    split at h
    · omega
    · split at h
      · omega
      · have := idxOf_lt p l (i - 1) (by omega)
        omega
theorem within_f (op : List S74) (p : ByteArray) (hp : p.size < 4611686018427387904) :
    (∃ i nm, nar_within.f op p = some (i, nm, false) ∧ withinP (op.map lv) p.data.toList = none) ∨
    (∃ (i : Nat) (nm : ByteArray), i < op.length ∧ nar_within.f op p = some ((i : Int), nm, true) ∧ withinP (op.map lv) p.data.toList = some (i, nm.data.toList)) := by
  have key : ∀ (a nm : ByteArray), (∃ i nm', some (idxOf (isLevel a) op, nm, decide (0 ≤ idxOf (isLevel a) op)) = some (i, nm', false) ∧ (if idxOf (fun x : Lv => x.1 == a.data.toList) (op.map lv) < 0 then (none : Option (Nat × List UInt8)) else some ((idxOf (fun x : Lv => x.1 == a.data.toList) (op.map lv)).toNat, nm.data.toList)) = none) ∨
      (∃ (i : Nat) (nm' : ByteArray), i < op.length ∧ some (idxOf (isLevel a) op, nm, decide (0 ≤ idxOf (isLevel a) op)) = some ((i : Int), nm', true) ∧ (if idxOf (fun x : Lv => x.1 == a.data.toList) (op.map lv) < 0 then (none : Option (Nat × List UInt8)) else some ((idxOf (fun x : Lv => x.1 == a.data.toList) (op.map lv)).toNat, nm.data.toList)) = some (i, nm'.data.toList)) := by
    intro a nm
    rw [← idx_lv]
    by_cases h : 0 ≤ idxOf (isLevel a) op
    · right
      obtain ⟨i, hi⟩ := Int.eq_ofNat_of_zero_le h
      refine ⟨i, nm, idxOf_lt _ _ _ hi, ?_, ?_⟩
      · rw [decide_eq_true h, hi]
      · rw [if_neg (by omega), hi, Int.toNat_natCast]
    · left
      refine ⟨_, nm, by rw [decide_eq_false h], ?_⟩
      rw [if_pos (by omega)]
  unfold nar_within.f withinP
  rw [if_pos hp]
  have hz : p.data.size = p.data.toList.length := by simp
  rcases Lib.lastIndexByte_spec p 47 with ⟨h1, h2⟩ | ⟨i, hi, h1, h2, h3⟩
  · have hn : 47 ∉ p.data.toList := by
      intro hm
      obtain ⟨j, hj, hj2⟩ := List.getElem_of_mem hm
      have h4 := h2 j (by rw [Lib.size_eq]; exact hj)
      apply h4
      rw [getElem!_pos p.data j (by rw [hz]; exact hj)]
      have : p.data[j]'(by rw [hz]; exact hj) = 47 := by rw [← hj2]; simp
      rw [this]; rfl
    rw [cutSlash_none _ hn, if_pos (by omega)]
    exact key ⟨#[]⟩ p
  · have hi' : i < p.data.toList.length := by rw [← Lib.size_eq]; exact hi
    have e47 : p.data.toList[i] = 47 := by
      rw [getElem!_pos p.data i (by rw [hz]; exact hi')] at h2
      have : ((p.data.toList[i]).toNat : Int) = 47 := by simpa using h2
      apply UInt8.toNat_inj.mp
      show _ = 47
      omega
    have hn : 47 ∉ p.data.toList.drop (i + 1) := by
      intro hm
      obtain ⟨j, hj, hj2⟩ := List.getElem_of_mem hm
      rw [List.length_drop] at hj
      rw [List.getElem_drop] at hj2
      have h4 := h3 (i + 1 + j) (by omega) (by rw [Lib.size_eq]; omega)
      apply h4
      rw [getElem!_pos p.data (i + 1 + j) (by rw [hz]; omega)]
      have : p.data[i + 1 + j]'(by rw [hz]; omega) = 47 := by rw [← hj2]; simp
      rw [this]; rfl
    have hcut : cutSlash p.data.toList = some (p.data.toList.take i, p.data.toList.drop (i + 1)) := by
      have h5 := cutSlash_some (p.data.toList.take i) _ hn
      rw [← h5]
      congr 1
      conv => lhs; rw [← List.take_append_drop i p.data.toList]
      rw [List.drop_eq_getElem_cons hi', e47]
    rw [hcut, if_neg (by omega)]
    simp only
    by_cases hz0 : Lib.lastIndexByte p 47 = 0
    · rw [if_pos hz0]
      have : i = 0 := by omega
      subst this
      exact .inl ⟨0, ⟨#[]⟩, rfl, by simp⟩
    · rw [if_neg hz0, if_neg (by
        intro h6
        have h7 := congrArg List.length h6
        rw [List.length_take, List.length_nil] at h7
        omega), h1, Int.toNat_natCast]
      have ea : (p.extract 0 i).data.toList = p.data.toList.take i := by simp [ByteArray.data_extract]
      have eb : (p.extract (i + 1) p.size).data.toList = p.data.toList.drop (i + 1) := by
        rw [ByteArray.data_extract, Array.toList_extract, List.extract_eq_take_drop]
        exact List.take_of_length_le (by rw [List.length_drop, ← Lib.size_eq]; omega)
      have := key (p.extract 0 i) (p.extract (i + 1) p.size)
      rw [ea, eb] at this
      exact this
theorem le_step {op : List S74} {i : Nat} (hi : i < op.length) : (op.map lv).getD i ([], []) = lv op[i] := by
  simp [List.getD_eq_getElem?_getD, List.getElem?_eq_getElem hi]
set_option maxHeartbeats 400000 in
theorem j3_ok (k : Nat) (op : List S74) (i : Nat) (hi : i < op.length) (hop : op.length ≤ 1000001) (nm : ByteArray) (y : List S37) (L : Int) (j : Int) (x0 : ByteArray) (x1 : Int) (x2 : ByteArray) :
    nar_May.j3 (k + 1) op (i : Int) nm y L j false x0 x1 x2 = nar_May.l0 k ((op.take (i + 1)).set i ⟨op[i].f0, nm⟩ ++ (if x1 = 4 then [⟨x0, ⟨#[]⟩⟩] else [])) y L (wrap64 (j + 1)) := by
  have hwi : wrap64 ((i : Int) + 1) = ((i + 1 : Nat) : Int) := by unfold wrap64; omega
  have hlen : (op.take (i + 1)).length = i + 1 := by rw [List.length_take]; omega
  have c1 : (0 : Int) ≤ ((i + 1 : Nat) : Int) := by omega
  have c2 : ((i + 1 : Nat) : Int) ≤ (op.length : Int) := by omega
  have c3 : (0 : Int) ≤ (i : Int) := by omega
  unfold nar_May.j3
  rw [hwi, Int.toNat_natCast, Int.toNat_natCast, if_neg (by decide), if_pos c1, if_pos c2, Option.bind_some, if_pos c3, if_pos (by rw [hlen]; omega), Option.bind_some]
  rw [rd74_at _ i (by rw [hlen]; omega), List.getElem_take]
  by_cases h4 : x1 = 4
  · rw [if_pos h4, if_pos h4, if_pos (by rw [List.length_set, hlen]; omega)]
  · rw [if_neg h4, if_neg h4, List.append_nil]
theorem wrap_next (j : Nat) (h : j ≤ 1000000) : wrap64 ((j : Int) + 1) = ((j + 1 : Nat) : Int) := by unfold wrap64; omega
theorem next_len (op : List S74) (i j : Nat) (hi : i < op.length) (h : op.length ≤ j + 1) (z : S74) (x0 : ByteArray) (x1 : Int) : ((op.take (i + 1)).set i z ++ (if x1 = 4 then [(⟨x0, ⟨#[]⟩⟩ : S74)] else [])).length ≤ j + 1 + 1 := by
  rw [List.length_append, List.length_set, List.length_take]
  split
  · simp only [List.length_cons, List.length_nil]; omega
  · simp only [List.length_nil]; omega
theorem map_lv_next (op : List S74) (i : Nat) (hi : i < op.length) (nm x0 : ByteArray) (x1 : Int) : ((op.take (i + 1)).set i (⟨op[i].f0, nm⟩ : S74) ++ (if x1 = 4 then [(⟨x0, ⟨#[]⟩⟩ : S74)] else [])).map lv =
    ((op.map lv).take (i + 1)).set i ((lv op[i]).1, nm.data.toList) ++ (if x1 = 4 then [(x0.data.toList, [])] else []) := by
  rw [List.map_append, List.map_set, List.map_take]
  congr 1
  split <;> rfl
set_option maxHeartbeats 400000 in
theorem may_rounds (y : List S37) (hy : y.length ≤ 1000000) (hs : ∀ x ∈ y, x.f0.size < 4611686018427387904 ∧ ∀ nm, (∃ a, cutSlash x.f0.data.toList = some (a, nm) ∨ nm = x.f0.data.toList) → Tame nm) :
    ∀ (m : Nat) (k j : Nat) (op : List S74), y.length - j ≤ m → j ≤ y.length → op.length ≤ j + 1 → 2 * m + 1 ≤ k → nar_May.l0 k op y (y.length : Int) (j : Int) = some (mayGo (op.map lv) ((nds y).drop j)) := by
  intro m
  induction m with
  | zero =>
    intro k j op h1 h2 h3 h4
    obtain ⟨k, rfl⟩ : ∃ k', k = k' + 1 := ⟨k - 1, by omega⟩
    have hj : j = y.length := by omega
    subst hj
    simp only [nar_May.l0]
    rw [if_neg (by omega), List.drop_eq_nil_of_le (by simp [nds])]
    rfl
  | succ m ih =>
    intro k j op h1 h2 h3 h4
    by_cases hj : j = y.length
    · subst hj
      obtain ⟨k, rfl⟩ : ∃ k', k = k' + 1 := ⟨k - 1, by omega⟩
      simp only [nar_May.l0]
      rw [if_neg (by omega), List.drop_eq_nil_of_le (by simp [nds])]
      rfl
    · obtain ⟨k, rfl⟩ : ∃ k', k = k' + 1 + 1 := ⟨k - 2, by omega⟩
      have hj : j < y.length := by omega
      obtain ⟨x, hx⟩ : ∃ x, x = y[j] := ⟨_, rfl⟩
      have hsx := hs x (by rw [hx]; exact List.getElem_mem hj)
      have hopl : op.length ≤ 1000001 := by omega
      have hjl : j ≤ 1000000 := by omega
      have hm1 : y.length - (j + 1) ≤ m := by omega
      have hj1 : j + 1 ≤ y.length := by omega
      have hk1 : 2 * m + 1 ≤ k := by omega
      have hdrop : (nds y).drop j = nd x :: (nds y).drop (j + 1) := by
        rw [List.drop_eq_getElem_cons (by simpa [nds] using hj)]
        congr 1
        simp [nds, hx]
      rw [hdrop, nar_May.l0, if_pos (by omega), if_pos (by omega), if_pos (by omega), rd37_at y j hj, ← hx]
      have hp : (nd x).path = x.f0.data.toList := rfl
      have hkd : (nd x).kind = x.f1 := rfl
      simp only [mayGo, mayStep, hp, hkd]
      rcases within_f op x.f0 hsx.1 with ⟨i, nm, e1, e2⟩ | ⟨i, nm, hi, e1, e2⟩
      · rw [e1, e2]
        simp only [Option.bind_some]
        rw [if_neg (by decide)]
        simp only [nar_May.j3]
        rw [if_pos (by simp)]
      · have htame : Tame nm.data.toList := by
          apply hsx.2
          unfold withinP at e2
          split at e2
          · split at e2
            · cases e2
            · rename_i hc _
              injection e2 with e2
              exact ⟨[], .inr (congrArg Prod.snd e2).symm⟩
          · rename_i a n hc
            split at e2
            · cases e2
            · split at e2
              · cases e2
              · injection e2 with e2
                refine ⟨a, .inl ?_⟩
                rw [hc, show nm.data.toList = n from (congrArg Prod.snd e2).symm]
        rw [e1, e2]
        simp only [Option.bind_some]
        rw [if_pos (by simp), mayName_f nm htame]
        simp only [Option.bind_some]
        have hlv := le_step hi
        rw [hlv]
        cases hmn : mayName nm.data.toList with
        | false =>
          rw [if_neg (by decide)]
          simp only [nar_May.j3, Bool.false_and]
          rw [if_pos (by simp)]
          simp
        | true =>
          rw [if_pos (by simp), if_pos (by omega), if_pos (by omega), rd74_at op i hi, toList_data, toList_data]
          have hl2 : (lv op[i]).2 = op[i].f1.data.toList := rfl
          rw [hl2]
          cases hcmp : (Op.bytesLess nm.data.toList op[i].f1.data.toList || nm.data.toList == op[i].f1.data.toList) with
          | true =>
            rw [if_pos (by simp)]
            simp only [nar_May.j3]
            rw [if_pos (by simp)]
            simp
          | false =>
            rw [if_neg (by decide)]
            have hge : decide ((i : Int) ≥ 64) = !decide (i < 64) := by
              rw [Bool.eq_iff_iff]; simp; omega
            rw [hge]
            cases h64 : decide (i < 64) with
            | false =>
              simp only [nar_May.j3]
              rw [if_pos (by simp)]
              simp
            | true =>
              have hwi : wrap64 ((i : Int) + 1) = ((i + 1 : Nat) : Int) := by unfold wrap64; omega
              rw [show (!true) = false from rfl, j3_ok k op i hi hopl, wrap_next j hjl, ih k (j + 1) _ hm1 hj1 (next_len op i j hi h3 _ _ _) hk1, map_lv_next op i hi]
              rfl
theorem okNode_nd (x : S37) : okNode x = okNd (nd x) := by
  have hs : x.f2.size = x.f2.data.toList.length := Lib.size_eq x.f2
  simp only [okNode, okNd, nd, hs]
  rfl
def TameAll (l : List S37) : Prop := ∀ x ∈ l, x.f0.size < 4611686018427387904 ∧ ∀ nm, (∃ a, cutSlash x.f0.data.toList = some (a, nm) ∨ nm = x.f0.data.toList) → Tame nm
theorem may_f0 (l : List S37) (hs : TameAll l) : nar_May.f (2 * l.length + 10) l = some (May (nds l)) := by
  unfold nar_May.f
  cases l with
  | nil => simp [nar_May.j0, nds, May]
  | cons x r =>
    have hlen : ((x :: r).length : Int) = (r.length : Int) + 1 := by simp
    have hnds : nds (x :: r) = nd x :: nds r := rfl
    have hnl : (nd x :: nds r).length = r.length + 1 := by simp [nds]
    rw [hnds, May, hnl, if_neg (by omega)]
    by_cases h256 : r.length + 1 ≤ 256
    · rw [decide_eq_true h256, if_neg (by omega), if_pos (by omega), show rd_T37 (x :: r) 0 = x from rfl, toList_data]
      have hp : (nd x).path = x.f0.data.toList := rfl
      have hkd : (nd x).kind = x.f1 := rfl
      rw [hp, hkd]
      by_cases h0 : x.f0.data.toList = []
      · have hall : containsMay1.f (x :: r) = some (!((nd x :: nds r).all okNd)) := by
          unfold containsMay1.f
          congr 1
          have : ∀ l : List S37, (l.any fun x => !okNode x) = !((nds l).all okNd) := by
            intro l
            induction l with
            | nil => rfl
            | cons y l ih =>
              show ((!okNode y) || (l.any fun x => !okNode x)) = !(okNd (nd y) && (nds l).all okNd)
              rw [ih, okNode_nd, Bool.not_and]
          exact this (x :: r)
        rw [if_pos h0, hall, h0]
        simp only [Option.bind_some]
        cases hok : (nd x :: nds r).all okNd with
        | false =>
          rw [show 2 * (x :: r).length + 10 = (2 * (x :: r).length + 9) + 1 from rfl]
          simp [nar_May.j0]
        | true =>
          have hgo := may_rounds r (by omega) (fun y hy => hs y (List.mem_cons_of_mem _ hy)) r.length (2 * (x :: r).length + 8) 0
          have hfuel : 2 * r.length + 1 ≤ 2 * (x :: r).length + 8 := by rw [List.length_cons]; omega
          rw [show 2 * (x :: r).length + 10 = (2 * (x :: r).length + 8) + 1 + 1 from rfl]
          simp only [nar_May.j0]
          rw [if_neg (by decide), if_pos (by omega), show rd_T37 (x :: r) 0 = x from rfl]
          have hz : ((0 : Nat) : Int) = 0 := rfl
          by_cases h4 : x.f1 = 4
          · rw [if_pos h4, if_pos (by decide), if_pos h4]
            have := hgo ([] ++ [(⟨⟨#[]⟩, ⟨#[]⟩⟩ : S74)]) (by omega) (by omega) (by simp) hfuel
            simp only [nar_May.j1]
            rw [if_pos (by omega)]
            simp only [Option.bind_some, List.drop_succ_cons, List.drop_zero]
            rw [hz] at this
            rw [this]
            rfl
          · rw [if_neg h4, if_neg h4]
            have := hgo [] (by omega) (by omega) (by simp) hfuel
            simp only [nar_May.j1]
            rw [if_pos (by omega)]
            simp only [Option.bind_some, List.drop_succ_cons, List.drop_zero]
            rw [hz] at this
            rw [this]
            rfl
      · rw [if_neg h0, beq_eq_false_iff_ne.2 h0, show 2 * (x :: r).length + 10 = (2 * (x :: r).length + 9) + 1 from rfl]
        simp [nar_May.j0]
    · rw [decide_eq_false h256, if_pos (by omega), show 2 * (x :: r).length + 10 = (2 * (x :: r).length + 9) + 1 from rfl]
      simp [nar_May.j0]
theorem may_is (l : List S37) (hs : TameAll l) : mayC l = some (May (nds l)) := mayC_of (may_f0 l hs)
theorem tame_all (l : List S37) (hs : ∀ x ∈ l, x.f0.size < 4611686018427387904) : TameAll l := fun x hx => ⟨hs x hx, fun nm _ => trivial⟩
end Go.Proofs.Ytncokgdfkbgflaa

namespace Go.Proofs.Ytncokgdfkbgflaa
set_option linter.unusedVariables false
set_option linter.unusedSimpArgs false
open Go.RowKit Go.Proofs.YtncokgdfkbgflaaW.PrintWords Go.Proofs.YtncokgdfkbgflaaW.PrintMore P
end Go.Proofs.Ytncokgdfkbgflaa

namespace Go.Proofs.Ytncokgdfkbgflaa
set_option linter.unusedVariables false
set_option linter.unusedSimpArgs false
open Go.RowKit Go.Proofs.YtncokgdfkbgflaaW.PrintWords Go.Proofs.YtncokgdfkbgflaaW.PrintMore P
theorem extract_list (s : ByteArray) (i j : Nat) : (s.extract i j).data.toList = (s.data.toList.drop i).take (j - i) := by
  rw [ByteArray.data_extract, Array.toList_extract, List.extract_eq_take_drop]
theorem hasPrefix_false {l p : List UInt8} (h : ¬ ∃ t, l = p ++ t) : Lib.hasPrefix l p = false := by
  cases hp : Lib.hasPrefix l p with
  | false => rfl
  | true => exact absurd ((hasPrefix_iff _ _).1 hp) h
theorem name_f (a b : ByteArray) (ha : a.size < 4611686018427387904) (hb : b.size < 4611686018427387904) (k : Nat) (hk : a.size + 2 ≤ k) : ∃ r, shelfmarkref10_name.f k a b = some r ∧ r.data.toList = refName a.data.toList b.data.toList := by
  have hza := Lib.size_eq a
  have hzb := Lib.size_eq b
  obtain ⟨k, rfl⟩ : ∃ g, k = g + 1 := ⟨k - 1, by omega⟩
  unfold shelfmarkref10_name.f
  rw [toList_data b, toList_data]
  by_cases h0 : b.data.toList = []
  · rw [if_pos h0]
    have e47 : shelfmarkref10_has.f (k + 1) a 47 = some (a.data.toList.contains 47) := has_f a 47 ha (k + 1) (by omega)
    rw [e47]
    simp only [Option.bind_some]
    have e : refName a.data.toList b.data.toList = if a.data.toList.contains 47 = true then [] else a.data.toList := by
      rw [h0, refName, show headOf [] = [] from rfl, if_pos (show Lib.hasPrefix a.data.toList [] = true from (hasPrefix_iff _ _).2 ⟨a.data.toList, rfl⟩)]
      rfl
    rw [e]
    split
    · exact ⟨_, rfl, rfl⟩
    · exact ⟨_, rfl, rfl⟩
  · rw [if_neg h0]
    have hpos : 0 < b.data.toList.length := Nat.pos_of_ne_zero (fun e => h0 (List.length_eq_zero_iff.1 e))
    have j1 : shelfmarkref10_name.j0 (k + 1) a b true = some (⟨#[]⟩ : ByteArray) := by rw [shelfmarkref10_name.j0, if_pos rfl]
    have e0 : Lib.hasPrefix a.data.toList (headOf b.data.toList) = false → refName a.data.toList b.data.toList = [] := refName_stop
    have hh : headOf b.data.toList = b.data.toList ++ [47] := by rw [headOf, if_neg h0]
    by_cases h1 : a.data.toList.length ≤ b.data.toList.length
    · rw [if_pos (by omega), j1]
      refine ⟨_, rfl, ?_⟩
      rw [e0 (hasPrefix_false (by
        rintro ⟨t, ht⟩
        have := congrArg List.length ht
        rw [hh, List.length_append, List.length_append] at this
        simp only [List.length_cons, List.length_nil] at this
        omega))]
    · rw [if_neg (by omega), if_pos (by omega), if_pos (by omega), Int.toNat_natCast, extract_list]
      have hx : ((a.data.toList.drop 0).take (b.size - 0)) = a.data.toList.take b.data.toList.length := by rw [List.drop_zero, hzb]; rfl
      rw [hx]
      by_cases h2 : a.data.toList.take b.data.toList.length = b.data.toList
      · rw [if_pos h2, if_pos (by omega), show ((b.size : Nat) : Int) = ((b.data.toList.length : Nat) : Int) by omega, bt_is a _ (by omega)]
        have hlt : b.data.toList.length < a.data.toList.length := by omega
        have hs : a.data.toList = b.data.toList ++ (a.data.toList[b.data.toList.length] :: a.data.toList.drop (b.data.toList.length + 1)) := by
          rw [← List.drop_eq_getElem_cons hlt]
          conv => lhs; rw [← List.take_append_drop b.data.toList.length a.data.toList]
          rw [h2]
        by_cases h3 : a.data.toList[b.data.toList.length] = 47
        · have e4 : ((((a.data.toList[b.data.toList.length]).toNat : Nat) : Int) != 47) = false := by rw [h3]; rfl
          rw [e4, shelfmarkref10_name.j0, if_neg (by decide), show wrap64 ((b.size : Int) + 1) = ((b.data.toList.length + 1 : Nat) : Int) by unfold wrap64; omega, if_pos (by omega), if_pos (by omega), Int.toNat_natCast]
          have hxl : (a.extract (b.data.toList.length + 1) a.size).data.toList = a.data.toList.drop (b.data.toList.length + 1) := by
            rw [extract_list]
            exact List.take_of_length_le (by rw [List.length_drop]; omega)
          have hxs : (a.extract (b.data.toList.length + 1) a.size).size ≤ a.size := by
            rw [Lib.size_eq, hxl, List.length_drop]; omega
          have e47 : shelfmarkref10_has.f k (a.extract (b.data.toList.length + 1) a.size) 47 = some ((a.data.toList.drop (b.data.toList.length + 1)).contains 47) := by
            rw [← hxl]
            exact has_f _ 47 (by omega) k (by omega)
          rw [e47]
          simp only [Option.bind_some]
          have hex : ∃ t, a.data.toList = (b.data.toList ++ [47]) ++ t := ⟨a.data.toList.drop (b.data.toList.length + 1), by
            rw [List.append_assoc]
            rw [h3] at hs
            exact hs⟩
          have e : refName a.data.toList b.data.toList = if (a.data.toList.drop (b.data.toList.length + 1)).contains 47 = true then [] else a.data.toList.drop (b.data.toList.length + 1) := by
            rw [refName, hh, if_pos ((hasPrefix_iff _ _).2 hex)]
            rw [List.length_append]
            rfl
          rw [e]
          split
          · exact ⟨_, rfl, rfl⟩
          · exact ⟨_, rfl, hxl⟩
        · have e4 : ((((a.data.toList[b.data.toList.length]).toNat : Nat) : Int) != 47) = true := by
            rw [bne_iff_ne]
            intro e
            apply h3
            apply UInt8.toNat_inj.mp
            show _ = 47
            omega
          rw [e4, j1]
          refine ⟨_, rfl, ?_⟩
          rw [e0 (hasPrefix_false (by
            rintro ⟨t, ht⟩
            apply h3
            rw [hh, List.append_assoc] at ht
            have e5 := hs.symm.trans ht
            have e6 := List.append_cancel_left e5
            injection e6))]
      · rw [if_neg h2, j1]
        refine ⟨_, rfl, ?_⟩
        rw [e0 (hasPrefix_false (by
          rintro ⟨t, ht⟩
          apply h2
          rw [ht, hh, List.append_assoc]
          exact List.take_left' rfl))]
theorem nds_drop (l : List S37) (i : Nat) (h : i < l.length) : (nds l).drop i = nd l[i] :: (nds l).drop (i + 1) := by
  have h1 : i < (nds l).length := by simp [nds]; exact h
  rw [List.drop_eq_getElem_cons h1]
  congr 1
  simp [nds]
theorem nds_len (l : List S37) : (nds l).length = l.length := by simp [nds]
end Go.Proofs.Ytncokgdfkbgflaa

namespace Go.Proofs.Ytncokgdfkbgflaa
set_option linter.unusedVariables false
set_option linter.unusedSimpArgs false
open Go.RowKit Go.Proofs.YtncokgdfkbgflaaW.PrintWords Go.Proofs.YtncokgdfkbgflaaW.PrintMore P
theorem little_step (k : Nat) (n : Nat) (xs : List Int) (i : Nat) (hi : i < 8) (hx : xs.length = 8) :
    shelfmarkref1_little.l0 (k + 1) (n : Int) 8 xs (i : Int) = shelfmarkref1_little.l0 k (n : Int) 8 (xs.set i (((n / 2 ^ (8 * i) : Nat) : Int) % 256)) ((i + 1 : Nat) : Int) := by
  have hw : wrap64 (8 * (i : Int)) = ((8 * i : Nat) : Int) := by unfold wrap64; omega
  have hw2 : wrap64 ((i : Int) + 1) = ((i + 1 : Nat) : Int) := by unfold wrap64; omega
  have hs : shr .u64 (n : Int) ((8 * i : Nat) : Int) = ((n / 2 ^ (8 * i) : Nat) : Int) := by
    unfold shr
    rw [Int.toNat_natCast, Nat.min_eq_left (by show 8 * i ≤ 64; omega)]
    simp
  simp only [shelfmarkref1_little.l0]
  rw [if_pos (by omega), hw, if_pos (by omega), if_pos (by omega), if_pos (by rw [hx]; omega), hw2, hs, Int.toNat_natCast]
theorem little_any (k : Nat) (n : Nat) : shelfmarkref1_little.f (k + 9) (n : Int) 8 = some (bs (le8 n)) := by
  unfold shelfmarkref1_little.f
  rw [if_pos (by decide), if_pos (by decide)]
  show shelfmarkref1_little.l0 (k + 8 + 1) (n : Int) 8 _ ((0 : Nat) : Int) = _
  rw [little_step (k + 8) n _ 0 (by omega) (by rfl)]
  rw [show k + 8 = (k + 7) + 1 from rfl, little_step (k + 7) n _ 1 (by omega) (by simp)]
  rw [show k + 7 = (k + 6) + 1 from rfl, little_step (k + 6) n _ 2 (by omega) (by simp)]
  rw [show k + 6 = (k + 5) + 1 from rfl, little_step (k + 5) n _ 3 (by omega) (by simp)]
  rw [show k + 5 = (k + 4) + 1 from rfl, little_step (k + 4) n _ 4 (by omega) (by simp)]
  rw [show k + 4 = (k + 3) + 1 from rfl, little_step (k + 3) n _ 5 (by omega) (by simp)]
  rw [show k + 3 = (k + 2) + 1 from rfl, little_step (k + 2) n _ 6 (by omega) (by simp)]
  rw [show k + 2 = (k + 1) + 1 from rfl, little_step (k + 1) n _ 7 (by omega) (by simp)]
  simp only [shelfmarkref1_little.l0]
  rw [if_neg (by omega)]
  congr 1
  have hb : ∀ m : Nat, UInt8.ofNat (((m : Int) % 256).toNat) = UInt8.ofNat m := by
    intro m
    have : ((m : Int) % 256).toNat = m % 256 := by omega
    rw [this]
    apply UInt8.toNat_inj.mp
    simp
  rw [show ((8 : Int)).toNat = 8 from rfl]
  simp only [List.replicate_succ, List.replicate_zero, List.set_cons_zero, List.set_cons_succ, strOfNums, List.map_cons, List.map_nil, hb, bs, le8]
  simp
theorem refWord_any (k : Nat) (n : Nat) (hn : n < 9223372036854775808) : shelfmarkref10_Word.f (k + 9) (n : Int) = some (bs (le8 n)) := by
  have hm : mx (n : Int) 0 = n := by unfold mx; split <;> omega
  have hw : IntKind.u64.wrap (n : Int) = (n : Int) := by simp [IntKind.wrap, IntKind.signed, IntKind.bits]; omega
  unfold shelfmarkref10_Word.f shelfmarkref1_Little.f
  rw [hm, hw, little_any]
  rfl
theorem fill_rounds : ∀ (m k : Nat) (x : List UInt8), x.length + m < 4611686018427387904 → m < 8 → (x.length + m) % 8 = 0 → m + 1 ≤ k → shelfmarkref10_Str.l0 k (bs x) = some (bs (x ++ List.replicate m 0)) := by
  intro m
  induction m with
  | zero =>
    intro k x hx h8 hm hk
    obtain ⟨k, rfl⟩ : ∃ g, k = g + 1 := ⟨k - 1, by omega⟩
    rw [shelfmarkref10_Str.l0, bs_size, if_pos (by omega), List.replicate_zero, List.append_nil]
  | succ m ih =>
    intro k x hx h8 hm hk
    obtain ⟨k, rfl⟩ : ∃ g, k = g + 1 := ⟨k - 1, by omega⟩
    rw [shelfmarkref10_Str.l0, bs_size, if_neg (by omega), if_pos (by omega)]
    have e : (bs x ++ (⟨#[0]⟩ : ByteArray)) = bs (x ++ [0]) := by rw [← bs_append]; rfl
    rw [e, ih k (x ++ [0]) (by rw [List.length_append]; simp; omega) (by omega) (by rw [List.length_append]; simp; omega) (by omega), List.append_assoc]
    rfl
theorem refStr_f (s : ByteArray) (hs : s.size < 4611686018427380000) (k : Nat) (hk : 17 ≤ k) : shelfmarkref10_Str.f k s = some (bs (strB s.data.toList)) := by
  have hz := Lib.size_eq s
  obtain ⟨k, rfl⟩ : ∃ g, k = g + 9 := ⟨k - 9, by omega⟩
  unfold shelfmarkref10_Str.f
  rw [refWord_any k s.size (by omega)]
  simp only [Option.bind_some]
  have hp8 : pad s.size < 8 := by unfold pad; omega
  have hp : (8 + s.size + pad s.size) % 8 = 0 := by unfold pad; omega
  rw [bs_size, le8_length, if_pos (by omega)]
  have e : bs (le8 s.size) ++ s = bs (le8 s.size ++ s.data.toList) := by rw [← bs_append, bs_data]
  rw [e, fill_rounds (pad s.size) (k + 9) _ (by rw [List.length_append, le8_length]; omega) hp8 (by rw [List.length_append, le8_length, ← hz]; exact hp) (by omega), strB, ← hz]
theorem strs_rounds (l : List ByteArray) (M : Nat) (hM : M < 1000000000) (hl : l.length < 1000000000) (hs : ∀ s ∈ l, s.size ≤ M) : ∀ (m i k : Nat) (x : List UInt8), l.length - i ≤ m → i ≤ l.length → x.length ≤ i * (M + 15) → m + 18 ≤ k →
    shelfmarkref10_strs.l0 k l (bs x) (i : Int) = some (bs (x ++ strsB (strsOf (l.drop i)))) := by
  intro m
  induction m with
  | zero =>
    intro i k x h1 h2 hx hk
    obtain ⟨k, rfl⟩ : ∃ g, k = g + 1 := ⟨k - 1, by omega⟩
    rw [shelfmarkref10_strs.l0, if_neg (by omega), List.drop_eq_nil_of_le (by omega)]
    simp [strsOf, strsB]
  | succ m ih =>
    intro i k x h1 h2 hx hk
    by_cases hi : i < l.length
    · obtain ⟨k, rfl⟩ : ∃ g, k = g + 1 := ⟨k - 1, by omega⟩
      have hr : rdOf ByteArray.empty l (i : Int) = l[i] := by simp [rdOf, List.getD_eq_getElem?_getD, List.getElem?_eq_getElem hi]
      have hsi := hs l[i] (List.getElem_mem _)
      have hb : i * (M + 15) ≤ 1000000000 * (M + 15) := Nat.mul_le_mul (by omega) (Nat.le_refl _)
      have hle := strB_le l[i].data.toList
      have hz := Lib.size_eq l[i]
      rw [shelfmarkref10_strs.l0, if_pos (by omega), if_pos (by omega), hr, refStr_f l[i] (by omega) k (by omega)]
      simp only [Option.bind_some]
      rw [bs_size, bs_size, if_pos (by omega), bs_append, show wrap64 ((i : Int) + 1) = ((i + 1 : Nat) : Int) by unfold wrap64; omega,
        ih (i + 1) k _ (by omega) (by omega) (by rw [List.length_append, Nat.succ_mul]; omega) (by omega), List.drop_eq_getElem_cons hi]
      show _ = some (bs (x ++ strsB (l[i].data.toList :: strsOf (l.drop (i + 1)))))
      rw [strsB, List.append_assoc]
    · exact ih i k x (by omega) h2 hx (by omega)
theorem refStrs_f (l : List ByteArray) (M : Nat) (hM : M < 1000000000) (hl : l.length < 1000000000) (hs : ∀ s ∈ l, s.size ≤ M) (k : Nat) (hk : l.length + 18 ≤ k) : shelfmarkref10_strs.f k l = some (bs (strsB (strsOf l))) := by
  unfold shelfmarkref10_strs.f
  have := strs_rounds l M hM hl hs l.length 0 k [] (by omega) (by omega) (by simp) hk
  rw [List.drop_zero, List.nil_append] at this
  exact this
end Go.Proofs.Ytncokgdfkbgflaa

namespace Go.Proofs.Ytncokgdfkbgflaa
set_option linter.unusedVariables false
set_option linter.unusedSimpArgs false
open Go.RowKit Go.Proofs.YtncokgdfkbgflaaW.PrintWords Go.Proofs.YtncokgdfkbgflaaW.PrintMore P
theorem rd_one (x : S37) : rd_T37 [x] 0 = x := rd37_at [x] 0 (by simp)
theorem may_one (x : S37) (h0 : x.f0.data.toList = []) (h : okNode x = true) : mayC [x] = some true := by
  refine mayC_of (k := 5) ?_
  have h1 : x.f0.toList = [] := by rw [toList_data]; exact h0
  unfold nar_May.f
  rw [rd_one, if_neg (by simp), if_neg (by simp), if_pos (by simp), if_pos h1]
  have h2 : containsMay1.f [x] = some false := by simp [containsMay1.f, h]
  rw [h2]
  simp only [Option.bind_some, nar_May.j0, rd_one]
  rw [if_neg (by decide), if_pos (by simp)]
  split
  · simp [nar_May.j1, nar_May.l0]
  · simp [nar_May.j1, nar_May.l0]
def oneB (n : Nd) : List UInt8 := strsB [wOpen, wType] ++ (if n.kind = 1 ∨ n.kind = 2 ∨ n.kind = 3 then leafB n else strsB [wDir]) ++ strsB [wShut]
theorem packN_one (f : Nat) (n : Nd) : packN (f + 1) [n] 0 = oneB n := by
  unfold packN oneB
  simp [belowFrom]
theorem strsB_le (M : Nat) : ∀ (l : List (List UInt8)), (∀ s ∈ l, s.length ≤ M) → (strsB l).length ≤ l.length * (M + 15)
  | [], _ => by simp [strsB]
  | s :: l, h => by
    have h1 := strB_le s
    have h2 := h s List.mem_cons_self
    have h3 := strsB_le M l (fun z hz => h z (List.mem_cons_of_mem _ hz))
    rw [strsB, List.length_append, List.length_cons, Nat.succ_mul]
    omega
theorem leafB_le (n : Nd) (M : Nat) (hM : 10 ≤ M) (h : n.data.length ≤ M) : (leafB n).length ≤ 5 * (M + 15) := by
  unfold leafB
  split
  · refine Nat.le_trans (strsB_le M _ ?_) (Nat.mul_le_mul (by simp) (Nat.le_refl _))
    intro s hs
    simp only [List.mem_cons, List.not_mem_nil, or_false] at hs
    rcases hs with rfl | rfl | rfl <;> first | exact h | (refine Nat.le_trans ?_ hM; decide)
  · split
    · refine Nat.le_trans (strsB_le M _ ?_) (Nat.mul_le_mul (by simp) (Nat.le_refl _))
      intro s hs
      simp only [List.mem_cons, List.not_mem_nil, or_false] at hs
      rcases hs with rfl | rfl | rfl | rfl | rfl <;> first | exact h | (refine Nat.le_trans ?_ hM; decide)
    · refine Nat.le_trans (strsB_le M _ ?_) (Nat.mul_le_mul (by simp) (Nat.le_refl _))
      intro s hs
      simp only [List.mem_cons, List.not_mem_nil, or_false] at hs
      rcases hs with rfl | rfl | rfl <;> first | exact h | (refine Nat.le_trans ?_ hM; decide)
theorem oneB_le (n : Nd) (M : Nat) (hM : 10 ≤ M) (h : n.data.length ≤ M) : (oneB n).length ≤ 8 * (M + 15) := by
  unfold oneB
  have h1 : (strsB [wOpen, wType]).length = 32 := by decide
  have h2 : (strsB [wShut]).length = 16 := by decide
  have h3 : (strsB [wDir]).length = 24 := by decide
  have h4 := leafB_le n M hM h
  rw [List.length_append, List.length_append, h1, h2]
  split
  · omega
  · rw [h3]; omega
theorem entryB_le (nm body : List UInt8) (h : nm.length ≤ 1048576) : (entryB nm body).length ≤ body.length + 1048700 := by
  unfold entryB
  have h1 := strB_le nm
  have h2 : (strB wEntry).length = 16 := by decide
  have h3 : (strB wOpen).length = 16 := by decide
  have h4 : (strB wName).length = 16 := by decide
  have h5 : (strB wNode).length = 16 := by decide
  have h6 : (strsB [wShut]).length = 16 := by decide
  simp only [strsB, List.length_append, List.append_nil] at h6 ⊢
  rw [h2, h3, h4, h5, h6]
  omega
theorem pack_one (x : S37) (h0 : x.f0.data.toList = []) (h : okNode x = true) (hd : x.f2.size ≤ 65536) : nar_Pack.f [x] = some (bs (strB wMark ++ oneB (nd x)), 0) := by
  have hnd : (nd x).data.length ≤ 65536 := by
    show x.f2.data.toList.length ≤ _
    rw [← Lib.size_eq]; exact hd
  have h1 := oneB_le (nd x) 65536 (by decide) hnd
  have hroom : ∃ M, PackRoom [x] M := by
    refine ⟨2000000, by simp, ?_, ?_, by simp, by simp⟩
    · intro f i nm hi hn
      obtain rfl : i = 0 := by simp at hi; exact hi
      have h2 := entryB_le nm (packN f (nds [x]) 0) hn
      have h3 : (packN f (nds [x]) 0).length ≤ 600000 := by
        cases f with
        | zero => simp [packN]
        | succ f =>
          show (packN (f + 1) [nd x] 0).length ≤ _
          rw [packN_one]
          omega
      omega
    · intro y hy
      obtain rfl : y = x := by simpa using hy
      refine ⟨?_, by omega⟩
      rw [Lib.size_eq, h0]; simp
  unfold nar_Pack.f
  rw [may_one x h0 h]
  simp only [Option.bind_some, if_true]
  rw [if_pos hroom]
  show some (bs (strB wMark ++ packN (0 + 1) [nd x] 0), (0 : Int)) = _
  rw [packN_one]
theorem str_lit (k : Nat) (l : List UInt8) (h : l.length ≤ 1000) : nar_Str.f (k + 9) (bs l) = some (bs (strB l)) := by
  rw [str_any k (bs l) (by rw [bs_size]; omega), bs_toList]
theorem awake_true (k : Nat) : shelfmarklaw10_awake.f (k + 9) = some true := by
  unfold shelfmarklaw10_awake.f
  have e1 : nar_Str.f (k + 9) (⟨#[40]⟩ : ByteArray) = some (bs (strB wOpen)) := str_lit k wOpen (by decide)
  have e2 : nar_Str.f (k + 9) (⟨#[110, 105, 120, 45, 97, 114, 99, 104, 105, 118, 101, 45, 49]⟩ : ByteArray) = some (bs (strB wMark)) := str_lit k wMark (by decide)
  rw [pack_one ⟨⟨#[]⟩, 1, ⟨#[120]⟩⟩ rfl (by decide) (by decide), e1, e2]
  simp only [Option.bind_some, shelfmarklaw1_Err.f]
  rw [if_pos (by decide), if_pos trivial, if_pos (by decide +kernel), if_pos (by decide), if_pos (by decide +kernel)]
  rw [toList_data, toList_data]
  have h : ((bs (strB wMark ++ oneB (nd ⟨⟨#[]⟩, 1, ⟨#[120]⟩⟩))).extract 0 24).data.toList == (bs (strB wMark)).data.toList := by decide +kernel
  rw [h]
end Go.Proofs.Ytncokgdfkbgflaa

namespace Go.Proofs.Ytncokgdfkbgflaa
set_option linter.unusedVariables false
set_option linter.unusedSimpArgs false
open Go.RowKit Go.Proofs.YtncokgdfkbgflaaW.PrintWords Go.Proofs.YtncokgdfkbgflaaW.PrintMore P
theorem mayStep_path {op op' : List Lv} {n : Nd} (h : mayStep op n = some op') : n.path ≠ [] := by
  intro he
  unfold mayStep withinP at h
  rw [he] at h
  simp only [cutSlash] at h
  split at h
  · cases h
  · rename_i i name hw
    split at hw
    · cases hw
    · injection hw with hw
      have h2 : name = [] := (congrArg Prod.snd hw).symm
      subst h2
      simp [mayName] at h
theorem mayGo_path : ∀ (l : List Nd) (op : List Lv), mayGo op l = true → ∀ n ∈ l, n.path ≠ []
  | [], _, _, n, hn => by simp at hn
  | m :: l, op, h, n, hn => by
    unfold mayGo at h
    split at h
    · cases h
    · rename_i op' hs
      rcases List.mem_cons.mp hn with rfl | hn
      · exact mayStep_path hs
      · exact mayGo_path l op' h n hn
theorem okNd_le (n : Nd) (h : okNd n = true) : n.data.length ≤ 65536 := by
  unfold okNd at h
  split at h
  · simpa using h
  · split at h
    · simp only [Bool.and_eq_true, decide_eq_true_eq] at h; omega
    · split at h
      · have : n.data = [] := by simpa using h
        rw [this]; simp
      · cases h
theorem may_parts {l : List Nd} (h : May l = true) : 0 < l.length ∧ l.length ≤ 256 ∧ (∀ n ∈ l, okNd n = true) ∧ (∀ j (hj : j < l.length), 0 < j → l[j].path ≠ []) := by
  unfold May at h
  split at h
  · cases h
  · rename_i n r
    simp only [Bool.and_eq_true, decide_eq_true_eq] at h
    obtain ⟨h1, _, h3, h4⟩ := h
    refine ⟨by simp, h1, fun m hm => List.all_eq_true.1 h3 m hm, fun j hj hj0 => ?_⟩
    obtain ⟨j, rfl⟩ : ∃ i, j = i + 1 := ⟨j - 1, by omega⟩
    rw [List.getElem_cons_succ]
    exact mayGo_path r _ h4 _ (List.getElem_mem _)
theorem room_is (l : List S37) (hp : ∀ x ∈ l, x.f0.size ≤ 1048576) (h : May (nds l) = true) : PackRoom l 353771551 := by
  obtain ⟨h1, h2, h3, h4⟩ := may_parts h
  have hl : (nds l).length = l.length := by simp [nds]
  rw [hl] at h1 h2
  refine ⟨h1, ?_, ?_, by omega, ?_⟩
  · intro f i nm hi hn
    have h5 := packN_le (nds l) 327827 1048576 (by
      intro n hn
      have := leafB_le n 65536 (by decide) (okNd_le n (h3 n hn))
      omega) (by
      intro n hn
      obtain ⟨x, hx, rfl⟩ := List.mem_map.1 hn
      have := hp x hx
      rw [Lib.size_eq] at this
      exact this) (by decide) h4 f i
    have h6 := entryB_len nm (packN f (nds l) i)
    have h7 := holds_le (nds l) i
    have h8 : (327827 + (1048576 + 140)) * holds (nds l) i ≤ (327827 + (1048576 + 140)) * 257 := Nat.mul_le_mul (Nat.le_refl _) (by omega)
    omega
  · intro x hx
    have h5 := okNd_le (nd x) (h3 _ (List.mem_map.2 ⟨x, hx, rfl⟩))
    have h6 := hp x hx
    refine ⟨h6, ?_⟩
    rw [Lib.size_eq]
    have : x.f2.data.toList.length ≤ 65536 := h5
    omega
  · have h5 : l.length * ((l.length + 1) * 353771551) ≤ 256 * (257 * 353771551) := Nat.mul_le_mul h2 (Nat.mul_le_mul (by omega) (Nat.le_refl _))
    omega
theorem pack_is (l : List S37) (hT : TameAll l) (hp : ∀ x ∈ l, x.f0.size ≤ 1048576) :
    nar_Pack.f l = some (if May (nds l) = true then (bs (strB wMark ++ packN l.length (nds l) 0), 0) else (⟨#[]⟩, 1)) := by
  unfold nar_Pack.f
  rw [may_is l hT]
  simp only [Option.bind_some]
  by_cases h : May (nds l) = true
  · rw [if_pos h, if_pos h, if_pos ⟨_, room_is l hp h⟩]
  · rw [if_neg h, if_neg h]
end Go.Proofs.Ytncokgdfkbgflaa

namespace Go.Proofs.Ytncokgdfkbgflaa
set_option linter.unusedVariables false
set_option linter.unusedSimpArgs false
open Go.RowKit Go.Proofs.YtncokgdfkbgflaaW.PrintWords Go.Proofs.YtncokgdfkbgflaaW.PrintMore P
theorem strs1 (k : Nat) (hk : 30 ≤ k) : shelfmarkref10_strs.f k [(⟨#[40]⟩ : ByteArray), (⟨#[116, 121, 112, 101]⟩ : ByteArray)] = some (bs (strsB [wOpen, wType])) := refStrs_f _ 300 (by decide) (by decide) (by decide) k (by simp; omega)
theorem strs2 (k : Nat) (hk : 30 ≤ k) : shelfmarkref10_strs.f k [(⟨#[41]⟩ : ByteArray)] = some (bs (strsB [wShut])) := refStrs_f _ 300 (by decide) (by decide) (by decide) k (by simp; omega)
theorem strs3 (k : Nat) (hk : 30 ≤ k) : shelfmarkref10_strs.f k [(⟨#[100, 105, 114, 101, 99, 116, 111, 114, 121]⟩ : ByteArray)] = some (bs (strsB [wDir])) := refStrs_f _ 300 (by decide) (by decide) (by decide) k (by simp; omega)
theorem strs5 (k : Nat) (hk : 30 ≤ k) (d : ByteArray) (hd : d.size ≤ 70000) : shelfmarkref10_strs.f k [(⟨#[114, 101, 103, 117, 108, 97, 114]⟩ : ByteArray), (⟨#[99, 111, 110, 116, 101, 110, 116, 115]⟩ : ByteArray), d] = some (bs (strsB [wRegular, wContents, d.data.toList])) :=
  refStrs_f _ 70000 (by decide) (by simp) (by intro s hs; simp only [List.mem_cons, List.not_mem_nil, or_false] at hs; rcases hs with rfl | rfl | rfl; all_goals first | exact hd | decide) k (by simp; omega)
theorem strs6 (k : Nat) (hk : 30 ≤ k) (d : ByteArray) (hd : d.size ≤ 70000) : shelfmarkref10_strs.f k [(⟨#[114, 101, 103, 117, 108, 97, 114]⟩ : ByteArray), (⟨#[101, 120, 101, 99, 117, 116, 97, 98, 108, 101]⟩ : ByteArray), (⟨#[]⟩ : ByteArray), (⟨#[99, 111, 110, 116, 101, 110, 116, 115]⟩ : ByteArray), d] = some (bs (strsB [wRegular, wExec, [], wContents, d.data.toList])) :=
  refStrs_f _ 70000 (by decide) (by simp) (by intro s hs; simp only [List.mem_cons, List.not_mem_nil, or_false] at hs; rcases hs with rfl | rfl | rfl | rfl | rfl; all_goals first | exact hd | decide) k (by simp; omega)
theorem strs7 (k : Nat) (hk : 30 ≤ k) (d : ByteArray) (hd : d.size ≤ 70000) : shelfmarkref10_strs.f k [(⟨#[115, 121, 109, 108, 105, 110, 107]⟩ : ByteArray), (⟨#[116, 97, 114, 103, 101, 116]⟩ : ByteArray), d] = some (bs (strsB [wSymlink, wTarget, d.data.toList])) :=
  refStrs_f _ 70000 (by decide) (by simp) (by intro s hs; simp only [List.mem_cons, List.not_mem_nil, or_false] at hs; rcases hs with rfl | rfl | rfl; all_goals first | exact hd | decide) k (by simp; omega)
theorem strs8 (k : Nat) (hk : 30 ≤ k) (d : ByteArray) (hd : d.size ≤ 70000) : shelfmarkref10_strs.f k [(⟨#[101, 110, 116, 114, 121]⟩ : ByteArray), (⟨#[40]⟩ : ByteArray), (⟨#[110, 97, 109, 101]⟩ : ByteArray), d, (⟨#[110, 111, 100, 101]⟩ : ByteArray)] = some (bs (strsB [wEntry, wOpen, wName, d.data.toList, wNode])) :=
  refStrs_f _ 70000 (by decide) (by simp) (by intro s hs; simp only [List.mem_cons, List.not_mem_nil, or_false] at hs; rcases hs with rfl | rfl | rfl | rfl | rfl; all_goals first | exact hd | decide) k (by simp; omega)
theorem nds_here {l : List S37} {pre post : List Nd} {n : Nd} (h : nds l = pre ++ (n :: post)) : ∃ hi : pre.length < l.length, nd l[pre.length] = n := by
  have hl : pre.length < l.length := by rw [← nds_len, h, List.length_append, List.length_cons]; omega
  refine ⟨hl, ?_⟩
  have h1 : (nds l)[pre.length]? = some n := by rw [h]; simp
  have h2 : (nds l)[pre.length]? = some (nd l[pre.length]) := by simp [nds, List.getElem?_eq_getElem hl]
  rw [h2] at h1
  exact Option.some.inj h1
theorem mayName_len {t : List UInt8} (h : mayName t = true) : t.length ≤ 255 := by
  unfold mayName at h
  simp only [Bool.and_eq_true, decide_eq_true_eq] at h
  exact h.2.1
mutual
theorem Tr.node_is (l : List S37) (B : Nat) (hB : B < 1000000000) (hl : l.length < 1000000000) (hs : ∀ x ∈ l, x.f0.size ≤ B) : ∀ (t : Tr) (d : Nat) (p : List UInt8) (pre post : List Nd) (k : Nat), t.ok d = true → StopsAt (headOf p) post → nds l = pre ++ (t.nodes p ++ post) → t.enc.length < 1000000000000000 → 3 * t.size + B + 60 ≤ k →
    shelfmarkref10_node.f k l (pre.length : Int) = some (bs t.enc, ((pre.length + t.size : Nat) : Int))
  | .leaf kk x, d, p, pre, post, k, h, hst, hn, he, hk => by
    obtain ⟨k, rfl⟩ : ∃ g, k = g + 1 := ⟨k - 1, by omega⟩
    rw [Tr.ok] at h
    simp only [Bool.and_eq_true, decide_eq_true_eq] at h
    rw [Tr.nodes] at hn
    obtain ⟨hi, hnd⟩ := nds_here hn
    have hat : rd_T37 l (pre.length : Int) = l[pre.length] := rd37_at l _ hi
    have h1 : l[pre.length].f1 = kk := congrArg Nd.kind hnd
    have h2 : l[pre.length].f2.data.toList = x := congrArg Nd.data hnd
    have hx := okNd_le _ h.2
    have hx2 : x.length ≤ 65536 := hx
    have hsz : l[pre.length].f2.size ≤ 70000 := by rw [Lib.size_eq, h2]; omega
    have HW := Aside0.mk (wrap_up pre.length (by omega))
    rw [Tr.enc] at he ⊢
    simp only [List.length_append] at he
    rw [shelfmarkref10_node.f, if_pos (by omega), if_pos (by omega), strs1 k (by omega)]
    simp only [Option.bind_some]
    rw [hat, h1, strs5 k (by omega) _ hsz, strs6 k (by omega) _ hsz, strs7 k (by omega) _ hsz, h2, strs2 k (by omega), HW.out, Tr.size]
    simp only [Option.bind_some]
    rcases h.1 with rfl | rfl | rfl
    · rw [if_pos rfl, bs_size, bs_size, if_pos (by simp only [leafB, if_pos] at he; omega), bs_append, bs_size, bs_size, if_pos (by simp only [leafB, if_pos] at he; rw [List.length_append]; omega), bs_append]
      rfl
    · rw [if_neg (by decide), if_pos rfl, bs_size, bs_size]
      have hb : leafB ⟨[], 2, x⟩ = strsB [wRegular, wExec, [], wContents, x] := by simp [leafB]
      rw [hb] at he ⊢
      rw [if_pos (by omega), bs_append, bs_size, bs_size, if_pos (by rw [List.length_append]; omega), bs_append]
    · rw [if_neg (by decide), if_neg (by decide), if_pos rfl, bs_size, bs_size]
      have hb : leafB ⟨[], 3, x⟩ = strsB [wSymlink, wTarget, x] := by simp [leafB]
      rw [hb] at he ⊢
      rw [if_pos (by omega), bs_append, bs_size, bs_size, if_pos (by rw [List.length_append]; omega), bs_append]
  | .dir es, d, p, pre, post, k, h, hst, hn, he, hk => by
    obtain ⟨k, rfl⟩ : ∃ g, k = g + 1 := ⟨k - 1, by omega⟩
    rw [Tr.ok] at h
    rw [Tr.size] at hk ⊢
    rw [Tr.nodes] at hn
    obtain ⟨hi, hnd⟩ := nds_here hn
    have hat : rd_T37 l (pre.length : Int) = l[pre.length] := rd37_at l _ hi
    have h1 : l[pre.length].f1 = 4 := congrArg Nd.kind hnd
    have h0 : l[pre.length].f0.data.toList = p := congrArg Nd.path hnd
    have hsi := hs l[pre.length] (List.getElem_mem _)
    have HW := Aside0.mk (wrap_up pre.length (by omega))
    rw [Tr.enc] at he ⊢
    simp only [List.length_append] at he
    have hn2 : nds l = (pre ++ [⟨p, 4, []⟩]) ++ (es.nodes p ++ post) := by rw [hn]; simp
    have hr := Es.node_is l B hB hl hs es d [] p (pre ++ [⟨p, 4, []⟩]) post k l[pre.length].f0 l[pre.length].f1 l[pre.length].f2 (strsB [wOpen, wType] ++ strsB [wDir]) h hst hn2 ⟨h0, hsi⟩ (by simp only [List.length_append]; omega) (by omega)
    rw [List.length_append, List.length_singleton] at hr
    rw [shelfmarkref10_node.f, if_pos (by omega), if_pos (by omega), strs1 k (by omega)]
    simp only [Option.bind_some]
    rw [hat]
    have g1 : ¬ l[pre.length].f1 = 1 := by omega
    have g2 : ¬ l[pre.length].f1 = 2 := by omega
    have g3 : ¬ l[pre.length].f1 = 3 := by omega
    rw [if_neg g1, if_neg g2, if_neg g3, strs3 k (by omega)]
    simp only [Option.bind_some]
    rw [bs_size, bs_size, if_pos (by omega), bs_append, HW.out, hr]
    have e1 : strsB [wOpen, wType] ++ strsB [wDir] ++ (es.enc ++ strsB [wShut]) = strsB [wOpen, wType] ++ (strsB [wDir] ++ es.enc) ++ strsB [wShut] := by simp only [List.append_assoc]
    have e2 : pre.length + 1 + es.size = pre.length + (1 + es.size) := by omega
    rw [e1, e2]
theorem Es.node_is (l : List S37) (B : Nat) (hB : B < 1000000000) (hl : l.length < 1000000000) (hs : ∀ x ∈ l, x.f0.size ≤ B) : ∀ (es : Es) (d : Nat) (last p : List UInt8) (pre post : List Nd) (k : Nat) (y0 : ByteArray) (y1 : Int) (y2 : ByteArray) (acc : List UInt8), es.ok d last = true → StopsAt (headOf p) post → nds l = pre ++ (es.nodes p ++ post) → y0.data.toList = p ∧ y0.size ≤ B →
    acc.length + es.enc.length + (strsB [wShut]).length < 1000000000000000 → 3 * es.size + B + 62 ≤ k →
    shelfmarkref10_node.l0 k l (bs acc) (pre.length : Int) y0 y1 y2 = some (bs (acc ++ (es.enc ++ strsB [wShut])), ((pre.length + es.size : Nat) : Int))
  | .nil, d, last, p, pre, post, k, y0, y1, y2, acc, h, hst, hn, ⟨hy, hyB⟩, he, hk => by
    obtain ⟨k, rfl⟩ : ∃ g, k = g + 2 := ⟨k - 2, by omega⟩
    rw [Es.nodes, List.nil_append] at hn
    rw [Es.enc] at he ⊢
    rw [Es.size, List.nil_append]
    have hj : shelfmarkref10_node.j1 (k + 1) l (bs acc) (pre.length : Int) false y0 y1 y2 = some (bs (acc ++ strsB [wShut]), ((pre.length + 0 : Nat) : Int)) := by
      rw [shelfmarkref10_node.j1, if_neg (by decide), strs2 k (by omega)]
      simp only [Option.bind_some]
      rw [bs_size, bs_size, if_pos (by simp only [List.length_nil] at he; omega), bs_append]
      rfl
    rw [shelfmarkref10_node.l0]
    by_cases hlt : pre.length < l.length
    · obtain ⟨n, post2, hpost⟩ : ∃ n post2, post = n :: post2 := by
        cases post with
        | nil => have := nds_len l; rw [hn, List.append_nil] at this; omega
        | cons n q => exact ⟨n, q, rfl⟩
      rw [hpost] at hn
      obtain ⟨hi, hnd⟩ := nds_here hn
      have hat : rd_T37 l (pre.length : Int) = l[pre.length] := rd37_at l _ hi
      have h0 : l[pre.length].f0.data.toList = n.path := congrArg Nd.path hnd
      have hsi := hs l[pre.length] (List.getElem_mem _)
      have hpfx := hst n post2 hpost
      obtain ⟨r, hr, hrl⟩ := name_f l[pre.length].f0 y0 (by omega) (by omega) (k + 1) (by omega)
      rw [h0, hy, refName_stop hpfx] at hrl
      have ht : (r.toList != ([] : List UInt8)) = false := by rw [toList_data, hrl]; rfl
      rw [if_pos (by omega), if_pos (by omega), hat, hr]
      simp only [Option.bind_some]
      rw [ht, hj]
    · rw [if_neg (by omega), hj]
  | .cons nm t es, d, last, p, pre, post, k, y0, y1, y2, acc, h, hst, hn, ⟨hy, hyB⟩, he, hk => by
    have h' := h
    rw [Es.ok] at h
    simp only [Bool.and_eq_true, Bool.not_eq_true', decide_eq_true_eq] at h
    obtain ⟨h1, h2, h3, h4, h5⟩ := h
    rw [Es.size] at hk ⊢
    have hp := Tr.size_pos t
    obtain ⟨k, rfl⟩ : ∃ g, k = g + 2 := ⟨k - 2, by omega⟩
    rw [Es.nodes, List.append_assoc] at hn
    obtain ⟨hne, h47⟩ := mayName_ne h1
    have hstop := Es.stops d nm p _ es post nm rfl hne h5 hst
    rw [Es.enc, entryB] at he ⊢
    simp only [List.length_append] at he
    have hnode := Tr.node_is l B hB hl hs t (d + 1) (headOf p ++ nm) pre (es.nodes p ++ post) k h4 hstop hn (by omega) (by omega)
    obtain ⟨m, q, hm, hmp⟩ := Tr.first (headOf p ++ nm) t
    have hn1 : nds l = pre ++ m :: (q ++ (es.nodes p ++ post)) := by rw [hn, hm]; rfl
    obtain ⟨hi, hnd⟩ := nds_here hn1
    have hat : rd_T37 l (pre.length : Int) = l[pre.length] := rd37_at l _ hi
    have h0 : l[pre.length].f0.data.toList = headOf p ++ nm := by rw [← hmp]; exact congrArg Nd.path hnd
    have hsi := hs l[pre.length] (List.getElem_mem _)
    obtain ⟨r, hr, hrl⟩ := name_f l[pre.length].f0 y0 (by omega) (by omega) (k + 1) (by omega)
    obtain ⟨r2, hr2, hrl2⟩ := name_f l[pre.length].f0 y0 (by omega) (by omega) k (by omega)
    rw [h0, hy, refName_in p nm h47] at hrl hrl2
    have ht : (r.toList != ([] : List UInt8)) = true := by rw [toList_data, hrl, bne_iff_ne]; exact hne
    have hnml := mayName_len h1
    have hn2 : nds l = (pre ++ t.nodes (headOf p ++ nm)) ++ (es.nodes p ++ post) := by rw [hn, List.append_assoc]
    have hih := Es.node_is l B hB hl hs es d nm p (pre ++ t.nodes (headOf p ++ nm)) post k y0 y1 y2 (acc ++ strsB [wEntry, wOpen, wName, nm, wNode] ++ t.enc ++ strsB [wShut]) h5 hst hn2 ⟨hy, hyB⟩ (by simp only [List.length_append]; omega) (by omega)
    rw [List.length_append, Tr.nodes_length] at hih
    rw [shelfmarkref10_node.l0, if_pos (by omega), if_pos (by omega), hat, hr]
    simp only [Option.bind_some]
    rw [ht, shelfmarkref10_node.j1, if_pos rfl, hnode]
    simp only [Option.bind_some]
    rw [if_pos (by omega), if_pos (by omega), hat, hr2]
    simp only [Option.bind_some]
    rw [strs8 k (by omega) r2 (by rw [Lib.size_eq, hrl2]; omega), strs2 k (by omega), hrl2]
    simp only [Option.bind_some]
    rw [bs_size, bs_size, if_pos (by omega), bs_append, bs_size, bs_size, if_pos (by rw [List.length_append]; omega), bs_append, bs_size, bs_size, if_pos (by simp only [List.length_append]; omega), bs_append, hih]
    have e1 : acc ++ strsB [wEntry, wOpen, wName, nm, wNode] ++ t.enc ++ strsB [wShut] ++ (es.enc ++ strsB [wShut]) = acc ++ (strsB [wEntry, wOpen, wName, nm, wNode] ++ t.enc ++ strsB [wShut] ++ es.enc ++ strsB [wShut]) := by simp only [List.append_assoc]
    have e2 : pre.length + t.size + es.size = pre.length + (t.size + es.size) := by omega
    rw [e1, e2]
end

end Go.Proofs.Ytncokgdfkbgflaa

namespace Go.Proofs.Ytncokgdfkbgflaa
set_option linter.unusedVariables false
set_option linter.unusedSimpArgs false
open Go.RowKit Go.Proofs.YtncokgdfkbgflaaW.PrintWords Go.Proofs.YtncokgdfkbgflaaW.PrintMore P
def eqNd (a b : Nd) : Bool := a.path == b.path && (a.kind == b.kind && a.data == b.data)
def sameN : List Nd → List Nd → Bool
  | [], [] => true
  | a :: l, b :: m => eqNd a b && sameN l m
  | _, _ => false
theorem eqNd_is (a b : Nd) : eqNd a b = true ↔ a = b := by
  unfold eqNd
  simp only [Bool.and_eq_true, beq_iff_eq]
  constructor
  · rintro ⟨h1, h2, h3⟩
    cases a; cases b
    simp only at h1 h2 h3
    rw [h1, h2, h3]
  · rintro rfl; exact ⟨rfl, rfl, rfl⟩
theorem sameN_is : ∀ l m : List Nd, sameN l m = true ↔ l = m
  | [], [] => by simp [sameN]
  | [], b :: m => by simp [sameN]
  | a :: l, [] => by simp [sameN]
  | a :: l, b :: m => by
    rw [sameN, Bool.and_eq_true, eqNd_is, sameN_is l m]
    simp
theorem sameN_len {l m : List Nd} (h : l.length ≠ m.length) : sameN l m = false := by
  cases hs : sameN l m with
  | false => rfl
  | true => exact absurd (congrArg List.length ((sameN_is l m).1 hs)) h
theorem test_is (x y : S37) : (!((x.f0.toList) == (y.f0.toList)) || (!(x.f1 == y.f1) || (!((x.f2.toList) == (y.f2.toList))))) = !eqNd (nd x) (nd y) := by
  have e : eqNd (nd x) (nd y) = (x.f0.toList == y.f0.toList && (x.f1 == y.f1 && x.f2.toList == y.f2.toList)) := by
    rw [toList_data, toList_data, toList_data, toList_data]; rfl
  rw [e, Bool.not_and, Bool.not_and]
theorem same_rounds (l m : List S37) (hl : l.length = m.length) (hN : l.length < 1000000000) : ∀ (d i k : Nat), l.length - i ≤ d → i ≤ l.length → d + 1 ≤ k → api_Node_55.l0 k l m (l.length : Int) (i : Int) = some (sameN ((nds l).drop i) ((nds m).drop i)) := by
  intro d
  induction d with
  | zero =>
    intro i k h1 h2 hk
    obtain ⟨k, rfl⟩ : ∃ g, k = g + 1 := ⟨k - 1, by omega⟩
    rw [api_Node_55.l0, if_neg (by omega), List.drop_eq_nil_of_le (by rw [nds_len]; omega), List.drop_eq_nil_of_le (by rw [nds_len]; omega)]
    rfl
  | succ d ih =>
    intro i k h1 h2 hk
    by_cases hi : i < l.length
    · obtain ⟨k, rfl⟩ : ∃ g, k = g + 1 := ⟨k - 1, by omega⟩
      have e1 : rd_T37 l (i : Int) = l[i] := rd37_at l i hi
      have e2 : rd_T37 m (i : Int) = m[i]'(by omega) := rd37_at m i (by omega)
      rw [api_Node_55.l0, if_pos (by omega), if_pos (by omega), if_pos (by omega), if_pos (by omega), e1, e2, test_is, nds_drop l i hi, nds_drop m i (by omega), sameN, wrap_up i (by omega)]
      cases hq : eqNd (nd l[i]) (nd (m[i]'(by omega))) with
      | false => rw [if_pos (by decide)]; rfl
      | true => rw [if_neg (by decide), ih (i + 1) k (by omega) (by omega) (by omega)]; rfl
    · exact ih i k (by omega) h2 (by omega)
theorem same_f (l m : List S37) (hN : l.length < 1000000000) (k : Nat) (hk : l.length + 1 ≤ k) : nar_Same.f k l m = some (sameN (nds l) (nds m)) := by
  unfold nar_Same.f api_Node_55.f
  by_cases hl : l.length = m.length
  · have := same_rounds l m hl hN l.length 0 k (by omega) (by omega) hk
    rw [if_pos (by omega)]
    have e : ((0 : Nat) : Int) = 0 := rfl
    rw [e] at this
    rw [this]
    rfl
  · rw [if_neg (by omega), sameN_len (by rw [nds_len, nds_len]; exact hl)]
    rfl
end Go.Proofs.Ytncokgdfkbgflaa

namespace Go.Proofs.Ytncokgdfkbgflaa
set_option linter.unusedVariables false
set_option linter.unusedSimpArgs false
def names6 : List (List UInt8) := [[97], [98, 46, 99], [98, 105, 110], [108, 105, 98], [120, 32, 121], [122]]
def name6 (k : Nat) : List UInt8 := names6.getD k []
def textAt (texts : List (List UInt8)) (i : Nat) : List UInt8 := if texts.length = 0 then [] else texts.getD (i % texts.length) []
def dir2E (texts : List (List UInt8)) : List UInt8 → Nat → Nat → Es
  | [], _, _ => .nil
  | n :: ns, k, cnt => if k < 6 ∧ cnt < 16 then .cons (name6 k) (.leaf 1 (textAt texts n.toNat)) (dir2E texts ns (k + 1) (cnt + 1)) else .nil
def dataOf (texts : List (List UInt8)) (kind : Nat) (a b c : UInt8) : List UInt8 :=
  if kind = 1 ∨ kind = 2 then textAt texts c.toNat ++ [a, b] else if kind = 3 then [116, 111, 47] ++ textAt names6 c.toNat else []
def dirE (texts : List (List UInt8)) : Nat → List UInt8 → Nat → Nat → Nat → Es
  | 0, _, _, _, _ => .nil
  | f + 1, ns, k, deep, cnt =>
    match ns with
    | a :: b :: c :: rest =>
      if k < 6 ∧ cnt < 14 then
        if 6 ≤ k + a.toNat % 3 then .nil
        else if b.toNat % 4 = 3 then
          if deep < 3 then
            .cons (name6 (k + a.toNat % 3)) (.dir (dirE texts f (rest.take (rest.length / 2)) 0 (deep + 1) (cnt + 1)))
              (dir2E texts (rest.drop (rest.length / 2)) (k + a.toNat % 3 + 1) (cnt + 1 + (dirE texts f (rest.take (rest.length / 2)) 0 (deep + 1) (cnt + 1)).size))
          else .cons (name6 (k + a.toNat % 3)) (.dir .nil) (dirE texts f rest (k + a.toNat % 3 + 1) deep (cnt + 1))
        else .cons (name6 (k + a.toNat % 3)) (.leaf (1 + (b.toNat % 4 : Nat)) (dataOf texts (1 + b.toNat % 4) a b c)) (dirE texts f rest (k + a.toNat % 3 + 1) deep (cnt + 1))
      else .nil
    | _ => .nil
def lastOf (k : Nat) : List UInt8 := match k with | 0 => [] | k + 1 => name6 k
theorem name6_ok : ∀ k, k < 6 → mayName (name6 k) = true := by decide +kernel
theorem name6_up : ∀ k, k < 6 → ∀ j, j ≤ k → (Op.bytesLess (name6 k) (lastOf j) || name6 k == lastOf j) = false := by decide +kernel
theorem names6_len : ∀ t ∈ names6, t.length ≤ 3 := by decide
theorem textAt_mem (texts : List (List UInt8)) (i : Nat) : textAt texts i = [] ∨ textAt texts i ∈ texts := by
  unfold textAt
  split
  · exact .inl rfl
  · rename_i h
    right
    have : i % texts.length < texts.length := Nat.mod_lt _ (by omega)
    rw [List.getD_eq_getElem?_getD, List.getElem?_eq_getElem this]
    exact List.getElem_mem _
theorem textAt_le {texts : List (List UInt8)} {M : Nat} (h : ∀ t ∈ texts, t.length ≤ M) (i : Nat) : (textAt texts i).length ≤ M := by
  rcases textAt_mem texts i with e | e
  · rw [e]; exact Nat.zero_le _
  · exact h _ e
theorem dir2E_ok (texts : List (List UInt8)) (h : ∀ t ∈ texts, t.length ≤ 65000) (d : Nat) (hd : d < 64) : ∀ (ns : List UInt8) (k j cnt : Nat), j ≤ k → (dir2E texts ns k cnt).ok d (lastOf j) = true
  | [], k, j, cnt, hj => by rw [dir2E, Es.ok]
  | n :: ns, k, j, cnt, hj => by
    rw [dir2E]
    split
    · rename_i hc
      have := textAt_le h n.toNat
      have ih := dir2E_ok texts h d hd ns (k + 1) (k + 1) (cnt + 1) (Nat.le_refl _)
      rw [Es.ok, name6_ok k hc.1, name6_up k hc.1 j hj, decide_eq_true hd, Tr.ok]
      have e : lastOf (k + 1) = name6 k := rfl
      rw [e] at ih
      rw [ih]
      have : okNd ⟨[], 1, textAt texts n.toNat⟩ = true := by unfold okNd; rw [if_pos (.inl rfl)]; exact decide_eq_true (by show (textAt texts n.toNat).length ≤ _; omega)
      rw [this]; rfl
    · rw [Es.ok]
theorem dir2E_size (texts : List (List UInt8)) : ∀ (ns : List UInt8) (k cnt : Nat), cnt ≤ 16 → cnt + (dir2E texts ns k cnt).size ≤ 16
  | [], k, cnt, h => by rw [dir2E, Es.size]; omega
  | n :: ns, k, cnt, h => by
    rw [dir2E]
    split
    · rename_i hc
      have := dir2E_size texts ns (k + 1) (cnt + 1) (by omega)
      rw [Es.size, Tr.size]; omega
    · rw [Es.size]; omega
theorem dirE_size (texts : List (List UInt8)) : ∀ (f : Nat) (ns : List UInt8) (k deep cnt : Nat), cnt ≤ 16 → cnt + (dirE texts f ns k deep cnt).size ≤ 16
  | 0, ns, k, deep, cnt, h => by rw [dirE, Es.size]; omega
  | f + 1, ns, k, deep, cnt, h => by
    unfold dirE
    split
    · rename_i a b c rest
      split
      · rename_i hc
        split
        · rw [Es.size]; omega
        · split
          · split
            · have h1 := dirE_size texts f (rest.take (rest.length / 2)) 0 (deep + 1) (cnt + 1) (by omega)
              have h2 := dir2E_size texts (rest.drop (rest.length / 2)) (k + a.toNat % 3 + 1) (cnt + 1 + (dirE texts f (rest.take (rest.length / 2)) 0 (deep + 1) (cnt + 1)).size) h1
              rw [Es.size, Tr.size]; omega
            · have h1 := dirE_size texts f rest (k + a.toNat % 3 + 1) deep (cnt + 1) (by omega)
              rw [Es.size, Tr.size, Es.size]; omega
          · have h1 := dirE_size texts f rest (k + a.toNat % 3 + 1) deep (cnt + 1) (by omega)
            rw [Es.size, Tr.size]; omega
      · rw [Es.size]; omega
    · rw [Es.size]; omega
theorem dataOf_ok (texts : List (List UInt8)) (h : ∀ t ∈ texts, t.length ≤ 65000) (m : Nat) (hm : m < 3) (a b c : UInt8) : okNd ⟨[], (1 + (m : Nat) : Int), dataOf texts (1 + m) a b c⟩ = true := by
  have hl := textAt_le h c.toNat
  have hl6 := textAt_le names6_len c.toNat
  rcases (show m = 0 ∨ m = 1 ∨ m = 2 by omega) with rfl | rfl | rfl
  · unfold okNd dataOf
    rw [if_pos (.inl rfl), if_pos (.inl rfl)]
    exact decide_eq_true (by show (textAt texts c.toNat ++ [a, b]).length ≤ _; rw [List.length_append]; simp; omega)
  · unfold okNd dataOf
    rw [if_pos (.inr rfl), if_pos (.inr rfl)]
    exact decide_eq_true (by show (textAt texts c.toNat ++ [a, b]).length ≤ _; rw [List.length_append]; simp; omega)
  · have hz : hasZero ([116, 111, 47] ++ textAt names6 c.toNat) = false := by
      rcases textAt_mem names6 c.toNat with e | e
      · rw [e]; rfl
      · have : ∀ t ∈ names6, hasZero ([116, 111, 47] ++ t) = false := by decide
        exact this _ e
    unfold okNd dataOf
    rw [if_neg (show ¬ ((1 + (2 : Nat) : Int) = 1 ∨ (1 + (2 : Nat) : Int) = 2) by decide), if_pos (show (1 + (2 : Nat) : Int) = 3 by decide), if_neg (show ¬ (1 + 2 = 1 ∨ 1 + 2 = 2) by decide), if_pos (show 1 + 2 = 3 by decide), hz]
    simp only [List.length_append, List.length_cons, List.length_nil, Bool.not_false, Bool.and_true]
    rw [decide_eq_true (by omega)]
    rfl
theorem dirE_ok (texts : List (List UInt8)) (h : ∀ t ∈ texts, t.length ≤ 65000) : ∀ (f : Nat) (ns : List UInt8) (k j deep cnt : Nat), j ≤ k → deep < 60 → (dirE texts f ns k deep cnt).ok deep (lastOf j) = true
  | 0, ns, k, j, deep, cnt, hj, hd => by rw [dirE, Es.ok]
  | f + 1, ns, k, j, deep, cnt, hj, hd => by
    unfold dirE
    split
    · rename_i a b c rest
      split
      · rename_i hc
        split
        · rw [Es.ok]
        · rename_i hk
          have e : lastOf (k + a.toNat % 3 + 1) = name6 (k + a.toNat % 3) := rfl
          have n1 := name6_ok (k + a.toNat % 3) (by omega)
          have n2 := name6_up (k + a.toNat % 3) (by omega) j (by omega)
          split
          · split
            · have h1 := dirE_ok texts h f (rest.take (rest.length / 2)) 0 0 (deep + 1) (cnt + 1) (Nat.le_refl _) (by omega)
              have h2 := dir2E_ok texts h deep (by omega) (rest.drop (rest.length / 2)) (k + a.toNat % 3 + 1) (k + a.toNat % 3 + 1) (cnt + 1 + (dirE texts f (rest.take (rest.length / 2)) 0 (deep + 1) (cnt + 1)).size) (Nat.le_refl _)
              have e0 : lastOf 0 = [] := rfl
              rw [e] at h2
              rw [e0] at h1
              rw [Es.ok, n1, n2, decide_eq_true (show deep < 64 by omega), Tr.ok, h1, h2]; rfl
            · have h2 := dirE_ok texts h f rest (k + a.toNat % 3 + 1) (k + a.toNat % 3 + 1) deep (cnt + 1) (Nat.le_refl _) hd
              rw [e] at h2
              rw [Es.ok, n1, n2, decide_eq_true (show deep < 64 by omega), Tr.ok, Es.ok, h2]; rfl
          · rename_i hb
            have h2 := dirE_ok texts h f rest (k + a.toNat % 3 + 1) (k + a.toNat % 3 + 1) deep (cnt + 1) (Nat.le_refl _) hd
            rw [e] at h2
            have hm := dataOf_ok texts h (b.toNat % 4) (by omega) a b c
            rw [Es.ok, n1, n2, decide_eq_true (show deep < 64 by omega), Tr.ok, hm, h2, decide_eq_true (by omega)]; rfl
      · rw [Es.ok]
    · rw [Es.ok]
def treeOf (ns : List UInt8) (texts : List (List UInt8)) : Tr :=
  match ns with
  | [] => .leaf 1 (textAt texts 0)
  | a :: r =>
    if a.toNat % 5 = 4 ∨ 3 < (a :: r).length ∨ a.toNat % 5 = 3 then .dir (dirE texts (a :: r).length (a :: r) 0 0 1)
    else if a.toNat % 5 = 2 then .leaf 3 [116, 111] else .leaf (1 + (a.toNat % 5 : Nat)) (116 :: textAt texts 0)
theorem treeOf_ok (ns : List UInt8) (texts : List (List UInt8)) (h : ∀ t ∈ texts, t.length ≤ 65000) : (treeOf ns texts).ok 0 = true := by
  have hl := textAt_le h 0
  unfold treeOf
  split
  · rw [Tr.ok]
    have : okNd ⟨[], 1, textAt texts 0⟩ = true := by unfold okNd; rw [if_pos (.inl rfl)]; exact decide_eq_true (by show (textAt texts 0).length ≤ _; omega)
    rw [this]; rfl
  · rename_i a r
    split
    · rw [Tr.ok]
      exact dirE_ok texts h _ _ 0 0 0 1 (Nat.le_refl _) (by decide)
    · rename_i hn
      split
      · rw [Tr.ok]; decide
      · rename_i h2
        have : okNd ⟨[], (1 + (a.toNat % 5 : Nat) : Int), 116 :: textAt texts 0⟩ = true := by unfold okNd; rw [if_pos (by show (1 + (a.toNat % 5 : Nat) : Int) = 1 ∨ (1 + (a.toNat % 5 : Nat) : Int) = 2; omega)]; exact decide_eq_true (by show (116 :: textAt texts 0).length ≤ _; rw [List.length_cons]; omega)
        rw [Tr.ok, this, decide_eq_true (by omega)]; rfl
theorem treeOf_size (ns : List UInt8) (texts : List (List UInt8)) : (treeOf ns texts).size ≤ 16 := by
  cases ns with
  | nil => unfold treeOf; rw [Tr.size]; omega
  | cons a r =>
    unfold treeOf
    simp only
    split
    · have := dirE_size texts (a :: r).length (a :: r) 0 0 1 (by omega)
      rw [Tr.size]; omega
    · split <;> (rw [Tr.size]; omega)
end Go.Proofs.Ytncokgdfkbgflaa

namespace Go.Proofs.Ytncokgdfkbgflaa
set_option linter.unusedVariables false
set_option linter.unusedSimpArgs false
open Go.RowKit Go.Proofs.YtncokgdfkbgflaaW.PrintWords Go.Proofs.YtncokgdfkbgflaaW.PrintMore P
def us (ns : List Int) : List UInt8 := ns.map fun x => UInt8.ofNat x.toNat
def isB (ns : List Int) : Prop := ∀ x ∈ ns, 0 ≤ x ∧ x < 256
theorem us_len (ns : List Int) : (us ns).length = ns.length := by simp [us]
theorem isB_drop {ns : List Int} (h : isB ns) (i : Nat) : isB (ns.drop i) := fun x hx => h x (List.mem_of_mem_drop hx)
theorem isB_take {ns : List Int} (h : isB ns) (i : Nat) : isB (ns.take i) := fun x hx => h x (List.mem_of_mem_take hx)
theorem us_drop (ns : List Int) (i : Nat) : us (ns.drop i) = (us ns).drop i := by simp [us]
theorem us_take (ns : List Int) (i : Nat) : us (ns.take i) = (us ns).take i := by simp [us]
theorem us_at (ns : List Int) (i : Nat) (h : i < ns.length) (hb : isB ns) : ∃ b : UInt8, rd ns (i : Int) = (b.toNat : Int) ∧ (us ns).drop i = b :: (us ns).drop (i + 1) := by
  have h2 : i < (us ns).length := by rw [us_len]; exact h
  refine ⟨(us ns)[i], ?_, List.drop_eq_getElem_cons h2⟩
  obtain ⟨h3, h4⟩ := hb ns[i] (List.getElem_mem _)
  have e : rd ns (i : Int) = ns[i] := by simp [rd, List.getD_eq_getElem?_getD, List.getElem?_eq_getElem h]
  rw [e]
  simp only [us, List.getElem_map]
  rw [UInt8.toNat_ofNat']
  omega
theorem wrapb (b : UInt8) : wrap64 (b.toNat : Int) = (b.toNat : Int) := by
  have := b.toNat_lt
  unfold wrap64; omega
theorem tmodb (n d : Nat) : Int.tmod (n : Int) (d : Int) = ((n % d : Nat) : Int) := by
  rw [Int.tmod_eq_emod_of_nonneg (by omega)]; rfl
theorem wrapn (n : Nat) (h : n < 4611686018427387904) : wrap64 (n : Int) = (n : Int) := by unfold wrap64; omega
theorem wrap_add2 (a b : Nat) (h : a + b < 4611686018427387904) : wrap64 ((a : Int) + (b : Int)) = ((a + b : Nat) : Int) := by unfold wrap64; omega
theorem textf (l : List ByteArray) (i : Nat) : ∃ r, shelfmarklaw10_text.f l (i : Int) = some r ∧ r.data.toList = textAt (strsOf l) i ∧ (r = ⟨#[]⟩ ∨ r ∈ l) := by
  unfold shelfmarklaw10_text.f textAt
  have hl : (strsOf l).length = l.length := by simp [strsOf]
  rw [hl]
  by_cases h : l.length = 0
  · rw [if_pos (by omega), if_pos h]; exact ⟨_, rfl, rfl, .inl rfl⟩
  · have hlt : i % l.length < l.length := Nat.mod_lt _ (by omega)
    rw [if_neg (by omega), if_neg h, tmodb, if_pos (by omega), if_pos (by omega)]
    have e : rdOf ByteArray.empty l ((i % l.length : Nat) : Int) = l[i % l.length] := by unfold rdOf; rw [Int.toNat_natCast, List.getD_eq_getElem?_getD, List.getElem?_eq_getElem hlt]; rfl
    refine ⟨_, rfl, ?_, .inr ?_⟩
    · rw [e]; simp [strsOf, List.getD_eq_getElem?_getD, List.getElem?_eq_getElem hlt]
    · rw [e]; exact List.getElem_mem _
def namesB : List ByteArray := [(⟨#[97]⟩ : ByteArray), (⟨#[98, 46, 99]⟩ : ByteArray), (⟨#[98, 105, 110]⟩ : ByteArray), (⟨#[108, 105, 98]⟩ : ByteArray), (⟨#[120, 32, 121]⟩ : ByteArray), (⟨#[122]⟩ : ByteArray)]
theorem names_str : strsOf namesB = names6 := rfl
theorem names_len : namesB.length = 6 := rfl
theorem names_at : ∀ k : Nat, k < 6 → (rdOf ByteArray.empty namesB (k : Int)).data.toList = name6 k ∧ (rdOf ByteArray.empty namesB (k : Int)).size ≤ 3 := by decide +kernel
theorem nds_add (l m : List S37) : nds (l ++ m) = nds l ++ nds m := by simp [nds]
theorem nds_one (a : ByteArray) (k : Int) (d : ByteArray) : nds [(⟨a, k, d⟩ : S37)] = [⟨a.data.toList, k, d.data.toList⟩] := rfl
theorem cat_list (a b : ByteArray) : (a ++ b).data.toList = a.data.toList ++ b.data.toList := by simp
theorem dir2_rounds (p : ByteArray) (hp : p.size ≤ 100000) (ns : List Int) (hns : isB ns) (hnl : ns.length < 1000000000000000) (texts : List ByteArray) (from_ : Nat) (hf : from_ ≤ 1000) : ∀ (m j k : Nat) (acc : List S37), ns.length - j ≤ m → j ≤ ns.length → acc.length ≤ 1000 → 2 * m + 4 ≤ k →
    ∃ r, shelfmarklaw10_dir2.l0 k acc p ns texts (from_ : Int) namesB (j : Int) = some r ∧ nds r = nds acc ++ (dir2E (strsOf texts) ((us ns).drop j) (from_ + j) acc.length).nodes p.data.toList := by
  have hzp := Lib.size_eq p
  intro m
  induction m with
  | zero =>
    intro j k acc h1 h2 ha hk
    obtain ⟨k, rfl⟩ : ∃ g, k = g + 2 := ⟨k - 2, by omega⟩
    rw [shelfmarklaw10_dir2.l0, if_neg (by omega), shelfmarklaw10_dir2.j1, if_neg (by decide), List.drop_eq_nil_of_le (by rw [us_len]; omega), dir2E, Es.nodes, List.append_nil]
    exact ⟨_, rfl, rfl⟩
  | succ m ih =>
    intro j k acc h1 h2 ha hk
    obtain ⟨k, rfl⟩ : ∃ g, k = g + 2 := ⟨k - 2, by omega⟩
    by_cases hj : j < ns.length
    · obtain ⟨b, hb, hd⟩ := us_at ns j hj hns
      have a1 : from_ + j < 4611686018427387904 := by omega
      have stop : shelfmarklaw10_dir2.j1 (k + 1) acc p ns texts (from_ : Int) namesB (j : Int) false = some acc := by rw [shelfmarklaw10_dir2.j1, if_neg (by decide)]
      rw [hd, dir2E]
      by_cases hk6 : from_ + j < 6
      · by_cases h16 : acc.length < 16
        · obtain ⟨q1, q2⟩ := names_at (from_ + j) hk6
          obtain ⟨t, ht, htl, _⟩ := textf texts b.toNat
          have a2 : j < 4611686018427387904 := by omega
          have a3 : ns.length - (j + 1) ≤ m := by omega
          have a4 : (acc.length : Int) < 16 := by omega
          have a5 : p.size + 1 ≤ 9223372036854775807 := by omega
          have a6 : (p ++ (⟨#[47]⟩ : ByteArray)).size + (rdOf ByteArray.empty namesB ((from_ + j : Nat) : Int)).size ≤ 9223372036854775807 := by rw [ByteArray.size_append]; have : (⟨#[47]⟩ : ByteArray).size = 1 := rfl; omega
          have a7 : acc.length < 3518437208883 := by omega
          rw [shelfmarklaw10_dir2.l0, if_pos (by omega), wrap_add2 from_ j a1, if_pos (by rw [names_len]; omega), decide_eq_true a4, shelfmarklaw10_dir2.j1, if_pos rfl, wrap_add2 from_ j a1, if_pos (by omega), if_pos (by rw [names_len]; omega), if_pos (by omega), if_pos (by omega), hb, wrapb, ht]
          simp only [Option.bind_some]
          rw [if_pos (show from_ + j < 6 ∧ acc.length < 16 from ⟨hk6, h16⟩), toList_data p, wrap_up j a2]
          by_cases hp0 : p.data.toList = []
          · rw [if_pos hp0, if_pos a7]
            obtain ⟨r, hr, hrl⟩ := ih (j + 1) k (acc ++ [(⟨rdOf ByteArray.empty namesB ((from_ + j : Nat) : Int), 1, t⟩ : S37)]) a3 hj (by rw [List.length_append]; simp; omega) (by omega)
            refine ⟨r, hr, ?_⟩
            rw [hrl, nds_add, nds_one, q1, htl, List.length_append, List.append_assoc, Es.nodes, Tr.nodes, hp0]
            rfl
          · rw [if_neg hp0, if_pos a5, if_pos a6, if_pos a7]
            obtain ⟨r, hr, hrl⟩ := ih (j + 1) k (acc ++ [(⟨p ++ (⟨#[47]⟩ : ByteArray) ++ rdOf ByteArray.empty namesB ((from_ + j : Nat) : Int), 1, t⟩ : S37)]) a3 hj (by rw [List.length_append]; simp; omega) (by omega)
            refine ⟨r, hr, ?_⟩
            rw [hrl, nds_add, nds_one, cat_list, cat_list, q1, htl, List.length_append, List.append_assoc, Es.nodes, Tr.nodes, headOf_ne hp0]
            rfl
        · have a4 : ¬ (acc.length : Int) < 16 := by omega
          rw [shelfmarklaw10_dir2.l0, if_pos (by omega), wrap_add2 from_ j a1, if_pos (by rw [names_len]; omega), decide_eq_false a4, stop, if_neg (show ¬ (from_ + j < 6 ∧ acc.length < 16) from fun h => h16 h.2), Es.nodes, List.append_nil]
          exact ⟨_, rfl, rfl⟩
      · rw [shelfmarklaw10_dir2.l0, if_pos (by omega), wrap_add2 from_ j a1, if_neg (by rw [names_len]; omega), stop, if_neg (show ¬ (from_ + j < 6 ∧ acc.length < 16) from fun h => hk6 h.1), Es.nodes, List.append_nil]
        exact ⟨_, rfl, rfl⟩
    · rw [shelfmarklaw10_dir2.l0, if_neg (by omega), shelfmarklaw10_dir2.j1, if_neg (by decide), List.drop_eq_nil_of_le (by rw [us_len]; omega), dir2E, Es.nodes, List.append_nil]
      exact ⟨_, rfl, rfl⟩
theorem dir2f (p : ByteArray) (hp : p.size ≤ 100000) (ns : List Int) (hns : isB ns) (hnl : ns.length < 1000000000000000) (texts : List ByteArray) (from_ : Nat) (hf : from_ ≤ 1000) (acc : List S37) (ha : acc.length ≤ 1000) (k : Nat) (hk : 2 * ns.length + 4 ≤ k) :
    ∃ r, shelfmarklaw10_dir2.f k acc p ns texts (from_ : Int) = some r ∧ nds r = nds acc ++ (dir2E (strsOf texts) (us ns) from_ acc.length).nodes p.data.toList := by
  obtain ⟨r, h1, h2⟩ := dir2_rounds p hp ns hns hnl texts from_ hf ns.length 0 k acc (by omega) (by omega) ha hk
  exact ⟨r, h1, h2⟩
end Go.Proofs.Ytncokgdfkbgflaa

namespace Go.Proofs.Ytncokgdfkbgflaa
set_option linter.unusedVariables false
set_option linter.unusedSimpArgs false
open Go.RowKit Go.Proofs.YtncokgdfkbgflaaW.PrintWords Go.Proofs.YtncokgdfkbgflaaW.PrintMore P
theorem strOf_two (x y : Int) : (strOfNums [x, y]).data.toList = [UInt8.ofNat x.toNat, UInt8.ofNat y.toNat] := by simp [strOfNums]
theorem strOf_size (x y : Int) : (strOfNums [x, y]).size = 2 := by rw [Lib.size_eq, strOf_two]; rfl
theorem byte_back (b : UInt8) : UInt8.ofNat ((b.toNat : Int)).toNat = b := by simp
def DirGoal (texts : List ByteArray) (k : Nat) (acc : List S37) (p : ByteArray) (ns : List Int) (kk deep i : Nat) : Prop :=
  ∃ r, shelfmarklaw10_dir.l0 k acc p ns texts (deep : Int) namesB (kk : Int) (i : Int) = some r ∧ ∀ f, ns.length - i ≤ f → nds r = nds acc ++ (dirE (strsOf texts) f ((us ns).drop i) kk deep acc.length).nodes p.data.toList
theorem drop_three {ns : List Int} {i : Nat} (h : i + 2 < ns.length) (hns : isB ns) : ∃ a b c : UInt8, rd ns (i : Int) = (a.toNat : Int) ∧ rd ns ((i + 1 : Nat) : Int) = (b.toNat : Int) ∧ rd ns ((i + 2 : Nat) : Int) = (c.toNat : Int) ∧ (us ns).drop i = a :: b :: c :: (us ns).drop (i + 3) ∧ (ns.take (i + 2)).drop i = [(a.toNat : Int), (b.toNat : Int)] := by
  obtain ⟨a, h1, h2⟩ := us_at ns i (by omega) hns
  obtain ⟨b, h3, h4⟩ := us_at ns (i + 1) (by omega) hns
  obtain ⟨c, h5, h6⟩ := us_at ns (i + 2) (by omega) hns
  refine ⟨a, b, c, h1, h3, h5, by rw [h2, h4, h6], ?_⟩
  have e1 : ns[i]'(by omega) = (a.toNat : Int) := by
    rw [← h1]; simp [rd, List.getD_eq_getElem?_getD, List.getElem?_eq_getElem (show i < ns.length by omega)]
  have e2 : ns[i + 1]'(by omega) = (b.toNat : Int) := by
    rw [← h3]; unfold rd; rw [Int.toNat_natCast, List.getD_eq_getElem?_getD, List.getElem?_eq_getElem (show i + 1 < ns.length by omega)]; rfl
  have hl : (ns.take (i + 2)).length = i + 2 := by rw [List.length_take]; omega
  rw [List.drop_eq_getElem_cons (by omega), List.drop_eq_getElem_cons (by omega), List.drop_eq_nil_of_le (by omega), List.getElem_take, List.getElem_take, e1, e2]
theorem j4_step (texts : List ByteArray) (k : Nat) (acc : List S37) (p path data : ByteArray) (ns : List Int) (hns : isB ns) (hnl : ns.length < 1000000000000000) (kk deep i m : Nat) (kind : Nat) (hk1 : kind < 5) (hi : i + 2 < ns.length) (hkk : kk ≤ 10) (ha : acc.length < 14) (hdp : deep ≤ 3) (hpp : p.size ≤ 100000) (hpath : path.size ≤ 100000)
    (hk : 2 * ns.length + 4 ≤ k)
    (IHd : kind = 4 → deep < 3 → ∀ sub : List Int, isB sub → sub.length ≤ ns.length - (i + 3) → ∃ r, shelfmarklaw10_dir.f k (acc ++ [(⟨path, (kind : Int), data⟩ : S37)]) path sub texts ((deep + 1 : Nat) : Int) = some r ∧ r.length ≤ 16 ∧ ∀ f, sub.length ≤ f → nds r = nds (acc ++ [(⟨path, (kind : Int), data⟩ : S37)]) ++ (dirE (strsOf texts) f (us sub) 0 (deep + 1) (acc.length + 1)).nodes path.data.toList)
    (IHl : ∃ r, shelfmarklaw10_dir.l0 k (acc ++ [(⟨path, (kind : Int), data⟩ : S37)]) p ns texts (deep : Int) namesB (kk : Int) ((i + 3 : Nat) : Int) = some r ∧ ∀ f, ns.length - (i + 3) ≤ f → nds r = nds (acc ++ [(⟨path, (kind : Int), data⟩ : S37)]) ++ (dirE (strsOf texts) f ((us ns).drop (i + 3)) kk deep (acc.length + 1)).nodes p.data.toList) :
    ∃ r, shelfmarklaw10_dir.j4 (k + 2) acc p ns texts (deep : Int) namesB (kk : Int) (i : Int) path (kind : Int) data = some r ∧ ∀ f, ns.length - (i + 3) ≤ f →
      nds r = nds acc ++ (⟨path.data.toList, (kind : Int), data.data.toList⟩ :: (if kind = 4 ∧ deep < 3 then
          (dirE (strsOf texts) f (((us ns).drop (i + 3)).take (((us ns).drop (i + 3)).length / 2)) 0 (deep + 1) (acc.length + 1)).nodes path.data.toList ++
            (dir2E (strsOf texts) (((us ns).drop (i + 3)).drop (((us ns).drop (i + 3)).length / 2)) kk (acc.length + 1 + (dirE (strsOf texts) f (((us ns).drop (i + 3)).take (((us ns).drop (i + 3)).length / 2)) 0 (deep + 1) (acc.length + 1)).size)).nodes p.data.toList
        else (dirE (strsOf texts) f ((us ns).drop (i + 3)) kk deep (acc.length + 1)).nodes p.data.toList)) := by
  have i3 : wrap64 ((i : Int) + 3) = ((i + 3 : Nat) : Int) := wrap_add2 i 3 (by omega)
  have I3 := Aside0.mk i3
  clear i3
  have hacc : acc.length < 3518437208883 := by omega
  have hj5 : ∀ b : Bool, (b = true ↔ (kind = 4 ∧ deep < 3)) → shelfmarklaw10_dir.j4 (k + 2) acc p ns texts (deep : Int) namesB (kk : Int) (i : Int) path (kind : Int) data = shelfmarklaw10_dir.j5 (k + 1) (acc ++ [(⟨path, (kind : Int), data⟩ : S37)]) p ns texts (deep : Int) namesB (kk : Int) (i : Int) b path (kind : Int) data := by
    intro b hb
    rw [shelfmarklaw10_dir.j4, if_pos hacc]
    simp only [Option.bind_some]
    by_cases h4 : kind = 4
    · rw [if_pos (by omega)]
      have : decide ((deep : Int) < 3) = b := by
        cases b with
        | true => exact decide_eq_true (by have := (hb.1 rfl).2; omega)
        | false => exact decide_eq_false (fun h => by have := hb.2 ⟨h4, by omega⟩; cases this)
      rw [this]
    · rw [if_neg (by omega)]
      have : b = false := by
        cases b with
        | true => exact absurd (hb.1 rfl).1 h4
        | false => rfl
      rw [this]
  have hnd : nds (acc ++ [(⟨path, (kind : Int), data⟩ : S37)]) = nds acc ++ [⟨path.data.toList, (kind : Int), data.data.toList⟩] := by rw [nds_add, nds_one]
  by_cases hc : kind = 4 ∧ deep < 3
  · rw [hj5 true ⟨fun _ => hc, fun _ => rfl⟩, shelfmarklaw10_dir.j5, if_pos rfl, I3.out]
    have w1 : wrap64 (((i + 3 : Nat) : Int) + (ns.length : Int)) = ((i + 3 + ns.length : Nat) : Int) := wrap_add2 (i + 3) ns.length (by omega)
    have w2 : Int.tdiv ((i + 3 + ns.length : Nat) : Int) 2 = (((i + 3 + ns.length) / 2 : Nat) : Int) := by rw [Int.tdiv_eq_ediv_of_nonneg (by omega)]; rfl
    have w3 : wrap64 (((i + 3 + ns.length) / 2 : Nat) : Int) = (((i + 3 + ns.length) / 2 : Nat) : Int) := wrapn _ (by omega)
    have w4 : wrap64 ((deep : Int) + 1) = ((deep + 1 : Nat) : Int) := wrap_up deep (by omega)
    rw [w1, w2, w3, w4]
    clear w1 w2 w3 w4
    have hsub : (((ns.take ((i + 3 + ns.length) / 2)).drop (i + 3))).length ≤ ns.length - (i + 3) := by rw [List.length_drop, List.length_take]; omega
    obtain ⟨r1, q1, q2, q3⟩ := IHd hc.1 hc.2 ((ns.take ((i + 3 + ns.length) / 2)).drop (i + 3)) (isB_drop (isB_take hns _) _) hsub
    obtain ⟨r2, q4, q5⟩ := dir2f p hpp (ns.drop ((i + 3 + ns.length) / 2)) (isB_drop hns _) (by rw [List.length_drop]; omega) texts kk (by omega) r1 (by omega) k (by rw [List.length_drop]; omega)
    rw [if_pos (by omega), if_pos (by omega), if_pos (by omega), Int.toNat_natCast, Int.toNat_natCast, q1]
    simp only [Option.bind_some]
    rw [if_pos (by omega), q4]
    refine ⟨r2, rfl, ?_⟩
    intro f hf
    have hul : (us ns).length = ns.length := us_len ns
    have hl1 : ((us ns).drop (i + 3)).length = ns.length - (i + 3) := by rw [List.length_drop, hul]
    have e1 : us ((ns.take ((i + 3 + ns.length) / 2)).drop (i + 3)) = ((us ns).drop (i + 3)).take (((us ns).drop (i + 3)).length / 2) := by
      rw [us_drop, us_take, List.drop_take, hl1]
      congr 1
      omega
    have e2 : us (ns.drop ((i + 3 + ns.length) / 2)) = ((us ns).drop (i + 3)).drop (((us ns).drop (i + 3)).length / 2) := by
      rw [us_drop, List.drop_drop, hl1]
      congr 1
      omega
    have q6 := q3 f (by rw [List.length_drop, List.length_take]; omega)
    have hr1 : r1.length = acc.length + 1 + (dirE (strsOf texts) f (((us ns).drop (i + 3)).take (((us ns).drop (i + 3)).length / 2)) 0 (deep + 1) (acc.length + 1)).size := by
      have := congrArg List.length q6
      rw [nds_len, List.length_append, nds_len, List.length_append, Es.nodes_length, e1] at this
      simpa using this
    rw [q5, q6, e1, e2, hnd, hr1, if_pos hc, List.append_assoc, List.append_assoc]
    rfl
  · obtain ⟨r, hr, hrl⟩ := IHl
    rw [hj5 false ⟨fun h => (by cases h), fun h => absurd h hc⟩, shelfmarklaw10_dir.j5, if_neg (by decide), I3.out]
    refine ⟨r, hr, fun f hf => ?_⟩
    rw [hrl f hf, hnd, if_neg hc, List.append_assoc]
    rfl
theorem dirE_short (texts : List (List UInt8)) (k d c : Nat) : ∀ (f : Nat) (l : List UInt8), l.length < 3 → dirE texts f l k d c = .nil
  | 0, l, _ => by rw [dirE]
  | f + 1, [], _ => by unfold dirE; rfl
  | f + 1, [a], _ => by unfold dirE; rfl
  | f + 1, [a, b], _ => by unfold dirE; rfl
  | f + 1, a :: b :: c :: l, h => by simp only [List.length_cons] at h; omega
theorem j3_data (texts : List ByteArray) (htx : ∀ t ∈ texts, t.size ≤ 1000000) (k : Nat) (acc : List S37) (p path : ByteArray) (ns : List Int) (deep kk i : Nat) (kind : Nat) (hk1 : 1 ≤ kind ∧ kind < 5) (a b c : UInt8) (hi : i + 2 < ns.length) (hnl : ns.length < 1000000000000000) (hc : rd ns ((i + 2 : Nat) : Int) = (c.toNat : Int)) (hab : (ns.take (i + 2)).drop i = [(a.toNat : Int), (b.toNat : Int)]) :
    ∃ data : ByteArray, data.data.toList = dataOf (strsOf texts) kind a b c ∧ shelfmarklaw10_dir.j3 (k + 1) acc p ns texts (deep : Int) namesB (kk : Int) (i : Int) (kind : Int) (decide (kind = 1 ∨ kind = 2)) path (kind : Int) (⟨#[]⟩ : ByteArray) = shelfmarklaw10_dir.j4 k acc p ns texts (deep : Int) namesB (kk : Int) (i : Int) path (kind : Int) data := by
  have I2 := Aside0.mk (wrap_add2 i 2 (by omega))
  by_cases h12 : kind = 1 ∨ kind = 2
  · obtain ⟨t, ht, htl, htm⟩ := textf texts c.toNat
    have hts : t.size ≤ 1000000 := by
      rcases htm with rfl | h
      · decide
      · exact htx t h
    refine ⟨t ++ strOfNums [(a.toNat : Int), (b.toNat : Int)], ?_, ?_⟩
    · rw [cat_list, strOf_two, byte_back, byte_back, htl, dataOf, if_pos h12]
    · have hsz := strOf_size (a.toNat : Int) (b.toNat : Int)
      rw [shelfmarklaw10_dir.j3, decide_eq_true h12, if_pos rfl]
      have e : wrap64 ((i : Int) + 2) = ((i + 2 : Nat) : Int) := I2.out
      rw [e, hc, wrapb, ht, Int.toNat_natCast, Int.toNat_natCast, hab]
      clear e
      rw [if_pos (by omega), if_pos (by omega)]
      simp only [Option.bind_some]
      rw [if_pos (by omega), if_pos (by omega), if_pos (by omega), if_pos (by omega)]
  · rw [decide_eq_false h12, shelfmarklaw10_dir.j3, if_neg (by decide)]
    by_cases h3 : kind = 3
    · obtain ⟨t, ht, htl, htm⟩ := textf namesB c.toNat
      have hts : t.size ≤ 3 := by
        rcases htm with rfl | h
        · decide
        · have : ∀ t ∈ namesB, t.size ≤ 3 := by decide
          exact this t h
      refine ⟨(⟨#[116, 111, 47]⟩ : ByteArray) ++ t, ?_, ?_⟩
      · rw [cat_list, htl, dataOf, if_neg h12, if_pos h3, names_str]
      · have e : wrap64 ((i : Int) + 2) = ((i + 2 : Nat) : Int) := I2.out
        rw [if_pos (by omega), e, hc, wrapb, ht]
        clear e
        rw [if_pos (by omega), if_pos (by omega)]
        simp only [Option.bind_some]
        rw [if_pos (by omega)]
    · refine ⟨⟨#[]⟩, ?_, ?_⟩
      · rw [dataOf, if_neg h12, if_neg h3]
      · rw [if_neg (by omega)]
theorem dirN_rounds (texts : List ByteArray) (htx : ∀ t ∈ texts, t.size ≤ 1000000) (L : Nat) (hL : L < 1000000000000000) : ∀ (m : Nat) (ns : List Int) (p : ByteArray) (deep kk i k : Nat) (acc : List S37), ns.length - i ≤ m → i ≤ ns.length → isB ns → ns.length ≤ L → kk ≤ 10 → deep ≤ 3 → p.size ≤ 10 * deep → acc.length ≤ 16 → 8 * m + 2 * L + 40 ≤ k →
    DirGoal texts k acc p ns kk deep i := by
  intro m
  induction m with
  | zero =>
    intro ns p deep kk i k acc h1 h2 hns hnL hkk hdp hpp ha hk
    obtain ⟨k, rfl⟩ : ∃ g, k = g + 2 := ⟨k - 2, by omega⟩
    have I2 := Aside0.mk (wrap_add2 i 2 (by omega))
    refine ⟨acc, ?_, fun f hf => ?_⟩
    · rw [shelfmarklaw10_dir.l0, show wrap64 ((i : Int) + 2) = ((i + 2 : Nat) : Int) from I2.out]
      rw [if_neg (by omega), shelfmarklaw10_dir.j1, if_neg (by decide)]
    · rw [dirE_short _ _ _ _ _ _ (by rw [List.length_drop, us_len]; omega), Es.nodes, List.append_nil]
  | succ m ih =>
    intro ns p deep kk i k acc h1 h2 hns hnL hkk hdp hpp ha hk
    obtain ⟨k, rfl⟩ : ∃ g, k = g + 6 := ⟨k - 6, by omega⟩
    have I2 := Aside0.mk (wrap_add2 i 2 (by omega))
    have hzp := Lib.size_eq p
    have stop : shelfmarklaw10_dir.j1 (k + 5) acc p ns texts (deep : Int) namesB (kk : Int) (i : Int) false = some acc := by rw [shelfmarklaw10_dir.j1, if_neg (by decide)]
    by_cases hi : i + 2 < ns.length
    · obtain ⟨a, b, c, ra, rb, rc, hd, hab⟩ := drop_three hi hns
      have hfuel : ∀ f, ns.length - i ≤ f → ∃ g, f = g + 1 ∧ ns.length - (i + 3) ≤ g := fun f hf => ⟨f - 1, by omega, by omega⟩
      by_cases hc1 : kk < 6 ∧ acc.length < 14
      · have i2 : ((i + 2 : Nat) : Int) < (ns.length : Int) := by omega
        have kx : (kk : Int) < (namesB.length : Int) := by rw [names_len]; omega
        have ax : ((acc.length : Nat) : Int) < 14 := by omega
        have b1 : a.toNat % 3 < 3 := Nat.mod_lt _ (by decide)
        have b2 : b.toNat % 4 < 4 := Nat.mod_lt _ (by decide)
        have W1 := Aside0.mk (wrap_add2 kk (a.toNat % 3) (by omega))
        have W2 := Aside0.mk (wrap_add2 i 1 (by omega))
        have W3 := Aside0.mk (wrap_add2 1 (b.toNat % 4) (by omega))
        have W4 := Aside0.mk (wrap_add2 (kk + a.toNat % 3) 1 (by omega))
        have e0 : shelfmarklaw10_dir.l0 (k + 6) acc p ns texts (deep : Int) namesB (kk : Int) (i : Int) = shelfmarklaw10_dir.j1 (k + 5) acc p ns texts (deep : Int) namesB (kk : Int) (i : Int) true := by
          rw [shelfmarklaw10_dir.l0, show wrap64 ((i : Int) + 2) = ((i + 2 : Nat) : Int) from I2.out, if_pos i2, if_pos kx, decide_eq_true ax]
        have i0 : (0 : Int) ≤ (i : Int) := by omega
        have il : (i : Int) < (ns.length : Int) := by omega
        have i1 : (0 : Int) ≤ ((i + 1 : Nat) : Int) := by omega
        have i1l : ((i + 1 : Nat) : Int) < (ns.length : Int) := by omega
        by_cases h6 : 6 ≤ kk + a.toNat % 3
        · refine ⟨acc, ?_, fun f hf => ?_⟩
          · have h6' : ((kk + a.toNat % 3 : Nat) : Int) ≥ (namesB.length : Int) := by rw [names_len]; omega
            rw [e0, shelfmarklaw10_dir.j1, if_pos rfl, if_pos i0, if_pos il, ra, wrapb, show Int.tmod (a.toNat : Int) 3 = ((a.toNat % 3 : Nat) : Int) from tmodb a.toNat 3, show wrap64 ((kk : Int) + ((a.toNat % 3 : Nat) : Int)) = ((kk + a.toNat % 3 : Nat) : Int) from W1.out, if_pos h6']
          · obtain ⟨g, rfl, hg⟩ := hfuel f hf
            rw [hd, dirE, if_pos hc1, if_pos h6, Es.nodes, List.append_nil]
        · obtain ⟨q1, q2⟩ := names_at (kk + a.toNat % 3) (by omega)
          obtain ⟨path, hpath, hpsz, hj1⟩ : ∃ path : ByteArray, path.data.toList = headOf p.data.toList ++ name6 (kk + a.toNat % 3) ∧ path.size ≤ p.size + 4 ∧ shelfmarklaw10_dir.j1 (k + 5) acc p ns texts (deep : Int) namesB (kk : Int) (i : Int) true = shelfmarklaw10_dir.j2 (k + 4) acc p ns texts (deep : Int) namesB ((kk + a.toNat % 3 : Nat) : Int) (i : Int) path ((1 + b.toNat % 4 : Nat) : Int) (⟨#[]⟩ : ByteArray) := by
            have h6a : ¬ ((kk + a.toNat % 3 : Nat) : Int) ≥ (namesB.length : Int) := by rw [names_len]; omega
            have h6b : (0 : Int) ≤ ((kk + a.toNat % 3 : Nat) : Int) := by omega
            have h6c : ((kk + a.toNat % 3 : Nat) : Int) < (namesB.length : Int) := by rw [names_len]; omega
            have s1 : p.size + 1 ≤ 9223372036854775807 := by omega
            have s2 : (p ++ (⟨#[47]⟩ : ByteArray)).size + (rdOf ByteArray.empty namesB ((kk + a.toNat % 3 : Nat) : Int)).size ≤ 9223372036854775807 := by rw [ByteArray.size_append]; have : (⟨#[47]⟩ : ByteArray).size = 1 := rfl; omega
            by_cases hp0 : p.data.toList = []
            · refine ⟨rdOf ByteArray.empty namesB ((kk + a.toNat % 3 : Nat) : Int), by rw [hp0]; exact q1, by omega, ?_⟩
              rw [shelfmarklaw10_dir.j1, if_pos rfl, if_pos i0, if_pos il, ra, wrapb, show Int.tmod (a.toNat : Int) 3 = ((a.toNat % 3 : Nat) : Int) from tmodb a.toNat 3, show wrap64 ((kk : Int) + ((a.toNat % 3 : Nat) : Int)) = ((kk + a.toNat % 3 : Nat) : Int) from W1.out, if_neg h6a, if_pos h6b, if_pos h6c, show wrap64 ((i : Int) + 1) = ((i + 1 : Nat) : Int) from W2.out, if_pos i1, if_pos i1l, toList_data p, if_pos hp0, rb, wrapb, show Int.tmod (b.toNat : Int) 4 = ((b.toNat % 4 : Nat) : Int) from tmodb b.toNat 4, show wrap64 (1 + ((b.toNat % 4 : Nat) : Int)) = ((1 + b.toNat % 4 : Nat) : Int) from W3.out]
            · refine ⟨p ++ (⟨#[47]⟩ : ByteArray) ++ rdOf ByteArray.empty namesB ((kk + a.toNat % 3 : Nat) : Int), by rw [cat_list, cat_list, q1, headOf_ne hp0], by rw [ByteArray.size_append, ByteArray.size_append]; have : (⟨#[47]⟩ : ByteArray).size = 1 := rfl; omega, ?_⟩
              rw [shelfmarklaw10_dir.j1, if_pos rfl, if_pos i0, if_pos il, ra, wrapb, show Int.tmod (a.toNat : Int) 3 = ((a.toNat % 3 : Nat) : Int) from tmodb a.toNat 3, show wrap64 ((kk : Int) + ((a.toNat % 3 : Nat) : Int)) = ((kk + a.toNat % 3 : Nat) : Int) from W1.out, if_neg h6a, if_pos h6b, if_pos h6c, show wrap64 ((i : Int) + 1) = ((i + 1 : Nat) : Int) from W2.out, if_pos i1, if_pos i1l, toList_data p, if_neg hp0, if_pos s1, if_pos s2, rb, wrapb, show Int.tmod (b.toNat : Int) 4 = ((b.toNat % 4 : Nat) : Int) from tmodb b.toNat 4, show wrap64 (1 + ((b.toNat % 4 : Nat) : Int)) = ((1 + b.toNat % 4 : Nat) : Int) from W3.out]
          have hj2 : shelfmarklaw10_dir.j2 (k + 4) acc p ns texts (deep : Int) namesB ((kk + a.toNat % 3 : Nat) : Int) (i : Int) path ((1 + b.toNat % 4 : Nat) : Int) (⟨#[]⟩ : ByteArray) = shelfmarklaw10_dir.j3 (k + 3) acc p ns texts (deep : Int) namesB ((kk + a.toNat % 3 + 1 : Nat) : Int) (i : Int) ((1 + b.toNat % 4 : Nat) : Int) (decide (1 + b.toNat % 4 = 1 ∨ 1 + b.toNat % 4 = 2)) path ((1 + b.toNat % 4 : Nat) : Int) (⟨#[]⟩ : ByteArray) := by
            rw [shelfmarklaw10_dir.j2, show wrap64 (((kk + a.toNat % 3 : Nat) : Int) + 1) = ((kk + a.toNat % 3 + 1 : Nat) : Int) from W4.out]
            clear e0
            by_cases h : 1 + b.toNat % 4 = 1
            · have hh : ((1 + b.toNat % 4 : Nat) : Int) = 1 := by omega
              rw [if_pos hh, decide_eq_true (.inl h), hh]; rfl
            · have hh : ¬ ((1 + b.toNat % 4 : Nat) : Int) = 1 := by omega
              rw [if_neg hh]
              congr 1
              rw [Bool.eq_iff_iff, beq_iff_eq, decide_eq_true_eq]; omega
          obtain ⟨data, hdata, hj3⟩ := j3_data texts htx (k + 2) acc p path ns deep (kk + a.toNat % 3 + 1) i (1 + b.toNat % 4) (by omega) a b c hi (by omega) rc hab
          have hacc1 : (acc ++ [(⟨path, ((1 + b.toNat % 4 : Nat) : Int), data⟩ : S37)]).length = acc.length + 1 := by rw [List.length_append]; rfl
          have hstep := j4_step texts k acc p path data ns hns (by omega) (kk + a.toNat % 3 + 1) deep i m (1 + b.toNat % 4) (by omega) hi (by omega) hc1.2 hdp (by omega) (by omega) (by omega)
            (fun h4 hd3 sub hsb hsl => by
              obtain ⟨k, rfl⟩ : ∃ g, k = g + 1 := ⟨k - 1, by omega⟩
              obtain ⟨r, hr, hrl⟩ := ih sub path (deep + 1) 0 0 k (acc ++ [(⟨path, ((1 + b.toNat % 4 : Nat) : Int), data⟩ : S37)]) (by omega) (by omega) hsb (by omega) (by omega) (by omega) (by omega) (by omega) (by omega)
              refine ⟨r, hr, ?_, fun f hf => ?_⟩
              · have := congrArg List.length (hrl sub.length (by omega))
                rw [nds_len, List.length_append, nds_len, Es.nodes_length, hacc1] at this
                have hs := dirE_size (strsOf texts) sub.length ((us sub).drop 0) 0 (deep + 1) (acc.length + 1) (by omega)
                omega
              · have := hrl f (by omega)
                rw [hacc1, List.drop_zero] at this
                exact this)
            (by
              obtain ⟨r, hr, hrl⟩ := ih ns p deep (kk + a.toNat % 3 + 1) (i + 3) k (acc ++ [(⟨path, ((1 + b.toNat % 4 : Nat) : Int), data⟩ : S37)]) (by omega) (by omega) hns hnL (by omega) hdp hpp (by omega) (by omega)
              refine ⟨r, hr, fun f hf => ?_⟩
              have := hrl f hf
              rw [hacc1] at this
              exact this)
          obtain ⟨r, hr, hrl⟩ := hstep
          refine ⟨r, by rw [e0, hj1, hj2, hj3]; exact hr, fun f hf => ?_⟩
          obtain ⟨g, rfl, hg⟩ := hfuel f hf
          rw [hrl g hg, hpath, hdata, hd, dirE, if_pos hc1, if_neg h6]
          congr 1
          by_cases h4 : b.toNat % 4 = 3
          · rw [if_pos h4, h4]
            by_cases hd3 : deep < 3
            · rw [if_pos hd3, if_pos ⟨rfl, hd3⟩, Es.nodes, Tr.nodes]
              rfl
            · rw [if_neg hd3, if_neg (fun h => hd3 h.2), Es.nodes, Tr.nodes, Es.nodes]
              rfl
          · rw [if_neg h4, if_neg (fun h => h4 (by omega)), Es.nodes, Tr.nodes]
            rfl
      · refine ⟨acc, ?_, fun f hf => ?_⟩
        · rw [shelfmarklaw10_dir.l0, show wrap64 ((i : Int) + 2) = ((i + 2 : Nat) : Int) from I2.out]
          rw [if_pos (by omega)]
          by_cases hk6 : kk < 6
          · rw [if_pos (by rw [names_len]; omega), decide_eq_false (by omega), stop]
          · rw [if_neg (by rw [names_len]; omega), stop]
        · obtain ⟨g, rfl, hg⟩ := hfuel f hf
          rw [hd, dirE, if_neg hc1, Es.nodes, List.append_nil]
    · refine ⟨acc, ?_, fun f hf => ?_⟩
      · rw [shelfmarklaw10_dir.l0, show wrap64 ((i : Int) + 2) = ((i + 2 : Nat) : Int) from I2.out]
        rw [if_neg (by omega), stop]
      · rw [dirE_short _ _ _ _ _ _ (by rw [List.length_drop, us_len]; omega), Es.nodes, List.append_nil]
end Go.Proofs.Ytncokgdfkbgflaa

namespace Go.Proofs.Ytncokgdfkbgflaa
set_option linter.unusedVariables false
set_option linter.unusedSimpArgs false
open Go.RowKit Go.Proofs.YtncokgdfkbgflaaW.PrintWords Go.Proofs.YtncokgdfkbgflaaW.PrintMore P
theorem dirf_root (texts : List ByteArray) (htx : ∀ t ∈ texts, t.size ≤ 1000000) (ns : List Int) (hns : isB ns) (hL : ns.length < 1000000000000000) (k : Nat) (hk : 10 * ns.length + 60 ≤ k) (root : S37) (h0 : nd root = ⟨[], 4, []⟩) :
    ∃ r, shelfmarklaw10_dir.f k [root] (⟨#[]⟩ : ByteArray) ns texts 0 = some r ∧ nds r = Tr.nodes [] (.dir (dirE (strsOf texts) ns.length (us ns) 0 0 1)) := by
  obtain ⟨k, rfl⟩ : ∃ g, k = g + 1 := ⟨k - 1, by omega⟩
  obtain ⟨r, hr, hrl⟩ := dirN_rounds texts htx ns.length hL ns.length ns (⟨#[]⟩ : ByteArray) 0 0 0 k [root] (by omega) (by omega) hns (Nat.le_refl _) (by decide) (by decide) (by decide) (by simp) (by omega)
  refine ⟨r, hr, ?_⟩
  have h := hrl ns.length (by omega)
  rw [h, Tr.nodes]
  show [nd root] ++ _ = _
  rw [h0]
  rfl
theorem tree_f (ns : List Int) (texts : List ByteArray) (htx : ∀ t ∈ texts, t.size ≤ 1000000) (hns : isB ns) (hL : ns.length < 1000000000000000) (k : Nat) (hk : 10 * ns.length + 70 ≤ k) :
    ∃ r, shelfmarklaw10_Tree.f k ns texts = some r ∧ nds r = (treeOf (us ns) (strsOf texts)).nodes [] := by
  unfold shelfmarklaw10_Tree.f
  obtain ⟨t, ht, htl, htm⟩ := textf texts 0
  have e0 : ((0 : Nat) : Int) = 0 := rfl
  rw [e0] at ht
  have hts : t.size ≤ 1000000 := by
    rcases htm with rfl | h
    · decide
    · exact htx t h
  cases ns with
  | nil =>
    rw [if_pos (by decide), ht]
    refine ⟨_, rfl, ?_⟩
    show [Nd.mk [] 1 t.data.toList] = _
    rw [htl]
    show _ = (treeOf [] (strsOf texts)).nodes []
    rw [treeOf, Tr.nodes]
  | cons x rest =>
    obtain ⟨a, ra, hd⟩ := us_at (x :: rest) 0 (by simp) hns
    rw [e0] at ra
    have hus : us (x :: rest) = a :: (us (x :: rest)).drop 1 := by rw [List.drop_zero] at hd; exact hd
    have hlen : (us (x :: rest)).length = (x :: rest).length := us_len _
    have b1 : a.toNat % 5 < 5 := Nat.mod_lt _ (by decide)
    have W := Aside0.mk (wrap_add2 1 (a.toNat % 5) (by omega))
    obtain ⟨k, rfl⟩ : ∃ g, k = g + 2 := ⟨k - 2, by omega⟩
    have hp : 0 < ((x :: rest).length : Int) := by simp
    have hn : ¬ ((x :: rest).length : Int) = 0 := by omega
    rw [if_neg hn, if_pos hp, ra, wrapb, show Int.tmod (a.toNat : Int) 5 = ((a.toNat % 5 : Nat) : Int) from tmodb a.toNat 5, show wrap64 (1 + ((a.toNat % 5 : Nat) : Int)) = ((1 + a.toNat % 5 : Nat) : Int) from W.out]
    have root4 : nd (⟨(⟨#[]⟩ : ByteArray), 4, (⟨#[]⟩ : ByteArray)⟩ : S37) = ⟨[], 4, []⟩ := rfl
    obtain ⟨r, hr, hrl⟩ := dirf_root texts htx (x :: rest) hns hL k (by omega) _ root4
    have j4 : shelfmarklaw10_Tree.j1 (k + 1) (x :: rest) texts (⟨#[]⟩ : ByteArray) 4 (⟨#[]⟩ : ByteArray) = some r := by
      rw [shelfmarklaw10_Tree.j1]
      simp only [Option.bind_some]
      rw [if_neg (by decide), if_pos trivial, hr]
      rfl
    have dirt : (a.toNat % 5 = 4 ∨ 3 < (x :: rest).length ∨ a.toNat % 5 = 3) → nds r = (treeOf (us (x :: rest)) (strsOf texts)).nodes [] := by
      intro h
      rw [hrl]
      conv => rhs; rw [hus]
      rw [treeOf, ← hus, hlen, if_pos h]
    by_cases h4 : a.toNat % 5 = 4
    · rw [if_pos (by omega), shelfmarklaw10_Tree.j0, if_pos rfl, j4]
      exact ⟨r, rfl, dirt (.inl h4)⟩
    · rw [if_neg (by omega)]
      by_cases hl3 : 3 < (x :: rest).length
      · rw [decide_eq_true (by omega), shelfmarklaw10_Tree.j0, if_pos rfl, j4]
        exact ⟨r, rfl, dirt (.inr (.inl hl3))⟩
      · rw [decide_eq_false (by omega), shelfmarklaw10_Tree.j0, if_neg (by decide)]
        by_cases h3 : a.toNat % 5 = 3
        · rw [h3]
          have : shelfmarklaw10_Tree.j1 (k + 1) (x :: rest) texts (⟨#[]⟩ : ByteArray) ((1 + 3 : Nat) : Int) (⟨#[]⟩ : ByteArray) = some r := j4
          rw [this]
          exact ⟨r, rfl, dirt (.inr (.inr h3))⟩
        · have hnd : ¬ (a.toNat % 5 = 4 ∨ 3 < (x :: rest).length ∨ a.toNat % 5 = 3) := by omega
          have ht2 : treeOf (us (x :: rest)) (strsOf texts) = if a.toNat % 5 = 2 then .leaf 3 [116, 111] else .leaf (1 + (a.toNat % 5 : Nat)) (116 :: textAt (strsOf texts) 0) := by
            conv => lhs; rw [hus]
            rw [treeOf, ← hus, hlen, if_neg hnd]
          rw [ht2, shelfmarklaw10_Tree.j1]
          simp only [Option.bind_some]
          by_cases h2 : a.toNat % 5 = 2
          · rw [if_pos (by omega), if_pos (by simp), if_pos h2, h2]
            refine ⟨_, rfl, ?_⟩
            rw [Tr.nodes]
            rfl
          · rw [if_neg (by omega), if_neg (by omega), if_neg h2, ht]
            simp only [Option.bind_some]
            rw [if_pos (by omega), if_pos (by simp)]
            refine ⟨_, rfl, ?_⟩
            rw [Tr.nodes]
            show [Nd.mk [] ((1 + a.toNat % 5 : Nat) : Int) ((⟨#[116]⟩ : ByteArray) ++ t).data.toList] = _
            rw [cat_list, htl]
            rfl
mutual
theorem Tr.path_le : ∀ (t : Tr) (d : Nat) (p : List UInt8), t.ok d = true → d ≤ 64 → ∀ n ∈ t.nodes p, n.path.length ≤ p.length + (64 - d) * 256
  | .leaf k x, d, p, h, hd, n, hn => by
    rw [Tr.nodes] at hn
    rw [List.mem_singleton.1 hn]
    show p.length ≤ _
    omega
  | .dir es, d, p, h, hd, n, hn => by
    rw [Tr.nodes] at hn
    rw [Tr.ok] at h
    rcases List.mem_cons.1 hn with rfl | hn
    · show p.length ≤ _
      omega
    · exact Es.path_le es d [] p h hd n hn
theorem Es.path_le : ∀ (es : Es) (d : Nat) (last p : List UInt8), es.ok d last = true → d ≤ 64 → ∀ n ∈ es.nodes p, n.path.length ≤ p.length + (64 - d) * 256
  | .nil, d, last, p, h, hd, n, hn => by rw [Es.nodes] at hn; simp at hn
  | .cons nm t es, d, last, p, h, hd, n, hn => by
    rw [Es.nodes] at hn
    rw [Es.ok] at h
    simp only [Bool.and_eq_true, decide_eq_true_eq] at h
    obtain ⟨h1, _, h3, h4, h5⟩ := h
    rcases List.mem_append.1 hn with hn | hn
    · have h6 := Tr.path_le t (d + 1) (headOf p ++ nm) h4 (by omega) n hn
      have h7 : nm.length ≤ 255 := by
        unfold mayName at h1
        simp only [Bool.and_eq_true, decide_eq_true_eq] at h1
        exact h1.2.1
      have h8 : (headOf p).length ≤ p.length + 1 := by
        unfold headOf
        split
        · simp
        · rw [List.length_append]; exact Nat.le_refl _
      rw [List.length_append] at h6
      have h9 : (64 - d) * 256 = (64 - (d + 1)) * 256 + 256 := by omega
      omega
    · exact Es.path_le es d nm p h5 hd n hn
end
theorem strsB_mod : ∀ l : List (List UInt8), (strsB l).length % 8 = 0
  | [] => rfl
  | s :: l => by
    have h1 := strB_mod s
    have h2 := strsB_mod l
    rw [strsB, List.length_append]; omega
theorem leafB_mod (n : Nd) : (leafB n).length % 8 = 0 := by
  unfold leafB
  split
  · exact strsB_mod _
  · split
    · exact strsB_mod _
    · exact strsB_mod _
mutual
theorem Tr.enc_mod : ∀ t : Tr, t.enc.length % 8 = 0
  | .leaf k x => by
    have h1 := strsB_mod [wOpen, wType]
    have h2 := leafB_mod ⟨[], k, x⟩
    have h3 := strsB_mod [wShut]
    rw [Tr.enc]
    simp only [List.length_append]; omega
  | .dir es => by
    have h1 := strsB_mod [wOpen, wType]
    have h2 := Es.enc_mod es
    have h3 := strsB_mod [wShut]
    have h4 := strsB_mod [wDir]
    rw [Tr.enc]
    simp only [List.length_append]; omega
theorem Es.enc_mod : ∀ es : Es, es.enc.length % 8 = 0
  | .nil => rfl
  | .cons nm t es => by
    have h1 := strsB_mod [wEntry, wOpen, wName, nm, wNode]
    have h2 := Tr.enc_mod t
    have h3 := strsB_mod [wShut]
    have h4 := Es.enc_mod es
    rw [Es.enc, entryB]
    simp only [List.length_append]; omega
end
end Go.Proofs.Ytncokgdfkbgflaa

namespace Go.Proofs.Ytncokgdfkbgflaa
set_option linter.unusedVariables false
set_option linter.unusedSimpArgs false
abbrev Rd (α : Type) := Except Int (α × List UInt8)
def Rd.then {α β : Type} (x : Rd α) (f : α → List UInt8 → Rd β) : Rd β := match x with | .error e => .error e | .ok (a, r) => f a r
theorem Rd.then_ok {α β : Type} (a : α) (r : List UInt8) (f : α → List UInt8 → Rd β) : Rd.then (.ok (a, r)) f = f a r := rfl
theorem Rd.then_error {α β : Type} (e : Int) (f : α → List UInt8 → Rd β) : Rd.then (.error e) f = .error e := rfl
theorem Rd.then_is {α β : Type} {x : Rd α} {f : α → List UInt8 → Rd β} {b : β} {r : List UInt8} (h : x.then f = .ok (b, r)) : ∃ a r1, x = .ok (a, r1) ∧ f a r1 = .ok (b, r) := by
  cases x with
  | error e => cases h
  | ok y => exact ⟨y.1, y.2, rfl, h⟩
def leN : List UInt8 → Nat
  | [] => 0
  | b :: l => b.toNat + 256 * leN l
def textP (most : Nat) (s : List UInt8) : Rd (List UInt8) :=
  if s.length < 8 then .error 5
  else if most < leN (s.take 8) then .error 4
  else if (s.drop 8).length < (leN (s.take 8) + 7) / 8 * 8 then .error 5
  else if (((s.drop 8).take ((leN (s.take 8) + 7) / 8 * 8)).drop (leN (s.take 8))).all (· == 0) then .ok ((s.drop 8).take (leN (s.take 8)), (s.drop 8).drop ((leN (s.take 8) + 7) / 8 * 8))
  else .error 4
def longest : List (List UInt8) → Nat
  | [] => 0
  | t :: l => max t.length (longest l)
def oneP (l : List (List UInt8)) (s : List UInt8) : Rd (List UInt8) := (textP (longest l) s).then fun t r => if l.contains t then .ok (t, r) else .error 4
def mustP : List (List UInt8) → List UInt8 → Rd Unit
  | [], s => .ok ((), s)
  | t :: l, s => (oneP [t] s).then fun _ r => mustP l r
def fileP (s : List UInt8) : Rd (Int × List UInt8) :=
  (oneP [wExec, wContents] s).then fun t r =>
    if t = wExec then (mustP [[], wContents] r).then fun _ r => (textP 65536 r).then fun d r => .ok ((2, d), r)
    else (textP 65536 r).then fun d r => .ok ((1, d), r)
def linkP (s : List UInt8) : Rd (Int × List UInt8) :=
  (mustP [wTarget] s).then fun _ r => (textP 4096 r).then fun d r => if d = [] ∨ hasZero d = true then .error 4 else .ok ((3, d), r)
def nameP (last : List UInt8) (deep cnt : Nat) (s : List UInt8) : Rd (List UInt8) :=
  (textP 255 s).then fun t r => if mayName t = false ∨ (Op.bytesLess t last || t == last) = true ∨ 256 ≤ cnt ∨ 64 ≤ deep then .error 4 else .ok (t, r)
mutual
/-- A node, at a path. -/
def nodeP : Nat → List UInt8 → Nat → List Nd → List UInt8 → Rd (List Nd)
  | 0, _, _, _, _ => .error 0
  | f + 1, path, deep, l, s =>
    (mustP [wOpen, wType] s).then fun _ r => (oneP [wRegular, wSymlink, wDir] r).then fun t r =>
      if t = wDir then dirP f path deep [] (l ++ [⟨path, 4, []⟩]) r
      else (if t = wRegular then fileP r else linkP r).then fun x r => (mustP [wShut] r).then fun _ r => .ok (l ++ [⟨path, x.1, x.2⟩], r)
/-- What is in a directory. -/
def dirP : Nat → List UInt8 → Nat → List UInt8 → List Nd → List UInt8 → Rd (List Nd)
  | 0, _, _, _, _, _ => .error 0
  | f + 1, path, deep, last, l, s =>
    (oneP [wEntry, wShut] s).then fun t r =>
      if t = wShut then .ok (l, r)
      else (mustP [wOpen, wName] r).then fun _ r => (nameP last deep l.length r).then fun nm r => (mustP [wNode] r).then fun _ r =>
        (nodeP f (headOf path ++ nm) (deep + 1) l r).then fun l r => (mustP [wShut] r).then fun _ r => dirP f path deep nm l r
end
def getP (s : List UInt8) : Except Int (List Nd) :=
  match (mustP [wMark] s).then fun _ r => nodeP (s.length + 1) [] 0 [] r with
  | .error e => .error e
  | .ok (l, r) => if r = [] then .ok l else .error 4
def Stream {α : Type} (P : List UInt8 → Rd α) : Prop := ∀ s z, (∃ x r, P s = .ok (x, r) ∧ P (s ++ z) = .ok (x, r ++ z)) ∨ (P s = .error 4 ∧ P (s ++ z) = .error 4) ∨ P s = .error 5 ∨ (P s = .error 0)
theorem Stream.pure {α : Type} (x : α) : Stream fun s => (.ok (x, s) : Rd α) := fun s z => .inl ⟨x, s, rfl, rfl⟩
theorem Stream.fail {α : Type} : Stream fun _ => (.error 4 : Rd α) := fun s z => .inr (.inl ⟨rfl, rfl⟩)
theorem Stream.bind {α β : Type} {P : List UInt8 → Rd α} {F : α → List UInt8 → Rd β} (hP : Stream P) (hF : ∀ a, Stream (F a)) : Stream fun s => (P s).then (F ·) := by
  intro s z
  rcases hP s z with ⟨x, r, h1, h2⟩ | ⟨h1, h2⟩ | h1 | h1
  · rcases hF x r z with ⟨y, q, h3, h4⟩ | ⟨h3, h4⟩ | h3 | h3
    · exact .inl ⟨y, q, by simp only [h1, Rd.then_ok, h3], by simp only [h2, Rd.then_ok, h4]⟩
    · exact .inr (.inl ⟨by simp only [h1, Rd.then_ok, h3], by simp only [h2, Rd.then_ok, h4]⟩)
    · exact .inr (.inr (.inl (by simp only [h1, Rd.then_ok, h3])))
    · exact .inr (.inr (.inr (by simp only [h1, Rd.then_ok, h3])))
  · exact .inr (.inl ⟨by simp only [h1, Rd.then_error], by simp only [h2, Rd.then_error]⟩)
  · exact .inr (.inr (.inl (by simp only [h1, Rd.then_error])))
  · exact .inr (.inr (.inr (by simp only [h1, Rd.then_error])))
theorem Stream.ite {α : Type} {c : Prop} [Decidable c] {P Q : List UInt8 → Rd α} (hP : Stream P) (hQ : Stream Q) : Stream fun s => if c then P s else Q s := by
  by_cases h : c
  · simp only [if_pos h]; exact hP
  · simp only [if_neg h]; exact hQ
theorem text_stream (most : Nat) : Stream (textP most) := by
  intro s z
  unfold textP
  by_cases h1 : s.length < 8
  · rw [if_pos h1]; exact .inr (.inr (.inl rfl))
  · have ht : (s ++ z).take 8 = s.take 8 := List.take_append_of_le_length (by omega)
    have hd : (s ++ z).drop 8 = s.drop 8 ++ z := List.drop_append_of_le_length (by omega)
    rw [if_neg h1, if_neg (show ¬ (s ++ z).length < 8 by rw [List.length_append]; omega), ht, hd]
    obtain ⟨n, hn⟩ : ∃ n, n = leN (s.take 8) := ⟨_, rfl⟩
    obtain ⟨y, hy⟩ : ∃ y, y = s.drop 8 := ⟨_, rfl⟩
    rw [← hn, ← hy]
    by_cases h2 : most < n
    · rw [if_pos h2, if_pos h2]; exact .inr (.inl ⟨rfl, rfl⟩)
    · rw [if_neg h2, if_neg h2]
      by_cases h3 : y.length < (n + 7) / 8 * 8
      · rw [if_pos h3]; exact .inr (.inr (.inl rfl))
      · rw [if_neg h3, if_neg (show ¬ (y ++ z).length < (n + 7) / 8 * 8 by rw [List.length_append]; omega), List.take_append_of_le_length (show (n + 7) / 8 * 8 ≤ y.length by omega), List.take_append_of_le_length (show n ≤ y.length by omega), List.drop_append_of_le_length (show (n + 7) / 8 * 8 ≤ y.length by omega)]
        split
        · exact .inl ⟨_, _, rfl, rfl⟩
        · exact .inr (.inl ⟨rfl, rfl⟩)
theorem one_stream (l : List (List UInt8)) : Stream (oneP l) := Stream.bind (text_stream _) fun t => Stream.ite (Stream.pure t) Stream.fail
theorem must_stream : ∀ l : List (List UInt8), Stream (mustP l)
  | [] => Stream.pure ()
  | t :: l => Stream.bind (one_stream [t]) fun _ => must_stream l
theorem file_stream : Stream fileP := Stream.bind (one_stream _) fun t => Stream.ite (Stream.bind (must_stream _) fun _ => Stream.bind (text_stream _) fun d => Stream.pure _) (Stream.bind (text_stream _) fun d => Stream.pure _)
theorem link_stream : Stream linkP := Stream.bind (must_stream _) fun _ => Stream.bind (text_stream _) fun d => Stream.ite Stream.fail (Stream.pure _)
theorem name_stream (last : List UInt8) (deep cnt : Nat) : Stream (nameP last deep cnt) := Stream.bind (text_stream _) fun t => Stream.ite Stream.fail (Stream.pure t)
mutual
theorem node_stream : ∀ (f : Nat) (path : List UInt8) (deep : Nat) (l : List Nd), Stream (nodeP f path deep l)
  | 0, _, _, _ => fun s z => .inr (.inr (.inr (by rw [nodeP])))
  | f + 1, path, deep, l => by
    have h : nodeP (f + 1) path deep l = fun s => (mustP [wOpen, wType] s).then fun _ r => (oneP [wRegular, wSymlink, wDir] r).then fun t r =>
      if t = wDir then dirP f path deep [] (l ++ [⟨path, 4, []⟩]) r
      else (if t = wRegular then fileP r else linkP r).then fun x r => (mustP [wShut] r).then fun _ r => .ok (l ++ [⟨path, x.1, x.2⟩], r) := by
      funext s; rw [nodeP]
    rw [h]
    exact Stream.bind (must_stream _) fun _ => Stream.bind (one_stream _) fun t => Stream.ite (dir_stream f _ _ _ _) (Stream.bind (Stream.ite file_stream link_stream) fun x => Stream.bind (must_stream _) fun _ => Stream.pure _)
theorem dir_stream : ∀ (f : Nat) (path : List UInt8) (deep : Nat) (last : List UInt8) (l : List Nd), Stream (dirP f path deep last l)
  | 0, _, _, _, _ => fun s z => .inr (.inr (.inr (by rw [dirP])))
  | f + 1, path, deep, last, l => by
    have h : dirP (f + 1) path deep last l = fun s => (oneP [wEntry, wShut] s).then fun t r =>
      if t = wShut then .ok (l, r)
      else (mustP [wOpen, wName] r).then fun _ r => (nameP last deep l.length r).then fun nm r => (mustP [wNode] r).then fun _ r =>
        (nodeP f (headOf path ++ nm) (deep + 1) l r).then fun l r => (mustP [wShut] r).then fun _ r => dirP f path deep nm l r := by
      funext s; rw [dirP]
    rw [h]
    exact Stream.bind (one_stream _) fun t => Stream.ite (Stream.pure l) (Stream.bind (must_stream _) fun _ => Stream.bind (name_stream _ _ _) fun nm => Stream.bind (must_stream _) fun _ =>
      Stream.bind (node_stream f _ _ _) fun l => Stream.bind (must_stream _) fun _ => dir_stream f _ _ _ _)
end
end Go.Proofs.Ytncokgdfkbgflaa
