/- Texts of this claim, joined: what the others lean on. -/
import Derived.Test.YtncokgdfkbgflaaMadeM2
import Derived.Test.YtncokgdfkbgflaaMadeM3
set_option linter.unusedVariables false
set_option linter.unusedSimpArgs false
namespace Go.Proofs.Ytncokgdfkbgflaa.P
open Go.RowKit Go.Proofs.YtncokgdfkbgflaaW.PrintWords Go.Proofs.YtncokgdfkbgflaaW.PrintLast Go.Proofs.YtncokgdfkbgflaaW.PrintMore
attribute [local go_sem] max2_int min2_int max_two min_two max_three min_three max_four min_four   -- for this text's walks alone
set_option linter.unusedVariables false
set_option linter.unusedSimpArgs false
mutual
def shelfmarklaw10_dir.l0 : Nat → List (S37) → ByteArray → List Int → List ByteArray → Int → List ByteArray → Int → Int → Option ((List (S37)))
  | 0, _, _, _, _, _, _, _, _ => none
  | k + 1, x0, x1, x2, x3, x4, x11, x12, x13 => if (wrap64 (x13 + 2)) < (x2.length : Int) then (if x12 < (x11.length : Int) then (shelfmarklaw10_dir.j1 k x0 x1 x2 x3 x4 x11 x12 x13 (decide ((x0.length : Int) < 14))) else (shelfmarklaw10_dir.j1 k x0 x1 x2 x3 x4 x11 x12 x13 false)) else (shelfmarklaw10_dir.j1 k x0 x1 x2 x3 x4 x11 x12 x13 false)
def shelfmarklaw10_dir.j1 : Nat → List (S37) → ByteArray → List Int → List ByteArray → Int → List ByteArray → Int → Int → Bool → Option ((List (S37)))
  | 0, _, _, _, _, _, _, _, _, _ => none
  | k + 1, x0, x1, x2, x3, x4, x11, x12, x13, x32 => if x32 = true then (if 0 ≤ x13 then (if x13 < (x2.length : Int) then (if (wrap64 (x12 + (Int.tmod (wrap64 (rd x2 x13)) 3))) ≥ (x11.length : Int) then (some x0) else (if 0 ≤ (wrap64 (x12 + (Int.tmod (wrap64 (rd x2 x13)) 3))) then (if (wrap64 (x12 + (Int.tmod (wrap64 (rd x2 x13)) 3))) < (x11.length : Int) then (if 0 ≤ (wrap64 (x13 + 1)) then (if (wrap64 (x13 + 1)) < (x2.length : Int) then (if x1.toList = ([] : List UInt8) then (shelfmarklaw10_dir.j2 k x0 x1 x2 x3 x4 x11 (wrap64 (x12 + (Int.tmod (wrap64 (rd x2 x13)) 3))) x13 (rdOf ByteArray.empty x11 (wrap64 (x12 + (Int.tmod (wrap64 (rd x2 x13)) 3)))) (wrap64 (1 + (Int.tmod (wrap64 (rd x2 (wrap64 (x13 + 1)))) 4))) (⟨#[]⟩ : ByteArray)) else (if x1.size + 1 ≤ 9223372036854775807 then (if (x1 ++ (⟨#[47]⟩ : ByteArray)).size + (rdOf ByteArray.empty x11 (wrap64 (x12 + (Int.tmod (wrap64 (rd x2 x13)) 3)))).size ≤ 9223372036854775807 then (shelfmarklaw10_dir.j2 k x0 x1 x2 x3 x4 x11 (wrap64 (x12 + (Int.tmod (wrap64 (rd x2 x13)) 3))) x13 ((x1 ++ (⟨#[47]⟩ : ByteArray)) ++ (rdOf ByteArray.empty x11 (wrap64 (x12 + (Int.tmod (wrap64 (rd x2 x13)) 3))))) (wrap64 (1 + (Int.tmod (wrap64 (rd x2 (wrap64 (x13 + 1)))) 4))) (⟨#[]⟩ : ByteArray)) else (none)) else (none))) else (none)) else (none)) else (none)) else (none))) else (none)) else (none)) else (some x0)
def shelfmarklaw10_dir.j2 : Nat → List (S37) → ByteArray → List Int → List ByteArray → Int → List ByteArray → Int → Int → ByteArray → Int → ByteArray → Option ((List (S37)))
  | 0, _, _, _, _, _, _, _, _, _, _, _ => none
  | k + 1, x0, x1, x2, x3, x4, x11, x12, x13, x137000, x137001, x137002 => if x137001 = 1 then (shelfmarklaw10_dir.j3 k x0 x1 x2 x3 x4 x11 (wrap64 (x12 + 1)) x13 x137001 (x137001 == 1) x137000 x137001 x137002) else (shelfmarklaw10_dir.j3 k x0 x1 x2 x3 x4 x11 (wrap64 (x12 + 1)) x13 x137001 (x137001 == 2) x137000 x137001 x137002)
def shelfmarklaw10_dir.j4 : Nat → List (S37) → ByteArray → List Int → List ByteArray → Int → List ByteArray → Int → Int → ByteArray → Int → ByteArray → Option ((List (S37)))
  | 0, _, _, _, _, _, _, _, _, _, _, _ => none
  | k + 1, x0, x1, x2, x3, x4, x11, x12, x13, x137000, x137001, x137002 => if x0.length < 3518437208883 then ((some (x0 ++ [(⟨x137000, x137001, x137002⟩ : S37)] : List (S37))).bind fun y146 => (if x137001 = 4 then (shelfmarklaw10_dir.j5 k y146 x1 x2 x3 x4 x11 x12 x13 (decide (x4 < 3)) x137000 x137001 x137002) else (shelfmarklaw10_dir.j5 k y146 x1 x2 x3 x4 x11 x12 x13 false x137000 x137001 x137002))) else (none)
def shelfmarklaw10_dir.j5 : Nat → List (S37) → ByteArray → List Int → List ByteArray → Int → List ByteArray → Int → Int → Bool → ByteArray → Int → ByteArray → Option ((List (S37)))
  | 0, _, _, _, _, _, _, _, _, _, _, _, _ => none
  | k + 1, x0, x1, x2, x3, x4, x11, x12, x13, x115, x137000, x137001, x137002 => if x115 = true then (if 0 ≤ (wrap64 (x13 + 3)) then (if (wrap64 (x13 + 3)) ≤ (wrap64 (Int.tdiv (wrap64 ((wrap64 (x13 + 3)) + (x2.length : Int))) 2)) then (if (wrap64 (Int.tdiv (wrap64 ((wrap64 (x13 + 3)) + (x2.length : Int))) 2)) ≤ (x2.length : Int) then ((shelfmarklaw10_dir.f k x0 x137000 ((x2.take ((wrap64 (Int.tdiv (wrap64 ((wrap64 (x13 + 3)) + (x2.length : Int))) 2)) : Int).toNat).drop ((wrap64 (x13 + 3)) : Int).toNat) x3 (wrap64 (x4 + 1))).bind fun t153 => (if 0 ≤ (wrap64 (Int.tdiv (wrap64 ((wrap64 (x13 + 3)) + (x2.length : Int))) 2)) then ((shelfmarklaw10_dir2.f k t153 x1 (x2.drop ((wrap64 (Int.tdiv (wrap64 ((wrap64 (x13 + 3)) + (x2.length : Int))) 2)) : Int).toNat) x3 x12).bind fun t160 => (some t160)) else (none))) else (none)) else (none)) else (none)) else (shelfmarklaw10_dir.l0 k x0 x1 x2 x3 x4 x11 x12 (wrap64 (x13 + 3)))
def shelfmarklaw10_dir.j3 : Nat → List (S37) → ByteArray → List Int → List ByteArray → Int → List ByteArray → Int → Int → Int → Bool → ByteArray → Int → ByteArray → Option ((List (S37)))
  | 0, _, _, _, _, _, _, _, _, _, _, _, _, _ => none
  | k + 1, x0, x1, x2, x3, x4, x11, x12, x13, x73, x74, x137000, x137001, x137002 => if x74 = true then (if 0 ≤ (wrap64 (x13 + 2)) then (if (wrap64 (x13 + 2)) < (x2.length : Int) then ((shelfmarklaw10_text.f x3 (wrap64 (rd x2 (wrap64 (x13 + 2))))).bind fun t139 => (if 0 ≤ x13 then (if x13 ≤ (wrap64 (x13 + 2)) then (if (wrap64 (x13 + 2)) ≤ (x2.length : Int) then ((some ((x2.take ((wrap64 (x13 + 2)) : Int).toNat).drop (x13 : Int).toNat : List Int)).bind fun y140 => (if t139.size + (strOfNums y140).size ≤ 9223372036854775807 then (shelfmarklaw10_dir.j4 k x0 x1 x2 x3 x4 x11 x12 x13 x137000 x137001 (t139 ++ (strOfNums y140))) else (none))) else (none)) else (none)) else (none))) else (none)) else (none)) else (if x73 = 3 then (if 0 ≤ (wrap64 (x13 + 2)) then (if (wrap64 (x13 + 2)) < (x2.length : Int) then ((shelfmarklaw10_text.f x11 (wrap64 (rd x2 (wrap64 (x13 + 2))))).bind fun t145 => (if 3 + t145.size ≤ 9223372036854775807 then (shelfmarklaw10_dir.j4 k x0 x1 x2 x3 x4 x11 x12 x13 x137000 x137001 ((⟨#[116, 111, 47]⟩ : ByteArray) ++ t145)) else (none))) else (none)) else (none)) else (shelfmarklaw10_dir.j4 k x0 x1 x2 x3 x4 x11 x12 x13 x137000 x137001 x137002))
def shelfmarklaw10_dir.f : Nat → List (S37) → ByteArray → List Int → List ByteArray → Int → Option ((List (S37)))
  | 0, _, _, _, _, _ => none
  | k + 1, l0, a1, l2, l3, a4 => shelfmarklaw10_dir.l0 k l0 a1 l2 l3 a4 (([(⟨#[97]⟩ : ByteArray), (⟨#[98, 46, 99]⟩ : ByteArray), (⟨#[98, 105, 110]⟩ : ByteArray), (⟨#[108, 105, 98]⟩ : ByteArray), (⟨#[120, 32, 121]⟩ : ByteArray), (⟨#[122]⟩ : ByteArray)] : List ByteArray)) 0 0
end
def shelfmarklaw10_dir.T8 : Bool × List (List Nat × List Nat) := (true, [([], []), ([], []), ([0, 1], [0, 1]), ([2], [2]), ([], []), ([], []), ([5], [5]), ([4, 6], [4, 6]), ([7], [7]), ([8], [8]), ([9], [9]), ([10], [10]), ([3, 11], [3, 11]), ([], []), ([13, 12, 0, 1, 2, 3, 4, 5, 6, 7, 8, 9, 10, 11, 12, 13], [12, 13])])
def shelfmarklaw10_dir.B8 : List Nat := [0, 0, 3, 7, 0, 0, 32, 112, 240, 496, 1008, 2032, 4095, 0, 16383]
theorem shelfmarklaw10_dir.tab8 : rtab .any (opsOf Try.f37 8) = shelfmarklaw10_dir.T8 := by kernel_rfl
theorem shelfmarklaw10_dir.bits8 : waitsOk shelfmarklaw10_dir.T8.2 shelfmarklaw10_dir.B8 = true := by kernel_rfl
def shelfmarklaw10_dir.T15 : Bool × List (List Nat × List Nat) := (true, [([], []), ([], []), ([], []), ([2], [2]), ([1, 3], [1, 3]), ([4], [4]), ([5], [5]), ([0, 6], [0, 6]), ([], []), ([], []), ([], []), ([10], [10]), ([8, 9, 11], [8, 9, 11]), ([12], [12]), ([7, 13], [7, 13]), ([0, 1, 2, 3, 4, 5, 6, 7, 8, 9, 10, 11, 12, 13, 14], []), ([15, 14, 7, 0, 1, 2, 3, 4, 5, 6, 7, 8, 9, 10, 11, 12, 13, 14], [14, 15])])
def shelfmarklaw10_dir.B15 : List Nat := [0, 0, 0, 4, 14, 30, 62, 127, 0, 0, 0, 1024, 3840, 7936, 16383, 32767, 65535]
theorem shelfmarklaw10_dir.tab15 : rtab .any (opsOf Try.f37 15) = shelfmarklaw10_dir.T15 := by kernel_rfl
theorem shelfmarklaw10_dir.bits15 : waitsOk shelfmarklaw10_dir.T15.2 shelfmarklaw10_dir.B15 = true := by kernel_rfl
def shelfmarklaw10_dir.T21 : Bool × List (List Nat × List Nat) := (true, [([], []), ([], []), ([1], [1]), ([], []), ([], []), ([4], [4]), ([], []), ([3, 5, 6], [3, 5, 6]), ([], []), ([], []), ([9], [9]), ([0, 2, 7, 8, 10], [0, 2, 7, 8, 10]), ([11, 11, 0, 1, 2, 3, 4, 5, 6, 7, 8, 9, 10, 11], [0, 11])])
def shelfmarklaw10_dir.B21 : List Nat := [0, 0, 2, 0, 0, 16, 0, 120, 0, 0, 512, 2047, 4095]
theorem shelfmarklaw10_dir.tab21 : rtab .any (opsOf Try.f37 21) = shelfmarklaw10_dir.T21 := by kernel_rfl
theorem shelfmarklaw10_dir.bits21 : waitsOk shelfmarklaw10_dir.T21.2 shelfmarklaw10_dir.B21 = true := by kernel_rfl
set_option maxHeartbeats 8000000 in
set_option maxRecDepth 100000 in
theorem shelfmarklaw10_dir.calls (k : Nat) : ∀ (P0_ : Nat → Prop) (u9000_ : Value) (l0 : List (S37)) (a1 : ByteArray) (A2 : Option Addr) (c2 : Nat) (l2 : List Int) (A3 : Option Addr) (c3 : Nat) (l3 : List ByteArray) (a4 : Int) (r : List (S37)) (w0 w : World) (hB : Below w0.heap.size w0 w) (ho0 : Kd.R k37 37 w w0.heap.size P0_ u9000_ l0) (hr2 : ∀ W_, Kept w W_ (fun k_ => P0_ k_) → Kd.C (Kd.int .u8) W_ A2 l2.length l2) (hc2 : l2.length ≤ c2) (hr3 : ∀ W_, Kept w W_ (fun k_ => P0_ k_) → Kd.C Kd.string W_ A3 l3.length l3) (hc3 : l3.length ≤ c3) (h : shelfmarklaw10_dir.f k l0 a1 l2 l3 a4 = some r),
    Calls Try.prog 37 #[u9000_, .string a1, .slice A2 l2.length c2, .slice A3 l3.length c3, .int .i64 a4] w fun e w' => ∃ v0_ : Value, e = .returned (v0_) ∧ Kd.R k37 37 w' w0.heap.size (fun k_ => (P0_ k_ ∨ w.heap.size ≤ k_)) v0_ r ∧ Below w0.heap.size w0 w' ∧ Kept w w' (fun k_ => P0_ k_) := by
  induction k using Nat.strongRecOn with
  | _ k ih =>
  intro P0_ u9000_ l0 a1 A2 c2 l2 A3 c3 l3 a4 r w0 w hB ho0 hr2 hc2 hr3 hc3 h
  cases k with
  | zero => exact absurd h (by simp [shelfmarklaw10_dir.f])
  | succ k =>
  simp only [shelfmarklaw10_dir.f] at h
  have hu37 := Try.underlying37
  have HO0 := Aside0.mk (show Kd.R k37 37 w w0.heap.size (fun k_ => (P0_ k_ ∨ w.heap.size ≤ k_)) u9000_ l0 from Kd.R_mono ho0 (fun k_ hk => (.inl hk)))
  have HR2 := Aside0.mk hr2
  have HC2 := Aside0.mk hc2
  clear hr2 hc2
  have HR3 := Aside0.mk hr3
  have HC3 := Aside0.mk hc3
  clear hr3 hc3
  have HK := Aside0.mk (Kept.refl w (fun k_ => P0_ k_))
  have HW0 := Aside0.mk hB.size
  have HB := Aside0.mk hB
  clear hB
  have H : (shelfmarklaw10_dir.l0 k l0 a1 l2 l3 a4 (([(⟨#[97]⟩ : ByteArray), (⟨#[98, 46, 99]⟩ : ByteArray), (⟨#[98, 105, 110]⟩ : ByteArray), (⟨#[108, 105, 98]⟩ : ByteArray), (⟨#[120, 32, 121]⟩ : ByteArray), (⟨#[122]⟩ : ByteArray)] : List ByteArray)) 0 0) = some r := h
  clear h
  obtain ⟨y130, hy130⟩ : ∃ y_ : List ByteArray, y_ = (([(⟨#[97]⟩ : ByteArray), (⟨#[98, 46, 99]⟩ : ByteArray), (⟨#[98, 105, 110]⟩ : ByteArray), (⟨#[108, 105, 98]⟩ : ByteArray), (⟨#[120, 32, 121]⟩ : ByteArray), (⟨#[122]⟩ : ByteArray)] : List ByteArray)) := ⟨_, rfl⟩
  replace H : (shelfmarklaw10_dir.l0 k l0 a1 l2 l3 a4 y130 0 0) = some r := by first | (rw [hy130]; with_reducible exact H) | (have H2_ := (Option.bind_some _ _).symm.trans H; rw [hy130]; with_reducible exact H2_) | (have H2_ := (Option.bind_some _ _).symm.trans H; with_reducible exact H2_) | with_reducible exact H | (rw [hy130]; exact H) | exact H
  have Ny130 := Aside0.mk hy130
  clear hy130
  have H' := Aside0.mk H
  clear H
  go_enter Try.func37, Try.ntmps37
  go_wp2_with (first | ((with_reducible refine gate_dst (N := 16) rfl ?_); (try (refine gate_guard (by rfl) ?_; dsimp only)); refine Kd.R_lit Kd.string _ 9 ?hg (N := 16) ?hd (xs := ([(⟨#[97]⟩ : ByteArray), (⟨#[98, 46, 99]⟩ : ByteArray), (⟨#[98, 105, 110]⟩ : ByteArray), (⟨#[108, 105, 98]⟩ : ByteArray), (⟨#[120, 32, 121]⟩ : ByteArray), (⟨#[122]⟩ : ByteArray)] : List ByteArray)) (inner := [.string (⟨#[97]⟩ : ByteArray), .string (⟨#[98, 46, 99]⟩ : ByteArray), .string (⟨#[98, 105, 110]⟩ : ByteArray), .string (⟨#[108, 105, 98]⟩ : ByteArray), .string (⟨#[120, 32, 121]⟩ : ByteArray), .string (⟨#[122]⟩ : ByteArray)]) (ok := fun _ => True) (okp := fun _ => True) ?hr ?hp (fun _ hk => hk) trivial (Below.refl _ _) (Nat.le_refl _) (by simp) ?_; (case hd => rfl); (case hg => rfl); (case hr => first | (go_simp; done) | (go_simp; rfl)); (case hp => exact (Reps.one (show Kd.M Kd.string _ _ _ (⟨#[97]⟩ : ByteArray) [.string (⟨#[97]⟩ : ByteArray)] from rfl) (Reps.one (show Kd.M Kd.string _ _ _ (⟨#[98, 46, 99]⟩ : ByteArray) [.string (⟨#[98, 46, 99]⟩ : ByteArray)] from rfl) (Reps.one (show Kd.M Kd.string _ _ _ (⟨#[98, 105, 110]⟩ : ByteArray) [.string (⟨#[98, 105, 110]⟩ : ByteArray)] from rfl) (Reps.one (show Kd.M Kd.string _ _ _ (⟨#[108, 105, 98]⟩ : ByteArray) [.string (⟨#[108, 105, 98]⟩ : ByteArray)] from rfl) (Reps.one (show Kd.M Kd.string _ _ _ (⟨#[120, 32, 121]⟩ : ByteArray) [.string (⟨#[120, 32, 121]⟩ : ByteArray)] from rfl) (Reps.one (show Kd.M Kd.string _ _ _ (⟨#[122]⟩ : ByteArray) [.string (⟨#[122]⟩ : ByteArray)] from rfl) (Reps.none _ _)))))))); intro v131 w6 ho7 hb hg_ hnew_; clear hg_ hnew_; (first | rw [← Ny130.out] at ho7 | (simp only [Int.reduceToNat] at ho7; rw [← Ny130.out] at ho7)); have n0_ := Aside0.mk (Kd.R_below (by (with_reducible repeat (first | apply Kd.R_alloc | apply Kd.R_drewN | apply Kd.R_drew)); exact HO0.out) hb); have n1_ := Aside0.mk (Kd.R_lower (Kd.R_newM (M := fun k_ => (P0_ k_ ∨ w.heap.size ≤ k_)) ho7 (by first | exact HK.out.1 | exact (show Kept w _ (fun k_ => P0_ k_) from by repeat (first | (with_reducible first | exact HK.out | apply Kept.alloc | apply Kept.drewN | apply Kept.drew) | exact HK.out)).1) (fun k_ h_ => .inr h_)) (below_size (by repeat (first | (with_reducible first | exact HB.out | apply below_alloc | apply pw_below_drewN | apply below_drew1) | exact HB.out)))); have n2_ := Aside0.mk (Kept.below (S := (fun k_ => P0_ k_)) (by repeat (first | (with_reducible first | exact HK.out | apply Kept.alloc | apply Kept.drewN | apply Kept.drew) | exact HK.out)) hb); have n3_ := Aside0.mk (below_step (by repeat (first | (with_reducible first | exact HB.out | apply below_alloc | apply pw_below_drewN | apply below_drew1) | exact HB.out)) hb); clear HO0; clear HK; clear HB; have HO0 := n0_; have HO132 := n1_; have HK := n2_; have HB := n3_; clear n0_ n1_ n2_ n3_; clear hb ho7))
  go_loopg [0, 12, 13] k (fun kq v0 v12 v13 w' => ∃ (x0_1 : List (S37)) (x12_1 : Int) (x13_1 : Int), v12 = .int .i64 x12_1 ∧ v13 = .int .i64 x13_1 ∧ Aside0 (shelfmarklaw10_dir.l0 kq x0_1 a1 l2 l3 a4 y130 x12_1 x13_1 = some r) ∧ Aside0 (kq ≤ k) ∧ Aside0 (Kd.R k37 37 w' w0.heap.size (fun k_ => (P0_ k_ ∨ w.heap.size ≤ k_)) v0 x0_1) ∧ Aside0 (Kd.R Kd.string 9 w' w0.heap.size (fun k_ => (P0_ k_ ∨ w.heap.size ≤ k_)) v131 y130) ∧ Aside0 (Kept w w' (fun k_ => P0_ k_)) ∧ Aside0 (Below w0.heap.size w0 w'))
  case atStart => exact ⟨(l0), (0), (0), (by first | rfl | (simp; done) | (simp [*]; done) | (congr 1; rw [Bool.eq_iff_iff]; simp [bne]; done) | (rw [Bool.eq_iff_iff]; simp [bne]; done)), (by first | rfl | (simp; done) | (simp [*]; done) | (congr 1; rw [Bool.eq_iff_iff]; simp [bne]; done) | (rw [Bool.eq_iff_iff]; simp [bne]; done)), H', ⟨Nat.le_refl _⟩, ⟨by (with_reducible repeat (first | apply Kd.R_alloc | apply Kd.R_drewN | apply Kd.R_drew)); exact HO0.out⟩, ⟨by (with_reducible repeat (first | apply Kd.R_alloc | apply Kd.R_drewN | apply Kd.R_drew)); exact Kd.R_mono HO132.out (fun _ hk => hk.1)⟩, ⟨by repeat (first | (with_reducible first | exact HK.out | apply Kept.alloc | apply Kept.drewN | apply Kept.drew) | exact HK.out)⟩, ⟨by repeat (first | (with_reducible first | exact HB.out | apply below_alloc | apply pw_below_drewN | apply below_drew1) | exact HB.out)⟩⟩
  case round =>
    clear H'
    try clear c2
    try clear p2
    try clear c3
    obtain ⟨x0_1, x12_1, x13_1, rfl, rfl, HA, HK1, HO_0, HO_11, HK, HB⟩ := hrel
    cases gk with
    | zero => exact absurd HA.out (by simp [shelfmarklaw10_dir.l0])
    | succ k1 =>
      have H := HA.out
      clear HA
      simp only [shelfmarklaw10_dir.l0] at H
      have HC8 := Aside0.mk H
      clear H
      go_upto_region 4 with (fail)
      go_cut [32] (fun v32 wc => ∃ (kq : Nat) (x32_7 : Bool), v32 = .bool x32_7 ∧ Aside0 (shelfmarklaw10_dir.j1 kq x0_1 a1 l2 l3 a4 y130 x12_1 x13_1 x32_7 = some r) ∧ Aside0 (kq ≤ k1) ∧ Aside0 (Kd.R k37 37 wc w0.heap.size (fun k_ => (P0_ k_ ∨ w.heap.size ≤ k_)) u0 x0_1) ∧ Aside0 (Kd.R Kd.string 9 wc w0.heap.size (fun k_ => (P0_ k_ ∨ w.heap.size ≤ k_)) v131 y130) ∧ Aside0 (Kept w wc (fun k_ => P0_ k_)) ∧ Aside0 (Below w0.heap.size w0 wc))
      case first =>
        have H := HC8.out
        clear HC8
        by_cases c9 : (wrap64 (x13_1 + 2)) < (l2.length : Int)
        · rw [if_pos c9] at H
          have c9b0 : decide ((wrap64 (x13_1 + 2)) < (l2.length : Int)) = true := decide_eq_true c9
          clear c9
          (first | rw [c9b0] | (simp only [i64_w, i32_w]; rw [c9b0]) | skip)
          by_cases c10 : x12_1 < (y130.length : Int)
          · rw [if_pos c10] at H
            have c10b0 : decide (x12_1 < (y130.length : Int)) = true := decide_eq_true c10
            clear c10
            have H' := Aside0.mk H
            clear H
            obtain ⟨Ao11, co11, eo11⟩ := Kd.R_slice HO_11.out
            subst eo11
            obtain ⟨Ao12, co12, eo12⟩ := Kd.R_slice HO_0.out
            subst eo12
            go_wp2
            go_meet
            case rel => exact ⟨_, (decide ((x0_1.length : Int) < 14)), (by first | rfl | (simp; done) | (simp [*]; done) | (congr 1; rw [Bool.eq_iff_iff]; simp [bne]; done) | (rw [Bool.eq_iff_iff]; simp [bne]; done)), H', ⟨by have := HK1.out; first | omega | exact Nat.le_refl _⟩, ⟨by (with_reducible repeat (first | apply Kd.R_alloc | apply Kd.R_drewN | apply Kd.R_drew)); exact HO_0.out⟩, ⟨by (with_reducible repeat (first | apply Kd.R_alloc | apply Kd.R_drewN | apply Kd.R_drew)); exact HO_11.out⟩, ⟨by repeat (first | (with_reducible first | exact HK.out | apply Kept.alloc | apply Kept.drewN | apply Kept.drew) | exact HK.out)⟩, ⟨by repeat (first | (with_reducible first | exact HB.out | apply below_alloc | apply pw_below_drewN | apply below_drew1) | exact HB.out)⟩⟩
          · rw [if_neg c10] at H
            have c10b0 : decide (x12_1 < (y130.length : Int)) = false := decide_eq_false c10
            clear c10
            have H' := Aside0.mk H
            clear H
            obtain ⟨Ao13, co13, eo13⟩ := Kd.R_slice HO_11.out
            subst eo13
            go_wp2
            go_meet
            case rel => exact ⟨_, (false), (by first | rfl | (simp; done) | (simp [*]; done) | (congr 1; rw [Bool.eq_iff_iff]; simp [bne]; done) | (rw [Bool.eq_iff_iff]; simp [bne]; done)), H', ⟨by have := HK1.out; first | omega | exact Nat.le_refl _⟩, ⟨by (with_reducible repeat (first | apply Kd.R_alloc | apply Kd.R_drewN | apply Kd.R_drew)); exact HO_0.out⟩, ⟨by (with_reducible repeat (first | apply Kd.R_alloc | apply Kd.R_drewN | apply Kd.R_drew)); exact HO_11.out⟩, ⟨by repeat (first | (with_reducible first | exact HK.out | apply Kept.alloc | apply Kept.drewN | apply Kept.drew) | exact HK.out)⟩, ⟨by repeat (first | (with_reducible first | exact HB.out | apply below_alloc | apply pw_below_drewN | apply below_drew1) | exact HB.out)⟩⟩
        · rw [if_neg c9] at H
          have c9b0 : decide ((wrap64 (x13_1 + 2)) < (l2.length : Int)) = false := decide_eq_false c9
          clear c9
          (first | rw [c9b0] | (simp only [i64_w, i32_w]; rw [c9b0]) | skip)
          have H' := Aside0.mk H
          clear H
          go_wp2
          go_meet
          case rel => exact ⟨_, (false), (by first | rfl | (simp; done) | (simp [*]; done) | (congr 1; rw [Bool.eq_iff_iff]; simp [bne]; done) | (rw [Bool.eq_iff_iff]; simp [bne]; done)), H', ⟨by have := HK1.out; first | omega | exact Nat.le_refl _⟩, ⟨by (with_reducible repeat (first | apply Kd.R_alloc | apply Kd.R_drewN | apply Kd.R_drew)); exact HO_0.out⟩, ⟨by (with_reducible repeat (first | apply Kd.R_alloc | apply Kd.R_drewN | apply Kd.R_drew)); exact HO_11.out⟩, ⟨by repeat (first | (with_reducible first | exact HK.out | apply Kept.alloc | apply Kept.drewN | apply Kept.drew) | exact HK.out)⟩, ⟨by repeat (first | (with_reducible first | exact HB.out | apply below_alloc | apply pw_below_drewN | apply below_drew1) | exact HB.out)⟩⟩
      case rest =>
        clear HC8
        try clear c1
        try clear c2
        try clear p2
        try clear c3
        try clear p6
        try clear c9
        try clear c9b0
        try clear c10
        try clear c10b0
        try clear p2
        obtain ⟨kq, x32_7, rfl, HA, HJ7, HO_0, HO_11, HK, HB⟩ := hcut
        cases kq with
        | zero => exact absurd HA.out (by simp [shelfmarklaw10_dir.j1])
        | succ kj7 =>
          have H := HA.out
          clear HA
          simp only [shelfmarklaw10_dir.j1] at H
          by_cases c14 : x32_7 = true
          · subst c14
            have H1 : (if 0 ≤ x13_1 then (if x13_1 < (l2.length : Int) then (if (wrap64 (x12_1 + (Int.tmod (wrap64 (rd l2 x13_1)) 3))) ≥ (y130.length : Int) then (some x0_1) else (if 0 ≤ (wrap64 (x12_1 + (Int.tmod (wrap64 (rd l2 x13_1)) 3))) then (if (wrap64 (x12_1 + (Int.tmod (wrap64 (rd l2 x13_1)) 3))) < (y130.length : Int) then (if 0 ≤ (wrap64 (x13_1 + 1)) then (if (wrap64 (x13_1 + 1)) < (l2.length : Int) then (if a1.toList = ([] : List UInt8) then (shelfmarklaw10_dir.j2 kj7 x0_1 a1 l2 l3 a4 y130 (wrap64 (x12_1 + (Int.tmod (wrap64 (rd l2 x13_1)) 3))) x13_1 (rdOf ByteArray.empty y130 (wrap64 (x12_1 + (Int.tmod (wrap64 (rd l2 x13_1)) 3)))) (wrap64 (1 + (Int.tmod (wrap64 (rd l2 (wrap64 (x13_1 + 1)))) 4))) (⟨#[]⟩ : ByteArray)) else (if a1.size + 1 ≤ 9223372036854775807 then (if (a1 ++ (⟨#[47]⟩ : ByteArray)).size + (rdOf ByteArray.empty y130 (wrap64 (x12_1 + (Int.tmod (wrap64 (rd l2 x13_1)) 3)))).size ≤ 9223372036854775807 then (shelfmarklaw10_dir.j2 kj7 x0_1 a1 l2 l3 a4 y130 (wrap64 (x12_1 + (Int.tmod (wrap64 (rd l2 x13_1)) 3))) x13_1 ((a1 ++ (⟨#[47]⟩ : ByteArray)) ++ (rdOf ByteArray.empty y130 (wrap64 (x12_1 + (Int.tmod (wrap64 (rd l2 x13_1)) 3))))) (wrap64 (1 + (Int.tmod (wrap64 (rd l2 (wrap64 (x13_1 + 1)))) 4))) (⟨#[]⟩ : ByteArray)) else (none)) else (none))) else (none)) else (none)) else (none)) else (none))) else (none)) else (none)) = some r := by rw [if_pos rfl] at H; exact H
            clear H
            have H := H1
            clear H1
            by_cases c15 : 0 ≤ x13_1
            · rw [if_pos c15] at H
              have c15b0 : decide (0 ≤ x13_1) = true := decide_eq_true c15
              clear c15
              by_cases c16 : x13_1 < (l2.length : Int)
              · rw [if_pos c16] at H
                have c16b0 : decide (x13_1 < (l2.length : Int)) = true := decide_eq_true c16
                clear c16
                by_cases c17 : (wrap64 (x12_1 + (Int.tmod (wrap64 (rd l2 x13_1)) 3))) ≥ (y130.length : Int)
                · rw [if_pos c17] at H
                  have c17b0 : decide ((y130.length : Int) ≤ (wrap64 (x12_1 + (Int.tmod (wrap64 (rd l2 x13_1)) 3)))) = true := decide_eq_true c17
                  clear c17
                  obtain rfl := Option.some.inj H
                  have p133 : 0 ≤ (x13_1 : Int) := of_decide_eq_true (by first | (with_reducible assumption) | assumption)
                  have q133 : x13_1 < (l2.length : Int) := of_decide_eq_true (by first | (with_reducible assumption) | assumption)
                  obtain ⟨ad133, e133, hx133_0⟩ := Kd.at_int (Kd.C_kept_now HR2.out HK.out) x13_1 p133 q133
                  cases e133
                  replace p133 := eq_true p133
                  replace q133 := eq_true q133
                  obtain ⟨Ao18, co18, eo18⟩ := Kd.R_slice HO_11.out
                  subst eo18
                  go_wp2
                  go_ret
                  exact ⟨_, by first | rfl | (simp [errW_none, errW_some] <;> rfl) | (simp [*, errW_none, errW_some] <;> rfl), by (with_reducible repeat (first | apply Kd.R_alloc | apply Kd.R_drewN | apply Kd.R_drew)); exact HO_0.out, by repeat (first | (with_reducible first | exact HB.out | apply below_alloc | apply pw_below_drewN | apply below_drew1) | exact HB.out), by repeat (first | (with_reducible first | exact HK.out | apply Kept.alloc | apply Kept.drewN | apply Kept.drew) | exact HK.out)⟩
                · rw [if_neg c17] at H
                  have c17b0 : decide ((y130.length : Int) ≤ (wrap64 (x12_1 + (Int.tmod (wrap64 (rd l2 x13_1)) 3)))) = false := decide_eq_false c17
                  clear c17
                  obtain ⟨ji19, hji19⟩ : ∃ j_ : Int, (wrap64 (x12_1 + (Int.tmod (wrap64 (rd l2 x13_1)) 3))) = j_ := ⟨_, rfl⟩
                  replace H : (if 0 ≤ (ji19) then (if (ji19) < (y130.length : Int) then (if 0 ≤ (wrap64 (x13_1 + 1)) then (if (wrap64 (x13_1 + 1)) < (l2.length : Int) then (if a1.toList = ([] : List UInt8) then (shelfmarklaw10_dir.j2 kj7 x0_1 a1 l2 l3 a4 y130 ji19 x13_1 (rdOf ByteArray.empty y130 (ji19)) (wrap64 (1 + (Int.tmod (wrap64 (rd l2 (wrap64 (x13_1 + 1)))) 4))) (⟨#[]⟩ : ByteArray)) else (if a1.size + 1 ≤ 9223372036854775807 then (if (a1 ++ (⟨#[47]⟩ : ByteArray)).size + (rdOf ByteArray.empty y130 (ji19)).size ≤ 9223372036854775807 then (shelfmarklaw10_dir.j2 kj7 x0_1 a1 l2 l3 a4 y130 ji19 x13_1 ((a1 ++ (⟨#[47]⟩ : ByteArray)) ++ (rdOf ByteArray.empty y130 (ji19))) (wrap64 (1 + (Int.tmod (wrap64 (rd l2 (wrap64 (x13_1 + 1)))) 4))) (⟨#[]⟩ : ByteArray)) else (none)) else (none))) else (none)) else (none)) else (none)) else (none)) = some r := by first | (rw [hji19] at H; exact H) | (simp only [hji19] at H ⊢; exact H)
                  (try rw [hji19] at c17b0)
                  have hji19w : (IntKind.i64.wrap (x12_1 + (Int.tmod (wrap64 (rd l2 x13_1)) 3))) = ji19 := (i64_w _).trans hji19
                  by_cases c20 : 0 ≤ (ji19)
                  · rw [if_pos c20] at H
                    have c20b0 : decide (0 ≤ (ji19)) = true := decide_eq_true c20
                    clear c20
                    by_cases c21 : (ji19) < (y130.length : Int)
                    · rw [if_pos c21] at H
                      have c21b0 : decide ((ji19) < (y130.length : Int)) = true := decide_eq_true c21
                      clear c21
                      obtain ⟨ji22, hji22⟩ : ∃ j_ : Int, (wrap64 (x13_1 + 1)) = j_ := ⟨_, rfl⟩
                      replace H : (if 0 ≤ (ji22) then (if (ji22) < (l2.length : Int) then (if a1.toList = ([] : List UInt8) then (shelfmarklaw10_dir.j2 kj7 x0_1 a1 l2 l3 a4 y130 ji19 x13_1 (rdOf ByteArray.empty y130 (ji19)) (wrap64 (1 + (Int.tmod (wrap64 (rd l2 (ji22))) 4))) (⟨#[]⟩ : ByteArray)) else (if a1.size + 1 ≤ 9223372036854775807 then (if (a1 ++ (⟨#[47]⟩ : ByteArray)).size + (rdOf ByteArray.empty y130 (ji19)).size ≤ 9223372036854775807 then (shelfmarklaw10_dir.j2 kj7 x0_1 a1 l2 l3 a4 y130 ji19 x13_1 ((a1 ++ (⟨#[47]⟩ : ByteArray)) ++ (rdOf ByteArray.empty y130 (ji19))) (wrap64 (1 + (Int.tmod (wrap64 (rd l2 (ji22))) 4))) (⟨#[]⟩ : ByteArray)) else (none)) else (none))) else (none)) else (none)) = some r := by first | (rw [hji22] at H; exact H) | (simp only [hji22] at H ⊢; exact H)
                      have hji22w : (IntKind.i64.wrap (x13_1 + 1)) = ji22 := (i64_w _).trans hji22
                      by_cases c23 : 0 ≤ (ji22)
                      · rw [if_pos c23] at H
                        have c23b0 : decide (0 ≤ (ji22)) = true := decide_eq_true c23
                        clear c23
                        by_cases c24 : (ji22) < (l2.length : Int)
                        · rw [if_pos c24] at H
                          have c24b0 : decide ((ji22) < (l2.length : Int)) = true := decide_eq_true c24
                          clear c24
                          have HC25 := Aside0.mk H
                          clear H
                          have p133 : 0 ≤ (x13_1 : Int) := of_decide_eq_true (by first | (with_reducible assumption) | assumption)
                          have q133 : x13_1 < (l2.length : Int) := of_decide_eq_true (by first | (with_reducible assumption) | assumption)
                          obtain ⟨ad133, e133, hx133_0⟩ := Kd.at_int (Kd.C_kept_now HR2.out HK.out) x13_1 p133 q133
                          cases e133
                          replace p133 := eq_true p133
                          replace q133 := eq_true q133
                          obtain ⟨Ao26, co26, eo26⟩ := Kd.R_slice HO_11.out
                          subst eo26
                          try go_wp2
                          have n0_ := Aside0.mk (Kd.R_drew HO_0.out)
                          have n1_ := Aside0.mk (Kd.R_drew HO_11.out)
                          have n2_ := Aside0.mk (Kept.drew HK.out)
                          have n3_ := Aside0.mk (below_drew1 HB.out)
                          clear HO_0
                          clear HO_11
                          clear HK
                          clear HB
                          have HO_0 := n0_
                          have HO_11 := n1_
                          have HK := n2_
                          have HB := n3_
                          clear n0_ n1_ n2_ n3_
                          have p134 : 0 ≤ ((ji19) : Int) := of_decide_eq_true (by first | (with_reducible assumption) | assumption)
                          have q134 : (ji19) < (y130.length : Int) := of_decide_eq_true (by first | (with_reducible assumption) | assumption)
                          (try (obtain ⟨A_, c_, e_⟩ := own_slice (Kd.own_of_R HO_11.out); cases e_))
                          obtain ⟨ad134, e134, hx134_0⟩ := Kd.at_string (Kd.R_reads' HO_11.out).2.2 (ji19) p134 q134
                          cases e134
                          replace p134 := eq_true p134
                          replace q134 := eq_true q134
                          have p135 : 0 ≤ ((ji22) : Int) := of_decide_eq_true (by first | (with_reducible assumption) | assumption)
                          have q135 : (ji22) < (l2.length : Int) := of_decide_eq_true (by first | (with_reducible assumption) | assumption)
                          obtain ⟨ad135, e135, hx135_0⟩ := Kd.at_int (Kd.C_kept_now HR2.out HK.out) (ji22) p135 q135
                          have hw135_0 := hx135_0
                          obtain rfl : ad133 = ad135 := (by injection e135)
                          replace p135 := eq_true p135
                          replace q135 := eq_true q135
                          refine start_ (n := 15) (S := fun w' => w'.cell? (ad134.add ((ji19)).toNat) = some (.string (rdOf ByteArray.empty y130 (ji19))) ∧ w'.cell? (ad133.add ((ji22)).toNat) = some (.int .u8 (rd l2 (ji22)))) (ds := []) #[false, false, false, false, false, false, false, false, false, false, false, false, false, false, false] (by kernel_rfl) rfl rfl ⟨hx134_0, (Kd.foot_int (HR2.out _ (by repeat (first | exact HK.out | apply Kept.alloc | apply Kept.drewN | apply Kept.drew | refine Kept.setCell ?_ (.inr GW136.out) _ | refine Kept.setCell ?_ (.inr GW136.out) _ | refine Kept.setCell ?_ (.inr GW136.out) _))) (ji22) (of_eq_true p135) (of_eq_true q135))⟩ (fun hHeld => ?_); refine with_tabW shelfmarklaw10_dir.tab8 shelfmarklaw10_dir.bits8 (fun HT_ HW_ => ?_)
                          generalize wc.drew = w27 at HO_0 HO_11 HK HB hx134_0 hx135_0 hHeld ⊢
                          refine pure_ (i := 0) (N := some 47) (v := ?_) (a' := ?_) #[true, false, false, false, false, false, false, false, false, false, false, false, false, false, false] rfl rfl (any_of HT_.out (by kernel_rfl)) (fun _ _ _ h => h) (Or.inl ⟨by rfl, ?_⟩) ?_ ?_
                          rotate_left
                          · intro w'
                            go_simp
                            with_reducible rfl
                          rotate_left
                          · simp only [Act.put, List.setIfInBounds_toArray, List.set_cons_zero, List.set_cons_succ, i64_w, i32_w]
                            rfl
                          refine pure_ (i := 1) (N := some 48) (v := ?_) (a' := ?_) #[true, true, false, false, false, false, false, false, false, false, false, false, false, false, false] rfl rfl (any_of HT_.out (by kernel_rfl)) (fun _ _ _ h => h) (Or.inl ⟨by rfl, ?_⟩) ?_ ?_
                          rotate_left
                          · intro w'
                            go_simp
                            with_reducible rfl
                          rotate_left
                          · simp only [Act.put, List.setIfInBounds_toArray, List.set_cons_zero, List.set_cons_succ, i64_w, i32_w]
                            rfl
                          refine pure_ (i := 2) (N := some 49) (v := ?_) (a' := ?_) #[true, true, true, false, false, false, false, false, false, false, false, false, false, false, false] rfl rfl (any_of HT_.out (by kernel_rfl)) (fun _ _ _ h => h) (Or.inl ⟨by rfl, ?_⟩) ?_ ?_
                          rotate_left
                          · intro w'
                            go_simp
                            with_reducible rfl
                          rotate_left
                          · simp only [Act.put, List.setIfInBounds_toArray, List.set_cons_zero, List.set_cons_succ, i64_w, i32_w]
                            rfl
                          refine pure_ (i := 4) (N := some 51) (v := ?_) (a' := ?_) #[true, true, true, false, true, false, false, false, false, false, false, false, false, false, false] rfl rfl (any_of HT_.out (by kernel_rfl)) (fun _ _ _ h => h) (Or.inl ⟨by rfl, ?_⟩) ?_ ?_
                          rotate_left
                          · intro w'
                            go_simp
                            with_reducible rfl
                          rotate_left
                          · simp only [Act.put, List.setIfInBounds_toArray, List.set_cons_zero, List.set_cons_succ, i64_w, i32_w]
                            rfl
                          refine pure_ (i := 5) (N := some 52) (v := ?_) (a' := ?_) #[true, true, true, false, true, true, false, false, false, false, false, false, false, false, false] rfl rfl (any_of HT_.out (by kernel_rfl)) (fun _ _ _ h => h) (Or.inl ⟨by rfl, ?_⟩) ?_ ?_
                          rotate_left
                          · intro w'
                            go_simp
                            with_reducible rfl
                          rotate_left
                          · simp only [Act.put, List.setIfInBounds_toArray, List.set_cons_zero, List.set_cons_succ, i64_w, i32_w]
                            rfl
                          refine pure_ (i := 6) (N := some 53) (v := ?_) (a' := ?_) #[true, true, true, false, true, true, true, false, false, false, false, false, false, false, false] rfl rfl (any_of HT_.out (by kernel_rfl)) (fun _ _ _ h => h) (Or.inl ⟨by rfl, ?_⟩) ?_ ?_
                          rotate_left
                          · intro w'
                            go_simp
                            with_reducible rfl
                          rotate_left
                          · simp only [Act.put, List.setIfInBounds_toArray, List.set_cons_zero, List.set_cons_succ, i64_w, i32_w]
                            rfl
                          refine pure_ (i := 7) (N := some 54) (v := ?_) (a' := ?_) #[true, true, true, false, true, true, true, true, false, false, false, false, false, false, false] rfl rfl (any_of HT_.out (by kernel_rfl)) (fun _ _ _ h => h) (Or.inl ⟨by rfl, ?_⟩) ?_ ?_
                          rotate_left
                          · intro w'
                            go_simp
                            with_reducible rfl
                          rotate_left
                          · simp only [Act.put, List.setIfInBounds_toArray, List.set_cons_zero, List.set_cons_succ, i64_w, i32_w]
                            rfl
                          refine take_ (i := 3) (N := some 50) (v := ?_) (a' := ?_) #[true, true, true, true, true, true, true, true, false, false, false, false, false, false, false] rfl rfl (take_ofW HT_.out HW_.out (by kernel_rfl)) (fun _ _ _ h => h) (Or.inl ⟨by rfl, ?_⟩) hHeld ?_ ?_
                          rotate_left
                          · rintro w' ⟨s0, s1⟩
                            go_simp
                            with_reducible rfl
                          rotate_left
                          · simp only [Act.put, List.setIfInBounds_toArray, List.set_cons_zero, List.set_cons_succ, i64_w, i32_w]
                            rfl
                          refine take_ (i := 8) (N := some 55) (v := ?_) (a' := ?_) #[true, true, true, true, true, true, true, true, true, false, false, false, false, false, false] rfl rfl (take_ofW HT_.out HW_.out (by kernel_rfl)) (fun _ _ _ h => h) (Or.inl ⟨by rfl, ?_⟩) hHeld ?_ ?_
                          rotate_left
                          · rintro w' ⟨s0, s1⟩
                            go_simp
                            with_reducible rfl
                          rotate_left
                          · simp only [Act.put, List.setIfInBounds_toArray, List.set_cons_zero, List.set_cons_succ, i64_w, i32_w]
                            rfl
                          refine pure_ (i := 9) (N := some 56) (v := ?_) (a' := ?_) #[true, true, true, true, true, true, true, true, true, true, false, false, false, false, false] rfl rfl (any_of HT_.out (by kernel_rfl)) (fun _ _ _ h => h) (Or.inl ⟨by rfl, ?_⟩) ?_ ?_
                          rotate_left
                          · intro w'
                            go_simp
                            with_reducible rfl
                          rotate_left
                          · simp only [Act.put, List.setIfInBounds_toArray, List.set_cons_zero, List.set_cons_succ, i64_w, i32_w]
                            rfl
                          refine pure_ (i := 10) (N := some 57) (v := ?_) (a' := ?_) #[true, true, true, true, true, true, true, true, true, true, true, false, false, false, false] rfl rfl (any_of HT_.out (by kernel_rfl)) (fun _ _ _ h => h) (Or.inl ⟨by rfl, ?_⟩) ?_ ?_
                          rotate_left
                          · intro w'
                            go_simp
                            with_reducible rfl
                          rotate_left
                          · simp only [Act.put, List.setIfInBounds_toArray, List.set_cons_zero, List.set_cons_succ, i64_w, i32_w]
                            rfl
                          refine pure_ (i := 11) (N := some 58) (v := ?_) (a' := ?_) #[true, true, true, true, true, true, true, true, true, true, true, true, false, false, false] rfl rfl (any_of HT_.out (by kernel_rfl)) (fun _ _ _ h => h) (Or.inl ⟨by rfl, ?_⟩) ?_ ?_
                          rotate_left
                          · intro w'
                            go_simp
                            with_reducible rfl
                          rotate_left
                          · simp only [Act.put, List.setIfInBounds_toArray, List.set_cons_zero, List.set_cons_succ, i64_w, i32_w]
                            rfl
                          refine pure_ (i := 12) (N := some 59) (v := ?_) (a' := ?_) #[true, true, true, true, true, true, true, true, true, true, true, true, true, false, false] rfl rfl (any_of HT_.out (by kernel_rfl)) (fun _ _ _ h => h) (Or.inl ⟨by rfl, ?_⟩) ?_ ?_
                          rotate_left
                          · intro w'
                            go_simp
                            with_reducible rfl
                          rotate_left
                          · simp only [Act.put, List.setIfInBounds_toArray, List.set_cons_zero, List.set_cons_succ, i64_w, i32_w]
                            rfl
                          refine one_ (i := 13) (N := some 14) #[true, true, true, true, true, true, true, true, true, true, true, true, true, true, false] rfl rfl (one_of HT_.out (by kernel_rfl)) (by decide) (fun K hK => ?_)
                          refine box_step ?hg (N := 14) ?hd (cs := #[.string (⟨#[]⟩ : ByteArray), .int .i64 0, .string (⟨#[]⟩ : ByteArray)]) (t := 37) ?hr ?_; (case hd => rfl); (case hg => rfl); (case hr => first | (go_simp; done) | (go_simp; rfl))
                          intro gb136 hg w28 hbox hb
                          have HS0_ := (hb.cell (World.block_lt_of_cell? _ _ (hHeld.1))).trans (hHeld.1)
                          have n0_ := Aside0.mk (Kd.R_below (Kd.R_elderB (by (with_reducible repeat (first | apply Kd.R_alloc | apply Kd.R_drewN | apply Kd.R_drew)); exact HO_0.out) gb136 (Nat.le_of_eq hg.symm)) hb)
                          have n1_ := Aside0.mk (Kd.R_below (by (with_reducible repeat (first | apply Kd.R_alloc | apply Kd.R_drewN | apply Kd.R_drew)); exact HO_11.out) hb)
                          have n2_ := Aside0.mk (Kept.below (S := (fun k_ => P0_ k_)) (by repeat (first | (with_reducible first | exact HK.out | apply Kept.alloc | apply Kept.drewN | apply Kept.drew) | exact HK.out)) hb)
                          have n3_ := Aside0.mk (below_step (by repeat (first | (with_reducible first | exact HB.out | apply below_alloc | apply pw_below_drewN | apply below_drew1) | exact HB.out)) hb)
                          have n4_ := Aside0.mk (hbox)
                          have n5_ := Aside0.mk ((by rw [hg]; exact (by first | exact HK.out.1 | exact (show Kept w _ (fun k_ => P0_ k_) from by repeat (first | (with_reducible first | exact HK.out | apply Kept.alloc | apply Kept.drewN | apply Kept.drew) | exact HK.out)).1) : w.heap.size ≤ gb136))
                          have n6_ := Aside0.mk ((by rw [hg]; exact (below_size (by repeat (first | (with_reducible first | exact HB.out | apply below_alloc | apply pw_below_drewN | apply below_drew1) | exact HB.out))) : w0.heap.size ≤ gb136))
                          clear HO_0
                          clear HO_11
                          clear HK
                          clear HB
                          have HO_0 := n0_
                          have HO_11 := n1_
                          have HK := n2_
                          have HB := n3_
                          have BK136 := n4_
                          have GW136 := n5_
                          have GE136 := n6_
                          clear n0_ n1_ n2_ n3_ n4_ n5_ n6_
                          clear hb hbox hg
                          refine hK.out _ _ ⟨HS0_, (Kd.foot_int (HR2.out _ (by repeat (first | exact HK.out | apply Kept.alloc | apply Kept.drewN | apply Kept.drew | refine Kept.setCell ?_ (.inr GW136.out) _ | refine Kept.setCell ?_ (.inr GW136.out) _ | refine Kept.setCell ?_ (.inr GW136.out) _))) (ji22) (of_eq_true p135) (of_eq_true q135))⟩ (fun hHeld => ?_)
                          clear hK K
                          refine norm_ (a' := ?_) ?_ ?_
                          rotate_left
                          · show Act.put _ (some 14) _ = _
                            simp only [Act.put, List.setIfInBounds_toArray, List.set_cons_zero, List.set_cons_succ, i64_w, i32_w]
                            rfl
                          refine one_ (i := 14) (N := none) #[true, true, true, true, true, true, true, true, true, true, true, true, true, true, true] rfl rfl (one_of HT_.out (by kernel_rfl)) (by decide) (fun K hK => ?_)
                          have hs29 : w28.cell? ⟨gb136, 0, none⟩ = some (.string (⟨#[]⟩ : ByteArray)) := (blk_cell BK136.out 0).trans rfl
                          have hfs29 := blk_frozen BK136.out 0
                          have hs30 : w28.cell? ⟨gb136, 1, none⟩ = some (.int .i64 0) := (blk_cell BK136.out 1).trans rfl
                          have hfs30 := blk_frozen BK136.out 1
                          have hs31 : w28.cell? ⟨gb136, 2, none⟩ = some (.string (⟨#[]⟩ : ByteArray)) := (blk_cell BK136.out 2).trans rfl
                          have hfs31 := blk_frozen BK136.out 2
                          refine skip_ (w1 := ?_) (by rfl) rfl ?_ ?_
                          rotate_left
                          · go_simp
                            rfl
                          refine hK.out _ _ ⟨((cell_far (p := ⟨gb136, _, none⟩) (by first | exact Kd.own_blk (Kd.R_ne HO_11.out BK136.out (by decide)) | (rw [add_block]; exact Kd.own_blk (Kd.R_ne HO_11.out BK136.out (by decide))) | (show (Addr.add _ _).block ≠ _; rw [add_block]; exact Kd.own_blk (Kd.R_ne HO_11.out BK136.out (by decide))) | (dsimp only; exact Kd.own_blk (Kd.R_ne HO_11.out BK136.out (by decide)))) _).trans (((cell_far (p := ⟨gb136, _, none⟩) (by first | exact Kd.own_blk (Kd.R_ne HO_11.out BK136.out (by decide)) | (rw [add_block]; exact Kd.own_blk (Kd.R_ne HO_11.out BK136.out (by decide))) | (show (Addr.add _ _).block ≠ _; rw [add_block]; exact Kd.own_blk (Kd.R_ne HO_11.out BK136.out (by decide))) | (dsimp only; exact Kd.own_blk (Kd.R_ne HO_11.out BK136.out (by decide)))) _).trans (((cell_far (p := ⟨gb136, _, none⟩) (by first | exact Kd.own_blk (Kd.R_ne HO_11.out BK136.out (by decide)) | (rw [add_block]; exact Kd.own_blk (Kd.R_ne HO_11.out BK136.out (by decide))) | (show (Addr.add _ _).block ≠ _; rw [add_block]; exact Kd.own_blk (Kd.R_ne HO_11.out BK136.out (by decide))) | (dsimp only; exact Kd.own_blk (Kd.R_ne HO_11.out BK136.out (by decide)))) _).trans (hHeld.1)))))), (Kd.foot_int (HR2.out _ (by repeat (first | exact HK.out | apply Kept.alloc | apply Kept.drewN | apply Kept.drew | refine Kept.setCell ?_ (.inr GW136.out) _ | refine Kept.setCell ?_ (.inr GW136.out) _ | refine Kept.setCell ?_ (.inr GW136.out) _))) (ji22) (of_eq_true p135) (of_eq_true q135))⟩ (fun hHeld => ?_)
                          clear hK K
                          refine done_ (done_of HT_.out (by kernel_rfl)) ?_
                          go_upto_if 61 with (fail)
                          go_cut [] (fun wc => ∃ (kq : Nat) (x137000_24 : ByteArray), Aside0 (shelfmarklaw10_dir.j2 kq x0_1 a1 l2 l3 a4 y130 ji19 x13_1 x137000_24 (wrap64 (1 + (Int.tmod (wrap64 (rd l2 (ji22))) 4))) (⟨#[]⟩ : ByteArray) = some r) ∧ Aside0 (kq ≤ kj7) ∧ Aside0 (Kd.R k37 37 wc w0.heap.size (fun k_ => (P0_ k_ ∨ w.heap.size ≤ k_) ∧ k_ ≠ gb136) u0 x0_1) ∧ Aside0 (Kd.R Kd.string 9 wc w0.heap.size (fun k_ => (P0_ k_ ∨ w.heap.size ≤ k_)) (.slice (some ad134) y130.length co26) y130) ∧ Aside0 (wc.heap[gb136]? = some (.cells #[.string x137000_24, .int .i64 (wrap64 (1 + (Int.tmod (wrap64 (rd l2 (ji22))) 4))), .string (⟨#[]⟩ : ByteArray)] 37 (0, 0))) ∧ Aside0 (Kept w wc (fun k_ => P0_ k_)) ∧ Aside0 (Below w0.heap.size w0 wc))
                          case first =>
                            have H := HC25.out
                            clear HC25
                            by_cases c32 : a1.toList = ([] : List UInt8)
                            · rw [if_pos c32] at H
                              have c32b0 : (a1.toList == ([] : List UInt8)) = true := beq_iff_eq.mpr c32
                              (try have c32b0i : a1.toList.isEmpty = true := List.isEmpty_iff.2 (beq_iff_eq.1 c32b0))
                              have c32b1 : (a1.toList != ([] : List UInt8)) = false := bne_eq_false_iff_eq.mpr c32
                              clear c32
                              (first | rw [c32b0] | rw [c32b0i] | (simp only [i64_w, i32_w]; rw [c32b0]) | skip)
                              have H' := Aside0.mk H
                              clear H
                              go_wp2
                              go_meet
                              case rel => exact ⟨_, (rdOf ByteArray.empty y130 (ji19)), H', ⟨by have := HK1.out; have := HJ7.out; first | omega | exact Nat.le_refl _⟩, ⟨by (with_reducible repeat (first | apply Kd.R_alloc | apply Kd.R_drewN | apply Kd.R_drew)); exact Kd.R_mono (Kd.R_far (p := ⟨gb136, 2, none⟩) (Kd.R_far (p := ⟨gb136, 1, none⟩) (Kd.R_far (p := ⟨gb136, 0, none⟩) (Kd.R_mono HO_0.out (fun k_ hk => (⟨hk, hk.2⟩ : _ ∧ k_ ≠ gb136))) (fun _ hk => hk.2) (.string (rdOf ByteArray.empty y130 (ji19)))) (fun _ hk => hk.2) (.int .i64 (wrap64 (1 + (Int.tmod (wrap64 (rd l2 (ji22))) 4))))) (fun _ hk => hk.2) (.string (⟨#[]⟩ : ByteArray))) (fun _ hk => ⟨hk.1.1, hk.1.2⟩)⟩, ⟨by (with_reducible repeat (first | apply Kd.R_alloc | apply Kd.R_drewN | apply Kd.R_drew)); exact Kd.R_mono (Kd.R_far (p := ⟨gb136, 2, none⟩) (Kd.R_far (p := ⟨gb136, 1, none⟩) (Kd.R_far (p := ⟨gb136, 0, none⟩) (Kd.R_types HO_11.out BK136.out (by decide)) (fun _ hk => hk.2) (.string (rdOf ByteArray.empty y130 (ji19)))) (fun _ hk => hk.2) (.int .i64 (wrap64 (1 + (Int.tmod (wrap64 (rd l2 (ji22))) 4))))) (fun _ hk => hk.2) (.string (⟨#[]⟩ : ByteArray))) (fun _ hk => hk.1)⟩, ⟨by (with_reducible repeat (first | refine blk_drewN ?_ _ | refine blk_drew ?_ | refine blk_alloc ?_ _)); refine blk_put (cs := #[.string (rdOf ByteArray.empty y130 (ji19)), .int .i64 (wrap64 (1 + (Int.tmod (wrap64 (rd l2 (ji22))) 4))), .string (⟨#[]⟩ : ByteArray)]) ?_ 2 _ rfl; (with_reducible repeat (first | refine blk_drewN ?_ _ | refine blk_drew ?_ | refine blk_alloc ?_ _)); refine blk_put (cs := #[.string (rdOf ByteArray.empty y130 (ji19)), .int .i64 0, .string (⟨#[]⟩ : ByteArray)]) ?_ 1 _ rfl; (with_reducible repeat (first | refine blk_drewN ?_ _ | refine blk_drew ?_ | refine blk_alloc ?_ _)); refine blk_put (cs := #[.string (⟨#[]⟩ : ByteArray), .int .i64 0, .string (⟨#[]⟩ : ByteArray)]) ?_ 0 _ rfl; (with_reducible repeat (first | refine blk_drewN ?_ _ | refine blk_drew ?_ | refine blk_alloc ?_ _)); exact BK136.out⟩, ⟨by repeat (first | (with_reducible first | exact HK.out | apply Kept.alloc | apply Kept.drewN | apply Kept.drew | refine Kept.setCell ?_ (.inr GW136.out) _) | exact HK.out)⟩, ⟨by repeat (first | (with_reducible first | exact HB.out | apply below_alloc | apply pw_below_drewN | apply below_drew1 | refine below_set ?_ GE136.out) | exact HB.out)⟩⟩
                            · rw [if_neg c32] at H
                              have c32b0 : (a1.toList == ([] : List UInt8)) = false := beq_eq_false_iff_ne.mpr c32
                              (try have c32b0i : a1.toList.isEmpty = false := List.isEmpty_eq_false_iff.2 (beq_eq_false_iff_ne.1 c32b0))
                              have c32b1 : (a1.toList != ([] : List UInt8)) = true := bne_iff_ne.mpr c32
                              (first | rw [c32b0] | rw [c32b0i] | (simp only [i64_w, i32_w]; rw [c32b0]) | skip)
                              by_cases c33 : a1.size + 1 ≤ 9223372036854775807
                              · rw [if_pos c33] at H
                                have c33b0 := eq_true c33
                                have c33b1 : decide (a1.size + 1 ≤ 9223372036854775807) = true := decide_eq_true c33
                                try have c33b2 : (9223372036854775807 < a1.size + 1) = False := eq_false (Nat.not_lt.2 c33)
                                by_cases c34 : (a1 ++ (⟨#[47]⟩ : ByteArray)).size + (rdOf ByteArray.empty y130 (ji19)).size ≤ 9223372036854775807
                                · rw [if_pos c34] at H
                                  have c34b0 := eq_true c34
                                  have c34b1 : decide ((a1 ++ (⟨#[47]⟩ : ByteArray)).size + (rdOf ByteArray.empty y130 (ji19)).size ≤ 9223372036854775807) = true := decide_eq_true c34
                                  try have c34b2 : (9223372036854775807 < (a1 ++ (⟨#[47]⟩ : ByteArray)).size + (rdOf ByteArray.empty y130 (ji19)).size) = False := eq_false (Nat.not_lt.2 c34)
                                  (try (have c34b2_l := c34b2; simp only [ByteArray.size_append] at c34b2_l))
                                  have H' := Aside0.mk H
                                  clear H
                                  have p137 : 0 ≤ ((ji19) : Int) := of_decide_eq_true (by first | (with_reducible assumption) | assumption)
                                  have q137 : (ji19) < (y130.length : Int) := of_decide_eq_true (by first | (with_reducible assumption) | assumption)
                                  (try (obtain ⟨A_, c_, e_⟩ := own_slice (Kd.own_of_R HO_11.out); cases e_))
                                  obtain ⟨ad137, e137, hx137_0⟩ := Kd.at_string (Kd.R_reads' HO_11.out).2.2 (ji19) p137 q137
                                  obtain rfl : ad134 = ad137 := (by injection e137)
                                  have hn137_0 : ad134.block ≠ gb136 := Kd.own_blk (Kd.R_ne HO_11.out BK136.out (by decide))
                                  have hn137_1 : ad134.block ≠ gb136 := Kd.own_blk (Kd.R_ne HO_11.out BK136.out (by decide))
                                  have hn137_2 : ad134.block ≠ gb136 := Kd.own_blk (Kd.R_ne HO_11.out BK136.out (by decide))
                                  replace hx137_0 := (cell_far (p := ⟨gb136, 0, none⟩) (by first | (rw [add_block]; exact hn137_0) | (show (Addr.add _ _).block ≠ _; rw [add_block]; exact hn137_0) | exact hn137_0) (.string (rdOf ByteArray.empty y130 (ji19)))).trans hx137_0
                                  replace hx137_0 := (cell_far (p := ⟨gb136, 1, none⟩) (by first | (rw [add_block]; exact hn137_1) | (show (Addr.add _ _).block ≠ _; rw [add_block]; exact hn137_1) | exact hn137_1) (.int .i64 (wrap64 (1 + (Int.tmod (wrap64 (rd l2 (ji22))) 4))))).trans hx137_0
                                  replace hx137_0 := (cell_far (p := ⟨gb136, 2, none⟩) (by first | (rw [add_block]; exact hn137_2) | (show (Addr.add _ _).block ≠ _; rw [add_block]; exact hn137_2) | exact hn137_2) (.string (⟨#[]⟩ : ByteArray))).trans hx137_0
                                  clear hn137_0
                                  clear hn137_1
                                  clear hn137_2
                                  replace p137 := eq_true p137
                                  replace q137 := eq_true q137
                                  have hcz35_0 : w28.cell? ⟨gb136, 0, none⟩ = some (.string (⟨#[]⟩ : ByteArray)) := (blk_cell BK136.out 0).trans rfl
                                  have hcz35_1 : w28.cell? ⟨gb136, 1, none⟩ = some (.int .i64 0) := (blk_cell BK136.out 1).trans rfl
                                  have hcz35_2 : w28.cell? ⟨gb136, 2, none⟩ = some (.string (⟨#[]⟩ : ByteArray)) := (blk_cell BK136.out 2).trans rfl
                                  have hfz35_0 := blk_frozen BK136.out 0
                                  have hfz35_1 := blk_frozen BK136.out 1
                                  have hfz35_2 := blk_frozen BK136.out 2
                                  go_wp2
                                  go_meet
                                  case rel => exact ⟨_, ((a1 ++ (⟨#[47]⟩ : ByteArray)) ++ (rdOf ByteArray.empty y130 (ji19))), H', ⟨by have := HK1.out; have := HJ7.out; first | omega | exact Nat.le_refl _⟩, ⟨by (with_reducible repeat (first | apply Kd.R_alloc | apply Kd.R_drewN | apply Kd.R_drew)); exact Kd.R_mono (Kd.R_far (p := ⟨gb136, 0, none⟩) (Kd.R_far (p := ⟨gb136, 2, none⟩) (Kd.R_far (p := ⟨gb136, 1, none⟩) (Kd.R_far (p := ⟨gb136, 0, none⟩) (Kd.R_mono HO_0.out (fun k_ hk => (⟨hk, hk.2⟩ : _ ∧ k_ ≠ gb136))) (fun _ hk => hk.2) (.string (rdOf ByteArray.empty y130 (ji19)))) (fun _ hk => hk.2) (.int .i64 (wrap64 (1 + (Int.tmod (wrap64 (rd l2 (ji22))) 4))))) (fun _ hk => hk.2) (.string (⟨#[]⟩ : ByteArray))) (fun _ hk => hk.2) (.string ((a1 ++ (⟨#[47]⟩ : ByteArray)) ++ (rdOf ByteArray.empty y130 (ji19))))) (fun _ hk => ⟨hk.1.1, hk.1.2⟩)⟩, ⟨by (with_reducible repeat (first | apply Kd.R_alloc | apply Kd.R_drewN | apply Kd.R_drew)); exact Kd.R_mono (Kd.R_far (p := ⟨gb136, 0, none⟩) (Kd.R_far (p := ⟨gb136, 2, none⟩) (Kd.R_far (p := ⟨gb136, 1, none⟩) (Kd.R_far (p := ⟨gb136, 0, none⟩) (Kd.R_types HO_11.out BK136.out (by decide)) (fun _ hk => hk.2) (.string (rdOf ByteArray.empty y130 (ji19)))) (fun _ hk => hk.2) (.int .i64 (wrap64 (1 + (Int.tmod (wrap64 (rd l2 (ji22))) 4))))) (fun _ hk => hk.2) (.string (⟨#[]⟩ : ByteArray))) (fun _ hk => hk.2) (.string ((a1 ++ (⟨#[47]⟩ : ByteArray)) ++ (rdOf ByteArray.empty y130 (ji19))))) (fun _ hk => hk.1)⟩, ⟨by (with_reducible repeat (first | refine blk_drewN ?_ _ | refine blk_drew ?_ | refine blk_alloc ?_ _)); refine blk_put (cs := #[.string (rdOf ByteArray.empty y130 (ji19)), .int .i64 (wrap64 (1 + (Int.tmod (wrap64 (rd l2 (ji22))) 4))), .string (⟨#[]⟩ : ByteArray)]) ?_ 0 _ rfl; (with_reducible repeat (first | refine blk_drewN ?_ _ | refine blk_drew ?_ | refine blk_alloc ?_ _)); refine blk_put (cs := #[.string (rdOf ByteArray.empty y130 (ji19)), .int .i64 (wrap64 (1 + (Int.tmod (wrap64 (rd l2 (ji22))) 4))), .string (⟨#[]⟩ : ByteArray)]) ?_ 2 _ rfl; (with_reducible repeat (first | refine blk_drewN ?_ _ | refine blk_drew ?_ | refine blk_alloc ?_ _)); refine blk_put (cs := #[.string (rdOf ByteArray.empty y130 (ji19)), .int .i64 0, .string (⟨#[]⟩ : ByteArray)]) ?_ 1 _ rfl; (with_reducible repeat (first | refine blk_drewN ?_ _ | refine blk_drew ?_ | refine blk_alloc ?_ _)); refine blk_put (cs := #[.string (⟨#[]⟩ : ByteArray), .int .i64 0, .string (⟨#[]⟩ : ByteArray)]) ?_ 0 _ rfl; (with_reducible repeat (first | refine blk_drewN ?_ _ | refine blk_drew ?_ | refine blk_alloc ?_ _)); exact BK136.out⟩, ⟨by repeat (first | (with_reducible first | exact HK.out | apply Kept.alloc | apply Kept.drewN | apply Kept.drew | refine Kept.setCell ?_ (.inr GW136.out) _) | exact HK.out)⟩, ⟨by repeat (first | (with_reducible first | exact HB.out | apply below_alloc | apply pw_below_drewN | apply below_drew1 | refine below_set ?_ GE136.out) | exact HB.out)⟩⟩
                                · rw [if_neg c34] at H
                                  exact absurd H (by simp)
                              · rw [if_neg c33] at H
                                exact absurd H (by simp)
                          case rest =>
                            clear HC25
                            try clear c1
                            try clear p1
                            try clear q1
                            try clear hx1
                            try clear c2
                            try clear p2
                            try clear c3
                            try clear p6
                            try clear c9
                            try clear c9b0
                            try clear c10
                            try clear c10b0
                            try clear p13
                            try clear q13
                            try clear hx13
                            try clear c14
                            try clear c15
                            try clear c15b0
                            try clear c16
                            try clear c16b0
                            try clear c17
                            try clear c17b0
                            try clear c20
                            try clear c20b0
                            try clear c21
                            try clear c21b0
                            try clear c23
                            try clear c23b0
                            try clear c24
                            try clear c24b0
                            try clear c32
                            try clear c32b0
                            try clear c32b1
                            try clear c33
                            try clear c33b0
                            try clear c33b1
                            try clear c33b2
                            try clear c34
                            try clear c34b0
                            try clear c34b1
                            try clear c34b2
                            try clear hcz35_0
                            try clear hcz35_1
                            try clear hcz35_2
                            try clear hfz35_0
                            try clear hfz35_1
                            try clear hfz35_2
                            try clear hx133_0
                            try clear hx134_0
                            try clear hx135_0
                            try clear hx137_0
                            try clear p133
                            try clear p134
                            try clear p135
                            try clear p137
                            try clear p2
                            try clear p6
                            try clear q133
                            try clear q134
                            try clear q135
                            try clear q137
                            obtain ⟨kq, x137000_24, HA, HJ24, HO_0, HO_11, BK136, HK, HB⟩ := hcut
                            cases kq with
                            | zero => exact absurd HA.out (by simp [shelfmarklaw10_dir.j2])
                            | succ kj24 =>
                              have H := HA.out
                              clear HA
                              simp only [shelfmarklaw10_dir.j2] at H
                              have HC36 := Aside0.mk H
                              clear H
                              have hcz37_0 : wc.cell? ⟨gb136, 0, none⟩ = some (.string x137000_24) := (blk_cell BK136.out 0).trans rfl
                              have hcz37_1 : wc.cell? ⟨gb136, 1, none⟩ = some (.int .i64 (wrap64 (1 + (Int.tmod (wrap64 (rd l2 (ji22))) 4)))) := (blk_cell BK136.out 1).trans rfl
                              have hcz37_2 : wc.cell? ⟨gb136, 2, none⟩ = some (.string (⟨#[]⟩ : ByteArray)) := (blk_cell BK136.out 2).trans rfl
                              have hfz37_0 := blk_frozen BK136.out 0
                              have hfz37_1 := blk_frozen BK136.out 1
                              have hfz37_2 := blk_frozen BK136.out 2
                              go_upto_block 2 with (fail)
                              go_cut [] (fun wc => ∃ (kq : Nat) (x137002_35 : ByteArray), Aside0 (shelfmarklaw10_dir.j4 kq x0_1 a1 l2 l3 a4 y130 (wrap64 (ji19 + 1)) x13_1 x137000_24 (wrap64 (1 + (Int.tmod (wrap64 (rd l2 (ji22))) 4))) x137002_35 = some r) ∧ Aside0 (kq ≤ kj24) ∧ Aside0 (Kd.R k37 37 wc w0.heap.size (fun k_ => (P0_ k_ ∨ w.heap.size ≤ k_) ∧ k_ ≠ gb136) u0 x0_1) ∧ Aside0 (Kd.R Kd.string 9 wc w0.heap.size (fun k_ => (P0_ k_ ∨ w.heap.size ≤ k_)) (.slice (some ad134) y130.length co26) y130) ∧ Aside0 (wc.heap[gb136]? = some (.cells #[.string x137000_24, .int .i64 (wrap64 (1 + (Int.tmod (wrap64 (rd l2 (ji22))) 4))), .string x137002_35] 37 (0, 0))) ∧ Aside0 (Kept w wc (fun k_ => P0_ k_)) ∧ Aside0 (Below w0.heap.size w0 wc))
                              case first =>
                                have H := HC36.out
                                clear HC36
                                have HC38 := Aside0.mk H
                                clear H
                                go_upto_if 74 with (fail)
                                go_cut [74] (fun v74 wc => ∃ (kq : Nat) (x74_37 : Bool), v74 = .bool x74_37 ∧ Aside0 (shelfmarklaw10_dir.j3 kq x0_1 a1 l2 l3 a4 y130 (wrap64 (ji19 + 1)) x13_1 (wrap64 (1 + (Int.tmod (wrap64 (rd l2 (ji22))) 4))) x74_37 x137000_24 (wrap64 (1 + (Int.tmod (wrap64 (rd l2 (ji22))) 4))) (⟨#[]⟩ : ByteArray) = some r) ∧ Aside0 (kq ≤ kj24) ∧ Aside0 (Kd.R k37 37 wc w0.heap.size (fun k_ => (P0_ k_ ∨ w.heap.size ≤ k_) ∧ k_ ≠ gb136) u0 x0_1) ∧ Aside0 (Kd.R Kd.string 9 wc w0.heap.size (fun k_ => (P0_ k_ ∨ w.heap.size ≤ k_)) (.slice (some ad134) y130.length co26) y130) ∧ Aside0 (wc.heap[gb136]? = some (.cells #[.string x137000_24, .int .i64 (wrap64 (1 + (Int.tmod (wrap64 (rd l2 (ji22))) 4))), .string (⟨#[]⟩ : ByteArray)] 37 (0, 0))) ∧ Aside0 (Kept w wc (fun k_ => P0_ k_)) ∧ Aside0 (Below w0.heap.size w0 wc))
                                case first =>
                                  have H := HC38.out
                                  clear HC38
                                  by_cases c39 : (wrap64 (1 + (Int.tmod (wrap64 (rd l2 (ji22))) 4))) = 1
                                  · rw [if_pos c39] at H
                                    have c39b0 : ((wrap64 (1 + (Int.tmod (wrap64 (rd l2 (ji22))) 4))) == 1) = true := beq_iff_eq.mpr c39
                                    have c39b1 : ((wrap64 (1 + (Int.tmod (wrap64 (rd l2 (ji22))) 4))) != 1) = false := bne_eq_false_iff_eq.mpr c39
                                    clear c39
                                    (first | rw [c39b0] | (simp only [i64_w, i32_w]; rw [c39b0]) | skip)
                                    have H' := Aside0.mk H
                                    clear H
                                    go_wp2
                                    go_meet
                                    case rel => exact ⟨_, (((wrap64 (1 + (Int.tmod (wrap64 (rd l2 (ji22))) 4))) == 1)), (by first | rfl | (simp; done) | (rw [c39b0]; done) | (simp only [c39b0]; done) | (simp only [← hji22] <;> (first | rfl | simp; done)) | (simp [*]; done)), H', ⟨by have := HK1.out; have := HJ7.out; have := HJ24.out; first | omega | exact Nat.le_refl _⟩, ⟨by (with_reducible repeat (first | apply Kd.R_alloc | apply Kd.R_drewN | apply Kd.R_drew)); exact HO_0.out⟩, ⟨by (with_reducible repeat (first | apply Kd.R_alloc | apply Kd.R_drewN | apply Kd.R_drew)); exact HO_11.out⟩, ⟨by (with_reducible repeat (first | refine blk_drewN ?_ _ | refine blk_drew ?_ | refine blk_alloc ?_ _)); exact BK136.out⟩, ⟨by repeat (first | (with_reducible first | exact HK.out | apply Kept.alloc | apply Kept.drewN | apply Kept.drew | refine Kept.setCell ?_ (.inr GW136.out) _) | exact HK.out)⟩, ⟨by repeat (first | (with_reducible first | exact HB.out | apply below_alloc | apply pw_below_drewN | apply below_drew1 | refine below_set ?_ GE136.out) | exact HB.out)⟩⟩
                                  · rw [if_neg c39] at H
                                    have c39b0 : ((wrap64 (1 + (Int.tmod (wrap64 (rd l2 (ji22))) 4))) == 1) = false := beq_eq_false_iff_ne.mpr c39
                                    have c39b1 : ((wrap64 (1 + (Int.tmod (wrap64 (rd l2 (ji22))) 4))) != 1) = true := bne_iff_ne.mpr c39
                                    (first | rw [c39b0] | (simp only [i64_w, i32_w]; rw [c39b0]) | skip)
                                    have H' := Aside0.mk H
                                    clear H
                                    go_wp2
                                    go_meet
                                    case rel => exact ⟨_, (((wrap64 (1 + (Int.tmod (wrap64 (rd l2 (ji22))) 4))) == 2)), (by first | rfl | (simp; done) | (rw [c39b0]; done) | (simp only [c39b0]; done) | (simp only [← hji22] <;> (first | rfl | simp; done)) | (simp [*]; done)), H', ⟨by have := HK1.out; have := HJ7.out; have := HJ24.out; first | omega | exact Nat.le_refl _⟩, ⟨by (with_reducible repeat (first | apply Kd.R_alloc | apply Kd.R_drewN | apply Kd.R_drew)); exact HO_0.out⟩, ⟨by (with_reducible repeat (first | apply Kd.R_alloc | apply Kd.R_drewN | apply Kd.R_drew)); exact HO_11.out⟩, ⟨by (with_reducible repeat (first | refine blk_drewN ?_ _ | refine blk_drew ?_ | refine blk_alloc ?_ _)); exact BK136.out⟩, ⟨by repeat (first | (with_reducible first | exact HK.out | apply Kept.alloc | apply Kept.drewN | apply Kept.drew | refine Kept.setCell ?_ (.inr GW136.out) _) | exact HK.out)⟩, ⟨by repeat (first | (with_reducible first | exact HB.out | apply below_alloc | apply pw_below_drewN | apply below_drew1 | refine below_set ?_ GE136.out) | exact HB.out)⟩⟩
                                case rest =>
                                  clear HC38
                                  try clear c1
                                  try clear p1
                                  try clear q1
                                  try clear hx1
                                  try clear c2
                                  try clear p2
                                  try clear c3
                                  try clear p6
                                  try clear c9
                                  try clear c9b0
                                  try clear c10
                                  try clear c10b0
                                  try clear p13
                                  try clear q13
                                  try clear hx13
                                  try clear c14
                                  try clear c15
                                  try clear c15b0
                                  try clear c16
                                  try clear c16b0
                                  try clear c17
                                  try clear c17b0
                                  try clear c20
                                  try clear c20b0
                                  try clear c21
                                  try clear c21b0
                                  try clear c23
                                  try clear c23b0
                                  try clear c24
                                  try clear c24b0
                                  try clear c32
                                  try clear c32b0
                                  try clear c32b1
                                  try clear c33
                                  try clear c33b0
                                  try clear c33b1
                                  try clear c33b2
                                  try clear c34
                                  try clear c34b0
                                  try clear c34b1
                                  try clear c34b2
                                  try clear c37
                                  try clear c39
                                  try clear c39b0
                                  try clear c39b1
                                  try clear hcz35_0
                                  try clear hcz35_1
                                  try clear hcz35_2
                                  try clear hcz37_0
                                  try clear hcz37_1
                                  try clear hcz37_2
                                  try clear hfz35_0
                                  try clear hfz35_1
                                  try clear hfz35_2
                                  try clear hfz37_0
                                  try clear hfz37_1
                                  try clear hfz37_2
                                  try clear hx133_0
                                  try clear hx134_0
                                  try clear hx135_0
                                  try clear hx137_0
                                  try clear p1
                                  try clear p13
                                  try clear p133
                                  try clear p134
                                  try clear p135
                                  try clear p137
                                  try clear p2
                                  try clear p6
                                  try clear q1
                                  try clear q13
                                  try clear q133
                                  try clear q134
                                  try clear q135
                                  try clear q137
                                  obtain ⟨kq, x74_37, rfl, HA, HJ37, HO_0, HO_11, BK136, HK, HB⟩ := hcut
                                  cases kq with
                                  | zero => exact absurd HA.out (by simp [shelfmarklaw10_dir.j3])
                                  | succ kj37 =>
                                    have H := HA.out
                                    clear HA
                                    simp only [shelfmarklaw10_dir.j3] at H
                                    by_cases c40 : x74_37 = true
                                    · subst c40
                                      have H1 : (if 0 ≤ (wrap64 (x13_1 + 2)) then (if (wrap64 (x13_1 + 2)) < (l2.length : Int) then ((shelfmarklaw10_text.f l3 (wrap64 (rd l2 (wrap64 (x13_1 + 2))))).bind fun t139 => (if 0 ≤ x13_1 then (if x13_1 ≤ (wrap64 (x13_1 + 2)) then (if (wrap64 (x13_1 + 2)) ≤ (l2.length : Int) then ((some ((l2.take ((wrap64 (x13_1 + 2)) : Int).toNat).drop (x13_1 : Int).toNat : List Int)).bind fun y140 => (if t139.size + (strOfNums y140).size ≤ 9223372036854775807 then (shelfmarklaw10_dir.j4 kj37 x0_1 a1 l2 l3 a4 y130 (wrap64 (ji19 + 1)) x13_1 x137000_24 (wrap64 (1 + (Int.tmod (wrap64 (rd l2 (ji22))) 4))) (t139 ++ (strOfNums y140))) else (none))) else (none)) else (none)) else (none))) else (none)) else (none)) = some r := by rw [if_pos rfl] at H; exact H
                                      clear H
                                      have H := H1
                                      clear H1
                                      obtain ⟨ji41, hji41⟩ : ∃ j_ : Int, (wrap64 (x13_1 + 2)) = j_ := ⟨_, rfl⟩
                                      replace H : (if 0 ≤ (ji41) then (if (ji41) < (l2.length : Int) then ((shelfmarklaw10_text.f l3 (wrap64 (rd l2 (ji41)))).bind fun t139 => (if 0 ≤ x13_1 then (if x13_1 ≤ (ji41) then (if (ji41) ≤ (l2.length : Int) then ((some ((l2.take ((ji41) : Int).toNat).drop (x13_1 : Int).toNat : List Int)).bind fun y140 => (if t139.size + (strOfNums y140).size ≤ 9223372036854775807 then (shelfmarklaw10_dir.j4 kj37 x0_1 a1 l2 l3 a4 y130 (wrap64 (ji19 + 1)) x13_1 x137000_24 (wrap64 (1 + (Int.tmod (wrap64 (rd l2 (ji22))) 4))) (t139 ++ (strOfNums y140))) else (none))) else (none)) else (none)) else (none))) else (none)) else (none)) = some r := by first | (rw [hji41] at H; exact H) | (simp only [hji41] at H ⊢; exact H)
                                      have hji41w : (IntKind.i64.wrap (x13_1 + 2)) = ji41 := (i64_w _).trans hji41
                                      by_cases c42 : 0 ≤ (ji41)
                                      · rw [if_pos c42] at H
                                        have c42b0 : decide (0 ≤ (ji41)) = true := decide_eq_true c42
                                        clear c42
                                        by_cases c43 : (ji41) < (l2.length : Int)
                                        · rw [if_pos c43] at H
                                          have c43b0 : decide ((ji41) < (l2.length : Int)) = true := decide_eq_true c43
                                          clear c43
                                          replace H := Option.bind_eq_some_iff.mp H
                                          obtain ⟨t139, A440, H⟩ := H
                                          replace H : (if 0 ≤ x13_1 then (if x13_1 ≤ (ji41) then (if (ji41) ≤ (l2.length : Int) then ((some ((l2.take ((ji41) : Int).toNat).drop (x13_1 : Int).toNat : List Int)).bind fun y140 => (if t139.size + (strOfNums y140).size ≤ 9223372036854775807 then (shelfmarklaw10_dir.j4 kj37 x0_1 a1 l2 l3 a4 y130 (wrap64 (ji19 + 1)) x13_1 x137000_24 (wrap64 (1 + (Int.tmod (wrap64 (rd l2 (ji22))) 4))) (t139 ++ (strOfNums y140))) else (none))) else (none)) else (none)) else (none)) = some r := H
                                          have A44 := Aside0.mk A440
                                          clear A440
                                          by_cases c45 : 0 ≤ x13_1
                                          · rw [if_pos c45] at H
                                            have c45b0 := eq_true c45
                                            have c45b1 : decide (0 ≤ x13_1) = true := decide_eq_true c45
                                            clear c45
                                            by_cases c46 : x13_1 ≤ (ji41)
                                            · rw [if_pos c46] at H
                                              have c46b0 := eq_true c46
                                              have c46b1 : decide (x13_1 ≤ (ji41)) = true := decide_eq_true c46
                                              clear c46
                                              by_cases c47 : (ji41) ≤ (l2.length : Int)
                                              · rw [if_pos c47] at H
                                                have c47b0 := eq_true c47
                                                have c47b1 : decide ((ji41) ≤ (l2.length : Int)) = true := decide_eq_true c47
                                                clear c47
                                                obtain ⟨y140, hy140⟩ : ∃ y_ : List Int, y_ = ((l2.take ((ji41) : Int).toNat).drop (x13_1 : Int).toNat) := ⟨_, rfl⟩
                                                replace H : (if t139.size + (strOfNums y140).size ≤ 9223372036854775807 then (shelfmarklaw10_dir.j4 kj37 x0_1 a1 l2 l3 a4 y130 (wrap64 (ji19 + 1)) x13_1 x137000_24 (wrap64 (1 + (Int.tmod (wrap64 (rd l2 (ji22))) 4))) (t139 ++ (strOfNums y140))) else (none)) = some r := by first | (rw [hy140]; with_reducible exact H) | (have H2_ := (Option.bind_some _ _).symm.trans H; rw [hy140]; with_reducible exact H2_) | (have H2_ := (Option.bind_some _ _).symm.trans H; with_reducible exact H2_) | with_reducible exact H | (rw [hy140]; exact H) | exact H
                                                have Ny140 := Aside0.mk hy140
                                                clear hy140
                                                by_cases c48 : t139.size + (strOfNums y140).size ≤ 9223372036854775807
                                                · rw [if_pos c48] at H
                                                  have c48b0 := eq_true c48
                                                  have c48b1 : decide (t139.size + (strOfNums y140).size ≤ 9223372036854775807) = true := decide_eq_true c48
                                                  try have c48b2 : (9223372036854775807 < t139.size + (strOfNums y140).size) = False := eq_false (Nat.not_lt.2 c48)
                                                  have H' := Aside0.mk H
                                                  clear H
                                                  try go_wp2
                                                  have n0_ := Aside0.mk (Kd.R_drew HO_0.out)
                                                  have n1_ := Aside0.mk (Kd.R_drew HO_11.out)
                                                  have n2_ := Aside0.mk (blk_drew BK136.out)
                                                  have n3_ := Aside0.mk (Kept.drew HK.out)
                                                  have n4_ := Aside0.mk (below_drew1 HB.out)
                                                  clear HO_0
                                                  clear HO_11
                                                  clear BK136
                                                  clear HK
                                                  clear HB
                                                  have HO_0 := n0_
                                                  have HO_11 := n1_
                                                  have BK136 := n2_
                                                  have HK := n3_
                                                  have HB := n4_
                                                  clear n0_ n1_ n2_ n3_ n4_
                                                  have p138 : 0 ≤ ((ji41) : Int) := of_decide_eq_true (by first | (with_reducible assumption) | assumption)
                                                  have q138 : (ji41) < (l2.length : Int) := of_decide_eq_true (by first | (with_reducible assumption) | assumption)
                                                  obtain ⟨ad138, e138, hx138_0⟩ := Kd.at_int (Kd.C_kept_now HR2.out HK.out) (ji41) p138 q138
                                                  have hw138_0 := hx138_0
                                                  obtain rfl : ad133 = ad138 := (by injection e138)
                                                  replace p138 := eq_true p138
                                                  replace q138 := eq_true q138
                                                  have q50 : ((ji41) : Int) ≤ ((l2.length : Int) : Int) := of_decide_eq_true (by first | (with_reducible assumption) | assumption)
                                                  obtain ⟨i050, hi050, _, hsz50, _⟩ := info_parts info5
                                                  have hroom50 : l2.length ≤ c2 := HC2.out
                                                  have hC50 : Kd.C (Kd.int .u8) _ (some ad133) l2.length l2 := (Kd.C_kept_now HR2.out HK.out)
                                                  have ql50 : (x13_1 : Int) ≤ ((ji41) : Int) := of_decide_eq_true (by first | (with_reducible assumption) | assumption)
                                                  have q050 : (0 : Int) ≤ (x13_1 : Int) := of_decide_eq_true (by first | (with_reducible assumption) | assumption)
                                                  have hcut50 := cut_mid (P := Try.prog) 22 5 .i64 .i64 Try.underlying22 hi050 1 hsz50 (some ad133) l2.length c2 x13_1 (ji41) q050 ql50 q50 hroom50
                                                  have hr50 := Kd.C_mid (lo := (x13_1 : Int).toNat) (hi := ((ji41) : Int).toNat) (c := c2) hC50 (by omega) (by omega) hroom50
                                                  obtain ⟨A50, hA50⟩ : ∃ A1, A1 = (if c2 = (x13_1 : Int).toNat then (some ad133) else ((some ad133) : Option Addr).map (·.add ((x13_1 : Int).toNat * 1))) := ⟨_, rfl⟩
                                                  obtain ⟨c50, hc50⟩ : ∃ c1, c1 = c2 - (x13_1 : Int).toNat := ⟨_, rfl⟩
                                                  have hy50 : y140.length = ((ji41) : Int).toNat - (x13_1 : Int).toNat := (by rw [Ny140.out, List.length_drop, List.length_take] <;> omega)
                                                  rw [show ((l2).take ((ji41) : Int).toNat).drop (x13_1 : Int).toNat = y140 from Ny140.out.symm] at hr50
                                                  replace hr50 : Kd.C (Kd.int .u8) _ A50 y140.length y140 := (by rw [hA50]; exact hr50)
                                                  rw [← hy50, ← hA50, ← hc50] at hcut50
                                                  have HR143 := Aside0.mk hr50
                                                  have HC143 := Aside0.mk (show y140.length ≤ c50 from by rw [hy50, hc50]; exact Nat.sub_le_sub_right (Nat.le_trans (by omega) hroom50) _)
                                                  clear hr50 hC50 hroom50 hi050 hsz50 hc50
                                                  have KY50 := Aside0.mk hy50
                                                  have KA50 := Aside0.mk hA50
                                                  clear hy50 hA50
                                                  have KL50 := Aside0.mk (show ((ji41) : Int).toNat ≤ l2.length from by omega)
                                                  have KM50 := Aside0.mk (show (x13_1 : Int).toNat ≤ ((ji41) : Int).toNat from by omega)
                                                  replace q50 := eq_true q50
                                                  refine start_ (n := 17) (S := fun w' => w'.cell? (ad133.add ((ji41)).toNat) = some (.int .u8 (rd l2 (ji41))) ∧ (convert 22 9 (.slice A50 y140.length c50)).run Try.prog w' = .ok (.string (strOfNums y140)) w') (ds := []) #[false, false, false, false, false, false, false, false, false, false, false, false, false, false, false, false, false] (by kernel_rfl) rfl rfl ⟨((Kd.foot_int (HR2.out _ (by repeat (first | exact HK.out | apply Kept.alloc | apply Kept.drewN | apply Kept.drew | refine Kept.setCell ?_ (.inr GW136.out) _))) (ji41) (of_eq_true p138) (of_eq_true q138))), (Kd.C_string (P := Try.prog) (A := A50) (c := c50) Try.underlying22 Try.underlying5 Try.underlying9 (show Kd.C (Kd.int .u8) _ A50 y140.length y140 from by rw [Ny140.out, KA50.out]; exact Kd.C_mid (lo := (x13_1 : Int).toNat) (hi := ((ji41) : Int).toNat) (c := c2) (HR2.out _ (by repeat (first | exact HK.out | apply Kept.alloc | apply Kept.drewN | apply Kept.drew | refine Kept.setCell ?_ (.inr GW136.out) _))) KM50.out KL50.out HC2.out))⟩ (fun hHeld => ?_); refine with_tabW shelfmarklaw10_dir.tab15 shelfmarklaw10_dir.bits15 (fun HT_ HW_ => ?_)
                                                  generalize wc.drew = w49 at HO_0 HO_11 BK136 HK HB HR143 hx138_0 hHeld ⊢
                                                  refine pure_ (i := 0) (N := some 77) (v := ?_) (a' := ?_) #[true, false, false, false, false, false, false, false, false, false, false, false, false, false, false, false, false] rfl rfl (any_of HT_.out (by kernel_rfl)) (fun _ _ _ h => h) (Or.inl ⟨by rfl, ?_⟩) ?_ ?_
                                                  rotate_left
                                                  · intro w'
                                                    go_simp
                                                    with_reducible rfl
                                                  rotate_left
                                                  · simp only [Act.put, List.setIfInBounds_toArray, List.set_cons_zero, List.set_cons_succ, i64_w, i32_w]
                                                    rfl
                                                  refine pure_ (i := 1) (N := some 78) (v := ?_) (a' := ?_) #[true, true, false, false, false, false, false, false, false, false, false, false, false, false, false, false, false] rfl rfl (any_of HT_.out (by kernel_rfl)) (fun _ _ _ h => h) (Or.inl ⟨by rfl, ?_⟩) ?_ ?_
                                                  rotate_left
                                                  · intro w'
                                                    go_simp
                                                    with_reducible rfl
                                                  rotate_left
                                                  · simp only [Act.put, List.setIfInBounds_toArray, List.set_cons_zero, List.set_cons_succ, i64_w, i32_w]
                                                    rfl
                                                  refine pure_ (i := 2) (N := some 79) (v := ?_) (a' := ?_) #[true, true, true, false, false, false, false, false, false, false, false, false, false, false, false, false, false] rfl rfl (any_of HT_.out (by kernel_rfl)) (fun _ _ _ h => h) (Or.inl ⟨by rfl, ?_⟩) ?_ ?_
                                                  rotate_left
                                                  · intro w'
                                                    go_simp
                                                    with_reducible rfl
                                                  rotate_left
                                                  · simp only [Act.put, List.setIfInBounds_toArray, List.set_cons_zero, List.set_cons_succ, i64_w, i32_w]
                                                    rfl
                                                  refine pure_ (i := 3) (N := some 80) (v := ?_) (a' := ?_) #[true, true, true, true, false, false, false, false, false, false, false, false, false, false, false, false, false] rfl rfl (any_of HT_.out (by kernel_rfl)) (fun _ _ _ h => h) (Or.inl ⟨by rfl, ?_⟩) ?_ ?_
                                                  rotate_left
                                                  · intro w'
                                                    go_simp
                                                    with_reducible rfl
                                                  rotate_left
                                                  · simp only [Act.put, List.setIfInBounds_toArray, List.set_cons_zero, List.set_cons_succ, i64_w, i32_w]
                                                    rfl
                                                  refine pure_ (i := 4) (N := some 81) (v := ?_) (a' := ?_) #[true, true, true, true, true, false, false, false, false, false, false, false, false, false, false, false, false] rfl rfl (any_of HT_.out (by kernel_rfl)) (fun _ _ _ h => h) (Or.inl ⟨by rfl, ?_⟩) ?_ ?_
                                                  rotate_left
                                                  · intro w'
                                                    go_simp
                                                    with_reducible rfl
                                                  rotate_left
                                                  · simp only [Act.put, List.setIfInBounds_toArray, List.set_cons_zero, List.set_cons_succ, i64_w, i32_w]
                                                    rfl
                                                  refine pure_ (i := 8) (N := some 85) (v := ?_) (a' := ?_) #[true, true, true, true, true, false, false, false, true, false, false, false, false, false, false, false, false] rfl rfl (any_of HT_.out (by kernel_rfl)) (fun _ _ _ h => h) (Or.inl ⟨by rfl, ?_⟩) ?_ ?_
                                                  rotate_left
                                                  · intro w'
                                                    go_simp
                                                    with_reducible rfl
                                                  rotate_left
                                                  · simp only [Act.put, List.setIfInBounds_toArray, List.set_cons_zero, List.set_cons_succ, i64_w, i32_w]
                                                    rfl
                                                  refine pure_ (i := 9) (N := some 86) (v := ?_) (a' := ?_) #[true, true, true, true, true, false, false, false, true, true, false, false, false, false, false, false, false] rfl rfl (any_of HT_.out (by kernel_rfl)) (fun _ _ _ h => h) (Or.inl ⟨by rfl, ?_⟩) ?_ ?_
                                                  rotate_left
                                                  · intro w'
                                                    go_simp
                                                    with_reducible rfl
                                                  rotate_left
                                                  · simp only [Act.put, List.setIfInBounds_toArray, List.set_cons_zero, List.set_cons_succ, i64_w, i32_w]
                                                    rfl
                                                  refine pure_ (i := 10) (N := some 87) (v := ?_) (a' := ?_) #[true, true, true, true, true, false, false, false, true, true, true, false, false, false, false, false, false] rfl rfl (any_of HT_.out (by kernel_rfl)) (fun _ _ _ h => h) (Or.inl ⟨by rfl, ?_⟩) ?_ ?_
                                                  rotate_left
                                                  · intro w'
                                                    go_simp
                                                    with_reducible rfl
                                                  rotate_left
                                                  · simp only [Act.put, List.setIfInBounds_toArray, List.set_cons_zero, List.set_cons_succ, i64_w, i32_w]
                                                    rfl
                                                  refine pure_ (i := 11) (N := some 88) (v := ?_) (a' := ?_) #[true, true, true, true, true, false, false, false, true, true, true, true, false, false, false, false, false] rfl rfl (any_of HT_.out (by kernel_rfl)) (fun _ _ _ h => h) (Or.inl ⟨by rfl, ?_⟩) ?_ ?_
                                                  rotate_left
                                                  · intro w'
                                                    go_simp
                                                    with_reducible rfl
                                                  rotate_left
                                                  · simp only [Act.put, List.setIfInBounds_toArray, List.set_cons_zero, List.set_cons_succ, i64_w, i32_w]
                                                    rfl
                                                  refine pure_ (i := 12) (N := some 89) (v := ?_) (a' := ?_) #[true, true, true, true, true, false, false, false, true, true, true, true, true, false, false, false, false] rfl rfl (any_of HT_.out (by kernel_rfl)) (fun _ _ _ h => h) (Or.inl ⟨by rfl, ?_⟩) ?_ ?_
                                                  rotate_left
                                                  · intro w'
                                                    go_simp
                                                    with_reducible rfl
                                                  rotate_left
                                                  · simp only [Act.put, List.setIfInBounds_toArray, List.set_cons_zero, List.set_cons_succ, i64_w, i32_w]
                                                    rfl
                                                  refine take_ (i := 13) (N := some 90) (v := ?_) (a' := ?_) #[true, true, true, true, true, false, false, false, true, true, true, true, true, true, false, false, false] rfl rfl (take_ofW HT_.out HW_.out (by kernel_rfl)) (fun _ _ _ h => h) (Or.inl ⟨by rfl, ?_⟩) hHeld ?_ ?_
                                                  rotate_left
                                                  · rintro w' ⟨s0, s1⟩
                                                    go_simp
                                                    with_reducible rfl
                                                  rotate_left
                                                  · simp only [Act.put, List.setIfInBounds_toArray, List.set_cons_zero, List.set_cons_succ, i64_w, i32_w]
                                                    rfl
                                                  refine take_ (i := 5) (N := some 82) (v := ?_) (a' := ?_) #[true, true, true, true, true, true, false, false, true, true, true, true, true, true, false, false, false] rfl rfl (take_ofW HT_.out HW_.out (by kernel_rfl)) (fun _ _ _ h => h) (Or.inl ⟨by rfl, ?_⟩) hHeld ?_ ?_
                                                  rotate_left
                                                  · rintro w' ⟨s0, s1⟩
                                                    go_simp
                                                    with_reducible rfl
                                                  rotate_left
                                                  · simp only [Act.put, List.setIfInBounds_toArray, List.set_cons_zero, List.set_cons_succ, i64_w, i32_w]
                                                    rfl
                                                  refine pure_ (i := 6) (N := some 83) (v := ?_) (a' := ?_) #[true, true, true, true, true, true, true, false, true, true, true, true, true, true, false, false, false] rfl rfl (any_of HT_.out (by kernel_rfl)) (fun _ _ _ h => h) (Or.inl ⟨by rfl, ?_⟩) ?_ ?_
                                                  rotate_left
                                                  · intro w'
                                                    go_simp
                                                    with_reducible rfl
                                                  rotate_left
                                                  · simp only [Act.put, List.setIfInBounds_toArray, List.set_cons_zero, List.set_cons_succ, i64_w, i32_w]
                                                    rfl
                                                  refine one_ (i := 7) (N := some 84) #[true, true, true, true, true, true, true, true, true, true, true, true, true, true, false, false, false] rfl rfl (one_of HT_.out (by kernel_rfl)) (by decide) (fun K hK => ?_)
                                                  refine goes_ Try.func36 (by kernel_rfl) rfl #[.slice A3 l3.length c3, .int .i64 (wrap64 (rd l2 (ji41)))] (by rfl) rfl rfl (by (try simp only [List.map_toArray, List.map_cons, List.map_nil]); first | done | (simp only [hji41]; rfl) | rfl | (simp only [List.length_drop, List.length_take]; rfl)) ?_
                                                  with_reducible refine (shelfmarklaw10_text.calls _ _ l3 (wrap64 (rd l2 (ji41))) t139 _ ?side1 ?side2 A44.out).mono ?_
                                                  (case side1 => exact Kd.C_kept_now HR3.out (by repeat (first | (with_reducible first | exact HK.out | apply Kept.alloc | apply Kept.drewN | apply Kept.drew | refine Kept.setCell ?_ (.inr GW136.out) _) | exact HK.out)))
                                                  (case side2 => exact HC3.out)
                                                  rintro e w' ⟨rfl, ⟨nd, rfl⟩⟩
                                                  refine ⟨_, rfl, ?_⟩
                                                  skip
                                                  refine hK.out _ _ ⟨((Kd.foot_int (HR2.out _ (by repeat (first | exact HK.out | apply Kept.alloc | apply Kept.drewN | apply Kept.drew | refine Kept.setCell ?_ (.inr GW136.out) _))) (ji41) (of_eq_true p138) (of_eq_true q138))), (Kd.C_string (P := Try.prog) (A := A50) (c := c50) Try.underlying22 Try.underlying5 Try.underlying9 (show Kd.C (Kd.int .u8) _ A50 y140.length y140 from by rw [Ny140.out, KA50.out]; exact Kd.C_mid (lo := (x13_1 : Int).toNat) (hi := ((ji41) : Int).toNat) (c := c2) (HR2.out _ (by repeat (first | exact HK.out | apply Kept.alloc | apply Kept.drewN | apply Kept.drew | refine Kept.setCell ?_ (.inr GW136.out) _))) KM50.out KL50.out HC2.out))⟩ (fun hHeld => ?_)
                                                  clear hK K
                                                  refine norm_ (a' := ?_) ?_ ?_
                                                  rotate_left
                                                  · show Act.put _ (some 84) _ = _
                                                    simp only [Act.put, List.setIfInBounds_toArray, List.set_cons_zero, List.set_cons_succ, i64_w, i32_w]
                                                    rfl
                                                  refine pure_ (i := 14) (N := some 91) (v := ?_) (a' := ?_) #[true, true, true, true, true, true, true, true, true, true, true, true, true, true, true, false, false] rfl rfl (any_of HT_.out (by kernel_rfl)) (fun _ _ _ h => h) (Or.inl ⟨by rfl, ?_⟩) ?_ ?_
                                                  rotate_left
                                                  · intro w'
                                                    go_simp
                                                    with_reducible rfl
                                                  rotate_left
                                                  · simp only [Act.put, List.setIfInBounds_toArray, List.set_cons_zero, List.set_cons_succ, i64_w, i32_w]
                                                    rfl
                                                  refine pure_ (i := 15) (N := some 92) (v := ?_) (a' := ?_) #[true, true, true, true, true, true, true, true, true, true, true, true, true, true, true, true, false] rfl rfl (any_of HT_.out (by kernel_rfl)) (fun _ _ _ h => h) (Or.inl ⟨by rfl, ?_⟩) ?_ ?_
                                                  rotate_left
                                                  · intro w'
                                                    go_simp
                                                    with_reducible rfl
                                                  rotate_left
                                                  · simp only [Act.put, List.setIfInBounds_toArray, List.set_cons_zero, List.set_cons_succ, i64_w, i32_w]
                                                    rfl
                                                  refine one_ (i := 16) (N := none) #[true, true, true, true, true, true, true, true, true, true, true, true, true, true, true, true, true] rfl rfl (one_of HT_.out (by kernel_rfl)) (by decide) (fun K hK => ?_)
                                                  have hs53 : w49.cell? ⟨gb136, 2, none⟩ = some (.string (⟨#[]⟩ : ByteArray)) := (blk_cell BK136.out 2).trans rfl
                                                  have hs53_n := fun n_ : Nat => (show (w49.drewN n_).cell? ⟨gb136, 2, none⟩ = some (.string (⟨#[]⟩ : ByteArray)) from hs53)
                                                  have hfs53 := blk_frozen BK136.out 2
                                                  refine skip_ (w1 := ?_) (by rfl) rfl ?_ ?_
                                                  rotate_left
                                                  · go_simp
                                                    rfl
                                                  refine hK.out _ _ ⟨((Kd.foot_int (HR2.out _ (by repeat (first | exact HK.out | apply Kept.alloc | apply Kept.drewN | apply Kept.drew | refine Kept.setCell ?_ (.inr GW136.out) _))) (ji41) (of_eq_true p138) (of_eq_true q138))), (Kd.C_string (P := Try.prog) (A := A50) (c := c50) Try.underlying22 Try.underlying5 Try.underlying9 (show Kd.C (Kd.int .u8) _ A50 y140.length y140 from by rw [Ny140.out, KA50.out]; exact Kd.C_mid (lo := (x13_1 : Int).toNat) (hi := ((ji41) : Int).toNat) (c := c2) (HR2.out _ (by repeat (first | exact HK.out | apply Kept.alloc | apply Kept.drewN | apply Kept.drew | refine Kept.setCell ?_ (.inr GW136.out) _))) KM50.out KL50.out HC2.out))⟩ (fun hHeld => ?_)
                                                  clear hK K
                                                  refine done_ (done_of HT_.out (by kernel_rfl)) ?_
                                                  try go_wp2
                                                  go_meet
                                                  case rel => exact ⟨_, (t139 ++ (strOfNums y140)), H', ⟨by have := HK1.out; have := HJ7.out; have := HJ24.out; have := HJ37.out; first | omega | exact Nat.le_refl _⟩, ⟨by (with_reducible repeat (first | apply Kd.R_alloc | apply Kd.R_drewN | apply Kd.R_drew)); exact Kd.R_mono (Kd.R_far (p := ⟨gb136, 2, none⟩) (Kd.R_mono HO_0.out (fun k_ hk => (⟨hk, hk.2⟩ : _ ∧ k_ ≠ gb136))) (fun _ hk => hk.2) (.string (t139 ++ (strOfNums y140)))) (fun _ hk => ⟨hk.1.1, hk.1.2⟩)⟩, ⟨by (with_reducible repeat (first | apply Kd.R_alloc | apply Kd.R_drewN | apply Kd.R_drew)); exact Kd.R_mono (Kd.R_far (p := ⟨gb136, 2, none⟩) (Kd.R_types HO_11.out BK136.out (by decide)) (fun _ hk => hk.2) (.string (t139 ++ (strOfNums y140)))) (fun _ hk => hk.1)⟩, ⟨by (with_reducible repeat (first | refine blk_drewN ?_ _ | refine blk_drew ?_ | refine blk_alloc ?_ _)); refine blk_put (cs := #[.string x137000_24, .int .i64 (wrap64 (1 + (Int.tmod (wrap64 (rd l2 (ji22))) 4))), .string (⟨#[]⟩ : ByteArray)]) ?_ 2 _ rfl; (with_reducible repeat (first | refine blk_drewN ?_ _ | refine blk_drew ?_ | refine blk_alloc ?_ _)); exact BK136.out⟩, ⟨by repeat (first | (with_reducible first | exact HK.out | apply Kept.alloc | apply Kept.drewN | apply Kept.drew | refine Kept.setCell ?_ (.inr GW136.out) _) | exact HK.out)⟩, ⟨by repeat (first | (with_reducible first | exact HB.out | apply below_alloc | apply pw_below_drewN | apply below_drew1 | refine below_set ?_ GE136.out) | exact HB.out)⟩⟩
                                                · rw [if_neg c48] at H
                                                  exact absurd H (by simp)
                                              · rw [if_neg c47] at H
                                                exact absurd H (by simp)
                                            · rw [if_neg c46] at H
                                              exact absurd H (by simp)
                                          · rw [if_neg c45] at H
                                            exact absurd H (by simp)
                                        · rw [if_neg c43] at H
                                          exact absurd H (by simp)
                                      · rw [if_neg c42] at H
                                        exact absurd H (by simp)
                                    · replace c40 := Bool.eq_false_iff.mpr c40
                                      subst c40
                                      have H1 : (if (wrap64 (1 + (Int.tmod (wrap64 (rd l2 (ji22))) 4))) = 3 then (if 0 ≤ (wrap64 (x13_1 + 2)) then (if (wrap64 (x13_1 + 2)) < (l2.length : Int) then ((shelfmarklaw10_text.f y130 (wrap64 (rd l2 (wrap64 (x13_1 + 2))))).bind fun t145 => (if 3 + t145.size ≤ 9223372036854775807 then (shelfmarklaw10_dir.j4 kj37 x0_1 a1 l2 l3 a4 y130 (wrap64 (ji19 + 1)) x13_1 x137000_24 (wrap64 (1 + (Int.tmod (wrap64 (rd l2 (ji22))) 4))) ((⟨#[116, 111, 47]⟩ : ByteArray) ++ t145)) else (none))) else (none)) else (none)) else (shelfmarklaw10_dir.j4 kj37 x0_1 a1 l2 l3 a4 y130 (wrap64 (ji19 + 1)) x13_1 x137000_24 (wrap64 (1 + (Int.tmod (wrap64 (rd l2 (ji22))) 4))) (⟨#[]⟩ : ByteArray))) = some r := by rw [if_neg (show ¬ (false = true) by decide)] at H; exact H
                                      clear H
                                      have H := H1
                                      clear H1
                                      by_cases c54 : (wrap64 (1 + (Int.tmod (wrap64 (rd l2 (ji22))) 4))) = 3
                                      · rw [if_pos c54] at H
                                        have c54b0 : ((wrap64 (1 + (Int.tmod (wrap64 (rd l2 (ji22))) 4))) == 3) = true := beq_iff_eq.mpr c54
                                        have c54b1 : ((wrap64 (1 + (Int.tmod (wrap64 (rd l2 (ji22))) 4))) != 3) = false := bne_eq_false_iff_eq.mpr c54
                                        clear c54
                                        obtain ⟨ji55, hji55⟩ : ∃ j_ : Int, (wrap64 (x13_1 + 2)) = j_ := ⟨_, rfl⟩
                                        replace H : (if 0 ≤ (ji55) then (if (ji55) < (l2.length : Int) then ((shelfmarklaw10_text.f y130 (wrap64 (rd l2 (ji55)))).bind fun t145 => (if 3 + t145.size ≤ 9223372036854775807 then (shelfmarklaw10_dir.j4 kj37 x0_1 a1 l2 l3 a4 y130 (wrap64 (ji19 + 1)) x13_1 x137000_24 (wrap64 (1 + (Int.tmod (wrap64 (rd l2 (ji22))) 4))) ((⟨#[116, 111, 47]⟩ : ByteArray) ++ t145)) else (none))) else (none)) else (none)) = some r := by first | (rw [hji55] at H; exact H) | (simp only [hji55] at H ⊢; exact H)
                                        have hji55w : (IntKind.i64.wrap (x13_1 + 2)) = ji55 := (i64_w _).trans hji55
                                        by_cases c56 : 0 ≤ (ji55)
                                        · rw [if_pos c56] at H
                                          have c56b0 : decide (0 ≤ (ji55)) = true := decide_eq_true c56
                                          clear c56
                                          by_cases c57 : (ji55) < (l2.length : Int)
                                          · rw [if_pos c57] at H
                                            have c57b0 : decide ((ji55) < (l2.length : Int)) = true := decide_eq_true c57
                                            clear c57
                                            replace H := Option.bind_eq_some_iff.mp H
                                            obtain ⟨t145, A580, H⟩ := H
                                            replace H : (if 3 + t145.size ≤ 9223372036854775807 then (shelfmarklaw10_dir.j4 kj37 x0_1 a1 l2 l3 a4 y130 (wrap64 (ji19 + 1)) x13_1 x137000_24 (wrap64 (1 + (Int.tmod (wrap64 (rd l2 (ji22))) 4))) ((⟨#[116, 111, 47]⟩ : ByteArray) ++ t145)) else (none)) = some r := H
                                            have A58 := Aside0.mk A580
                                            clear A580
                                            by_cases c59 : 3 + t145.size ≤ 9223372036854775807
                                            · rw [if_pos c59] at H
                                              have c59b0 := eq_true c59
                                              have c59b1 : decide (3 + t145.size ≤ 9223372036854775807) = true := decide_eq_true c59
                                              try have c59b2 : (9223372036854775807 < 3 + t145.size) = False := eq_false (Nat.not_lt.2 c59)
                                              have H' := Aside0.mk H
                                              clear H
                                              have p144 : 0 ≤ ((ji55) : Int) := of_decide_eq_true (by first | (with_reducible assumption) | assumption)
                                              have q144 : (ji55) < (l2.length : Int) := of_decide_eq_true (by first | (with_reducible assumption) | assumption)
                                              obtain ⟨ad144, e144, hx144_0⟩ := Kd.at_int (Kd.C_kept_now HR2.out HK.out) (ji55) p144 q144
                                              obtain rfl : ad133 = ad144 := (by injection e144)
                                              replace p144 := eq_true p144
                                              replace q144 := eq_true q144
                                              go_wp2_with (first | ((with_reducible refine gate_callee (f := 36) rfl ?_); refine goesL_ (some 102) rfl rfl Try.func36 (by kernel_rfl) rfl #[.slice (some ad134) y130.length co26, .int .i64 (wrap64 (rd l2 (ji55)))] rfl (by (try simp only [List.map_toArray, List.map_cons, List.map_nil]); first | done | (simp only [hji55]; rfl) | rfl | (simp only [List.length_drop, List.length_take]; rfl)) ?_; (with_reducible refine (shelfmarklaw10_text.calls _ _ y130 (wrap64 (rd l2 (ji55))) t145 _ ?side1 ?side2 A58.out).mono ?_); (case side1 => repeat (first | exact (Kd.R_reads' HO_11.out).2.2 | (with_reducible refine Kd.C_alloc ?_ _) | (with_reducible refine Kd.C_drewN ?_ _) | (with_reducible refine Kd.C_drew ?_))); (case side2 => exact (Kd.R_reads' HO_11.out).2.1); rintro e w' ⟨rfl, ⟨nd, rfl⟩⟩; refine ⟨_, rfl, ?_⟩; (try (rw [drewN_self wc]; generalize hq_ : World.drewN wc _ = wc; have n0_ : Aside0 (Kd.R k37 37 wc w0.heap.size (fun k_ => (P0_ k_ ∨ w.heap.size ≤ k_) ∧ k_ ≠ gb136) u0 x0_1) := ⟨by rw [← hq_]; exact (by (with_reducible repeat (first | apply Kd.R_alloc | apply Kd.R_drewN | apply Kd.R_drew)); exact HO_0.out)⟩; have n1_ : Aside0 (Kd.R Kd.string 9 wc w0.heap.size (fun k_ => (P0_ k_ ∨ w.heap.size ≤ k_)) (.slice (some ad134) y130.length co26) y130) := ⟨by rw [← hq_]; exact (by (with_reducible repeat (first | apply Kd.R_alloc | apply Kd.R_drewN | apply Kd.R_drew)); exact HO_11.out)⟩; have n2_ : Aside0 (wc.heap[gb136]? = some (.cells #[.string x137000_24, .int .i64 (wrap64 (1 + (Int.tmod (wrap64 (rd l2 (ji22))) 4))), .string (⟨#[]⟩ : ByteArray)] 37 (0, 0))) := ⟨by rw [← hq_]; exact (by (with_reducible repeat (first | refine blk_drewN ?_ _ | refine blk_drew ?_ | refine blk_alloc ?_ _)); exact BK136.out)⟩; have n3_ : Aside0 (Kept w wc (fun k_ => P0_ k_)) := ⟨by rw [← hq_]; exact (by repeat (first | (with_reducible first | exact HK.out | apply Kept.alloc | apply Kept.drewN | apply Kept.drew | refine Kept.setCell ?_ (.inr GW136.out) _) | exact HK.out))⟩; have n4_ : Aside0 (Below w0.heap.size w0 wc) := ⟨by rw [← hq_]; exact (by repeat (first | (with_reducible first | exact HB.out | apply below_alloc | apply pw_below_drewN | apply below_drew1 | refine below_set ?_ GE136.out) | exact HB.out))⟩; clear HO_0 HO_11 BK136 HK HB hq_; have HO_0 := n0_; have HO_11 := n1_; have BK136 := n2_; have HK := n3_; have HB := n4_; clear n0_ n1_ n2_ n3_ n4_)); have hcz60_0 : wc.cell? ⟨gb136, 0, none⟩ = some (.string x137000_24) := (blk_cell BK136.out 0).trans rfl; have hcz60_1 : wc.cell? ⟨gb136, 1, none⟩ = some (.int .i64 (wrap64 (1 + (Int.tmod (wrap64 (rd l2 (ji22))) 4)))) := (blk_cell BK136.out 1).trans rfl; have hcz60_2 : wc.cell? ⟨gb136, 2, none⟩ = some (.string (⟨#[]⟩ : ByteArray)) := (blk_cell BK136.out 2).trans rfl; have hfz60_0 := blk_frozen BK136.out 0; have hfz60_1 := blk_frozen BK136.out 1; have hfz60_2 := blk_frozen BK136.out 2))
                                              go_meet
                                              case rel => exact ⟨_, ((⟨#[116, 111, 47]⟩ : ByteArray) ++ t145), H', ⟨by have := HK1.out; have := HJ7.out; have := HJ24.out; have := HJ37.out; first | omega | exact Nat.le_refl _⟩, ⟨by (with_reducible repeat (first | apply Kd.R_alloc | apply Kd.R_drewN | apply Kd.R_drew)); exact Kd.R_mono (Kd.R_far (p := ⟨gb136, 2, none⟩) (Kd.R_mono HO_0.out (fun k_ hk => (⟨hk, hk.2⟩ : _ ∧ k_ ≠ gb136))) (fun _ hk => hk.2) (.string ((⟨#[116, 111, 47]⟩ : ByteArray) ++ t145))) (fun _ hk => ⟨hk.1.1, hk.1.2⟩)⟩, ⟨by (with_reducible repeat (first | apply Kd.R_alloc | apply Kd.R_drewN | apply Kd.R_drew)); exact Kd.R_mono (Kd.R_far (p := ⟨gb136, 2, none⟩) (Kd.R_types HO_11.out BK136.out (by decide)) (fun _ hk => hk.2) (.string ((⟨#[116, 111, 47]⟩ : ByteArray) ++ t145))) (fun _ hk => hk.1)⟩, ⟨by (with_reducible repeat (first | refine blk_drewN ?_ _ | refine blk_drew ?_ | refine blk_alloc ?_ _)); refine blk_put (cs := #[.string x137000_24, .int .i64 (wrap64 (1 + (Int.tmod (wrap64 (rd l2 (ji22))) 4))), .string (⟨#[]⟩ : ByteArray)]) ?_ 2 _ rfl; (with_reducible repeat (first | refine blk_drewN ?_ _ | refine blk_drew ?_ | refine blk_alloc ?_ _)); exact BK136.out⟩, ⟨by repeat (first | (with_reducible first | exact HK.out | apply Kept.alloc | apply Kept.drewN | apply Kept.drew | refine Kept.setCell ?_ (.inr GW136.out) _) | exact HK.out)⟩, ⟨by repeat (first | (with_reducible first | exact HB.out | apply below_alloc | apply pw_below_drewN | apply below_drew1 | refine below_set ?_ GE136.out) | exact HB.out)⟩⟩
                                            · rw [if_neg c59] at H
                                              exact absurd H (by simp)
                                          · rw [if_neg c57] at H
                                            exact absurd H (by simp)
                                        · rw [if_neg c56] at H
                                          exact absurd H (by simp)
                                      · rw [if_neg c54] at H
                                        have c54b0 : ((wrap64 (1 + (Int.tmod (wrap64 (rd l2 (ji22))) 4))) == 3) = false := beq_eq_false_iff_ne.mpr c54
                                        have c54b1 : ((wrap64 (1 + (Int.tmod (wrap64 (rd l2 (ji22))) 4))) != 3) = true := bne_iff_ne.mpr c54
                                        have H' := Aside0.mk H
                                        clear H
                                        go_wp2
                                        go_meet
                                        case rel => exact ⟨_, ((⟨#[]⟩ : ByteArray)), H', ⟨by have := HK1.out; have := HJ7.out; have := HJ24.out; have := HJ37.out; first | omega | exact Nat.le_refl _⟩, ⟨by (with_reducible repeat (first | apply Kd.R_alloc | apply Kd.R_drewN | apply Kd.R_drew)); exact HO_0.out⟩, ⟨by (with_reducible repeat (first | apply Kd.R_alloc | apply Kd.R_drewN | apply Kd.R_drew)); exact HO_11.out⟩, ⟨by (with_reducible repeat (first | refine blk_drewN ?_ _ | refine blk_drew ?_ | refine blk_alloc ?_ _)); exact BK136.out⟩, ⟨by repeat (first | (with_reducible first | exact HK.out | apply Kept.alloc | apply Kept.drewN | apply Kept.drew | refine Kept.setCell ?_ (.inr GW136.out) _) | exact HK.out)⟩, ⟨by repeat (first | (with_reducible first | exact HB.out | apply below_alloc | apply pw_below_drewN | apply below_drew1 | refine below_set ?_ GE136.out) | exact HB.out)⟩⟩
                              case rest =>
                                clear HC36
                                try clear c1
                                try clear p1
                                try clear q1
                                try clear hx1
                                try clear c2
                                try clear p2
                                try clear c3
                                try clear c4
                                try clear c5
                                try clear q5
                                skip
                                try clear p6
                                try clear c9
                                try clear c9b0
                                try clear c10
                                try clear c10b0
                                try clear p13
                                try clear q13
                                try clear hx13
                                try clear c14
                                try clear p14
                                try clear q14
                                try clear hx14
                                try clear c15
                                try clear c15b0
                                try clear c16
                                try clear c16b0
                                try clear c17
                                try clear c17b0
                                try clear c20
                                try clear c20b0
                                try clear c21
                                try clear c21b0
                                try clear c23
                                try clear c23b0
                                try clear c24
                                try clear c24b0
                                try clear c32
                                try clear c32b0
                                try clear c32b1
                                try clear c33
                                try clear c33b0
                                try clear c33b1
                                try clear c33b2
                                try clear c34
                                try clear c34b0
                                try clear c34b1
                                try clear c34b2
                                try clear c36
                                try clear c37
                                try clear c39
                                try clear c39b0
                                try clear c39b1
                                try clear c40
                                try clear c42
                                try clear c42b0
                                try clear c43
                                try clear c43b0
                                try clear c45
                                try clear c45b0
                                try clear c45b1
                                try clear c46
                                try clear c46b0
                                try clear c46b1
                                try clear c47
                                try clear c47b0
                                try clear c47b1
                                try clear c48
                                try clear c48b0
                                try clear c48b1
                                try clear c48b2
                                try clear c50
                                try clear q50
                                skip
                                try clear c54
                                try clear c54b0
                                try clear c54b1
                                try clear c56
                                try clear c56b0
                                try clear c57
                                try clear c57b0
                                try clear c59
                                try clear c59b0
                                try clear c59b1
                                try clear c59b2
                                try clear hcz35_0
                                try clear hcz35_1
                                try clear hcz35_2
                                try clear hcz37_0
                                try clear hcz37_1
                                try clear hcz37_2
                                try clear hcz60_0
                                try clear hcz60_1
                                try clear hcz60_2
                                try clear hfz35_0
                                try clear hfz35_1
                                try clear hfz35_2
                                try clear hfz37_0
                                try clear hfz37_1
                                try clear hfz37_2
                                try clear hfz60_0
                                try clear hfz60_1
                                try clear hfz60_2
                                try clear hx133_0
                                try clear hx134_0
                                try clear hx135_0
                                try clear hx137_0
                                try clear hx138_0
                                try clear hx144_0
                                try clear p1
                                try clear p13
                                try clear p133
                                try clear p134
                                try clear p135
                                try clear p137
                                try clear p138
                                try clear p144
                                try clear p2
                                try clear p6
                                try clear q050
                                try clear q1
                                try clear q13
                                try clear q133
                                try clear q134
                                try clear q135
                                try clear q137
                                try clear q138
                                try clear q144
                                try clear q50
                                obtain ⟨kq, x137002_35, HA, HJ35, HO_0, HO_11, BK136, HK, HB⟩ := hcut
                                cases kq with
                                | zero => exact absurd HA.out (by simp [shelfmarklaw10_dir.j4])
                                | succ kj35 =>
                                  have H := HA.out
                                  clear HA
                                  simp only [shelfmarklaw10_dir.j4] at H
                                  by_cases c61 : x0_1.length < 3518437208883
                                  · rw [if_pos c61] at H
                                    have LMc61 := Aside0.mk c61
                                    clear c61
                                    obtain ⟨y146, hy146⟩ : ∃ y_ : List (S37), y_ = (x0_1 ++ [(⟨x137000_24, (wrap64 (1 + (Int.tmod (wrap64 (rd l2 (ji22))) 4))), x137002_35⟩ : S37)]) := ⟨_, rfl⟩
                                    replace H : (if (wrap64 (1 + (Int.tmod (wrap64 (rd l2 (ji22))) 4))) = 4 then (shelfmarklaw10_dir.j5 kj35 y146 a1 l2 l3 a4 y130 (wrap64 (ji19 + 1)) x13_1 (decide (a4 < 3)) x137000_24 (wrap64 (1 + (Int.tmod (wrap64 (rd l2 (ji22))) 4))) x137002_35) else (shelfmarklaw10_dir.j5 kj35 y146 a1 l2 l3 a4 y130 (wrap64 (ji19 + 1)) x13_1 false x137000_24 (wrap64 (1 + (Int.tmod (wrap64 (rd l2 (ji22))) 4))) x137002_35)) = some r := by first | (rw [hy146]; with_reducible exact H) | (have H2_ := (Option.bind_some _ _).symm.trans H; rw [hy146]; with_reducible exact H2_) | (have H2_ := (Option.bind_some _ _).symm.trans H; with_reducible exact H2_) | with_reducible exact H | (rw [hy146]; exact H) | exact H
                                    have Ny146 := Aside0.mk hy146
                                    clear hy146
                                    have HC62 := Aside0.mk H
                                    clear H
                                    have hcz63_0 : wc.cell? ⟨gb136, 0, none⟩ = some (.string x137000_24) := (blk_cell BK136.out 0).trans rfl
                                    have hcz63_1 : wc.cell? ⟨gb136, 1, none⟩ = some (.int .i64 (wrap64 (1 + (Int.tmod (wrap64 (rd l2 (ji22))) 4)))) := (blk_cell BK136.out 1).trans rfl
                                    have hcz63_2 : wc.cell? ⟨gb136, 2, none⟩ = some (.string x137002_35) := (blk_cell BK136.out 2).trans rfl
                                    have hfz63_0 := blk_frozen BK136.out 0
                                    have hfz63_1 := blk_frozen BK136.out 1
                                    have hfz63_2 := blk_frozen BK136.out 2
                                    go_upto_region 19 with (first | ((with_reducible refine gate_builtin (b := .append) (xs := #[.tmp 105, .tmp 107]) rfl ?_); (try (refine gate_guard (by rfl) ?_; dsimp only)); at_builtin; refine Kd.R_append k37 (w0 := w0) w0.heap.size rfl (.tmp 105) (.tmp 107) 25 37 (.agg #[(.string ⟨#[]⟩), (.int .i64 0), (.string ⟨#[]⟩)]) 40 rfl Try.underlying25 info37 rfl (by decide) (by omega) u0 x0_1 (⟨x137000_24, (wrap64 (1 + (Int.tmod (wrap64 (rd l2 (ji22))) 4))), x137002_35⟩ : S37) [.string x137000_24, .int .i64 (wrap64 (1 + (Int.tmod (wrap64 (rd l2 (ji22))) 4))), .string x137002_35] (fun k_ => (P0_ k_ ∨ w.heap.size ≤ k_) ∧ k_ ≠ gb136) (fun _ => False) rfl rfl ?aP (fun _ hk => hk.elim) ?aF ?aO ?aB ?aS ?aL ?_; (case aP => exact k37_mkM _ _ _ (⟨x137000_24, (wrap64 (1 + (Int.tmod (wrap64 (rd l2 (ji22))) 4))), x137002_35⟩ : S37)); (case aB => exact (by repeat (first | (with_reducible first | exact HB.out | apply below_alloc | apply pw_below_drewN | apply below_drew1 | refine below_set ?_ GE136.out) | exact HB.out))); (case aF => exact (fun k_ hk => ⟨(.inr (Nat.le_trans (by first | exact HK.out.1 | exact (show Kept w _ (fun k_ => P0_ k_) from by repeat (first | (with_reducible first | exact HK.out | apply Kept.alloc | apply Kept.drewN | apply Kept.drew | refine Kept.setCell ?_ (.inr GW136.out) _) | exact HK.out)).1) hk)), Kd.freshB (g := gb136) (o := .cells #[.string x137000_24, .int .i64 (wrap64 (1 + (Int.tmod (wrap64 (rd l2 (ji22))) 4))), .string x137002_35] 37 (0, 0)) (by (with_reducible repeat (first | refine blk_drewN ?_ _ | refine blk_drew ?_ | refine blk_alloc ?_ _)); exact BK136.out) k_ hk⟩)); (case aO => exact (by (with_reducible repeat (first | apply Kd.R_alloc | apply Kd.R_drewN | apply Kd.R_drew)); exact HO_0.out)); (case aS => exact (below_size (by repeat (first | (with_reducible first | exact HB.out | apply below_alloc | apply pw_below_drewN | apply below_drew1 | refine below_set ?_ GE136.out) | exact HB.out)))); (case aL => have := LMc61.out; omega); intro v147 w64 ho hb hg hat; rw [← Ny146.out] at ho; have n0_ := Aside0.mk (Kd.R_over' (by (with_reducible repeat (first | apply Kd.R_alloc | apply Kd.R_drewN | apply Kd.R_drew)); exact HO_11.out) (Kd.R_typed (by (with_reducible repeat (first | apply Kd.R_alloc | apply Kd.R_drewN | apply Kd.R_drew)); exact HO_0.out)) (by decide) hg); have n1_ := Aside0.mk (blk_grown (g := gb136) (o := .cells #[.string x137000_24, .int .i64 (wrap64 (1 + (Int.tmod (wrap64 (rd l2 (ji22))) 4))), .string x137002_35] 37 (0, 0)) (by (with_reducible repeat (first | refine blk_drewN ?_ _ | refine blk_drew ?_ | refine blk_alloc ?_ _)); exact BK136.out) hg (Kd.R_away HO_0.out (fun _ hk => hk.2))); have n2_ := Aside0.mk (hb); have n3_ := Aside0.mk (Kept.of_grown (S := (fun k_ => P0_ k_)) hg (by repeat (first | (with_reducible first | exact HK.out | apply Kept.alloc | apply Kept.drewN | apply Kept.drew | refine Kept.setCell ?_ (.inr GW136.out) _) | exact HK.out)) (fun k_ e_ => (HO_0.out.1 k_ e_).1)); have n4_ := Aside0.mk (ho); clear HO_11; clear BK136; clear HB; clear HK; clear HO_0; have HO_11 := n0_; have BK136 := n1_; have HB := n2_; have HK := n3_; have HO148 := n4_; clear n0_ n1_ n2_ n3_ n4_; clear ho hb hg hat))
                                    (try simp only [Act.put, List.setIfInBounds_toArray, List.set_cons_zero, List.set_cons_succ])
                                    go_cut [115] (fun v115 wc => ∃ (kq : Nat) (x115_61 : Bool), v115 = .bool x115_61 ∧ Aside0 (shelfmarklaw10_dir.j5 kq y146 a1 l2 l3 a4 y130 (wrap64 (ji19 + 1)) x13_1 x115_61 x137000_24 (wrap64 (1 + (Int.tmod (wrap64 (rd l2 (ji22))) 4))) x137002_35 = some r) ∧ Aside0 (kq ≤ kj35) ∧ Aside0 (Kd.R k37 37 wc w0.heap.size (fun k_ => (P0_ k_ ∨ w.heap.size ≤ k_) ∧ k_ ≠ gb136) v147 y146) ∧ Aside0 (Kd.R Kd.string 9 wc w0.heap.size (fun k_ => (P0_ k_ ∨ w.heap.size ≤ k_)) (.slice (some ad134) y130.length co26) y130) ∧ Aside0 (wc.heap[gb136]? = some (.cells #[.string x137000_24, .int .i64 (wrap64 (1 + (Int.tmod (wrap64 (rd l2 (ji22))) 4))), .string x137002_35] 37 (0, 0))) ∧ Aside0 (Kept w wc (fun k_ => P0_ k_)) ∧ Aside0 (Below w0.heap.size w0 wc))
                                    case first =>
                                      have H := HC62.out
                                      clear HC62
                                      by_cases c65 : (wrap64 (1 + (Int.tmod (wrap64 (rd l2 (ji22))) 4))) = 4
                                      · rw [if_pos c65] at H
                                        have c65b0 : ((wrap64 (1 + (Int.tmod (wrap64 (rd l2 (ji22))) 4))) == 4) = true := beq_iff_eq.mpr c65
                                        have c65b1 : ((wrap64 (1 + (Int.tmod (wrap64 (rd l2 (ji22))) 4))) != 4) = false := bne_eq_false_iff_eq.mpr c65
                                        clear c65
                                        (first | rw [c65b0] | (simp only [i64_w, i32_w]; rw [c65b0]) | skip)
                                        have H' := Aside0.mk H
                                        clear H
                                        have hcz66_0 : w64.cell? ⟨gb136, 0, none⟩ = some (.string x137000_24) := (blk_cell BK136.out 0).trans rfl
                                        have hcz66_1 : w64.cell? ⟨gb136, 1, none⟩ = some (.int .i64 (wrap64 (1 + (Int.tmod (wrap64 (rd l2 (ji22))) 4)))) := (blk_cell BK136.out 1).trans rfl
                                        have hcz66_2 : w64.cell? ⟨gb136, 2, none⟩ = some (.string x137002_35) := (blk_cell BK136.out 2).trans rfl
                                        have hfz66_0 := blk_frozen BK136.out 0
                                        have hfz66_1 := blk_frozen BK136.out 1
                                        have hfz66_2 := blk_frozen BK136.out 2
                                        go_wp2
                                        go_meet
                                        case rel => exact ⟨_, (decide (a4 < 3)), (by first | rfl | (simp; done) | (simp [*]; done) | (congr 1; rw [Bool.eq_iff_iff]; simp [bne]; done) | (rw [Bool.eq_iff_iff]; simp [bne]; done)), H', ⟨by have := HK1.out; have := HJ7.out; have := HJ24.out; have := HJ35.out; first | omega | exact Nat.le_refl _⟩, ⟨by (with_reducible repeat (first | apply Kd.R_alloc | apply Kd.R_drewN | apply Kd.R_drew)); exact HO148.out⟩, ⟨by (with_reducible repeat (first | apply Kd.R_alloc | apply Kd.R_drewN | apply Kd.R_drew)); exact HO_11.out⟩, ⟨by (with_reducible repeat (first | refine blk_drewN ?_ _ | refine blk_drew ?_ | refine blk_alloc ?_ _)); exact BK136.out⟩, ⟨by repeat (first | (with_reducible first | exact HK.out | apply Kept.alloc | apply Kept.drewN | apply Kept.drew | refine Kept.setCell ?_ (.inr GW136.out) _) | exact HK.out)⟩, ⟨by repeat (first | (with_reducible first | exact HB.out | apply below_alloc | apply pw_below_drewN | apply below_drew1 | refine below_set ?_ GE136.out) | exact HB.out)⟩⟩
                                      · rw [if_neg c65] at H
                                        have c65b0 : ((wrap64 (1 + (Int.tmod (wrap64 (rd l2 (ji22))) 4))) == 4) = false := beq_eq_false_iff_ne.mpr c65
                                        have c65b1 : ((wrap64 (1 + (Int.tmod (wrap64 (rd l2 (ji22))) 4))) != 4) = true := bne_iff_ne.mpr c65
                                        (first | rw [c65b0] | (simp only [i64_w, i32_w]; rw [c65b0]) | skip)
                                        have H' := Aside0.mk H
                                        clear H
                                        have hcz67_0 : w64.cell? ⟨gb136, 0, none⟩ = some (.string x137000_24) := (blk_cell BK136.out 0).trans rfl
                                        have hcz67_1 : w64.cell? ⟨gb136, 1, none⟩ = some (.int .i64 (wrap64 (1 + (Int.tmod (wrap64 (rd l2 (ji22))) 4)))) := (blk_cell BK136.out 1).trans rfl
                                        have hcz67_2 : w64.cell? ⟨gb136, 2, none⟩ = some (.string x137002_35) := (blk_cell BK136.out 2).trans rfl
                                        have hfz67_0 := blk_frozen BK136.out 0
                                        have hfz67_1 := blk_frozen BK136.out 1
                                        have hfz67_2 := blk_frozen BK136.out 2
                                        go_wp2
                                        go_meet
                                        case rel => exact ⟨_, (false), (by first | rfl | (simp; done) | (simp [*]; done) | (congr 1; rw [Bool.eq_iff_iff]; simp [bne]; done) | (rw [Bool.eq_iff_iff]; simp [bne]; done)), H', ⟨by have := HK1.out; have := HJ7.out; have := HJ24.out; have := HJ35.out; first | omega | exact Nat.le_refl _⟩, ⟨by (with_reducible repeat (first | apply Kd.R_alloc | apply Kd.R_drewN | apply Kd.R_drew)); exact HO148.out⟩, ⟨by (with_reducible repeat (first | apply Kd.R_alloc | apply Kd.R_drewN | apply Kd.R_drew)); exact HO_11.out⟩, ⟨by (with_reducible repeat (first | refine blk_drewN ?_ _ | refine blk_drew ?_ | refine blk_alloc ?_ _)); exact BK136.out⟩, ⟨by repeat (first | (with_reducible first | exact HK.out | apply Kept.alloc | apply Kept.drewN | apply Kept.drew | refine Kept.setCell ?_ (.inr GW136.out) _) | exact HK.out)⟩, ⟨by repeat (first | (with_reducible first | exact HB.out | apply below_alloc | apply pw_below_drewN | apply below_drew1 | refine below_set ?_ GE136.out) | exact HB.out)⟩⟩
                                    case rest =>
                                      clear HC62
                                      try clear c1
                                      try clear p1
                                      try clear q1
                                      try clear hx1
                                      try clear c2
                                      try clear p2
                                      try clear c3
                                      try clear c4
                                      try clear c5
                                      try clear q5
                                      skip
                                      try clear c6
                                      try clear p6
                                      try clear c9
                                      try clear c9b0
                                      try clear c10
                                      try clear c10b0
                                      try clear p13
                                      try clear q13
                                      try clear hx13
                                      try clear c14
                                      try clear p14
                                      try clear q14
                                      try clear hx14
                                      try clear c15
                                      try clear c15b0
                                      try clear c16
                                      try clear c16b0
                                      try clear c17
                                      try clear c17b0
                                      try clear c20
                                      try clear c20b0
                                      try clear c21
                                      try clear c21b0
                                      try clear c23
                                      try clear c23b0
                                      try clear c24
                                      try clear c24b0
                                      try clear c32
                                      try clear c32b0
                                      try clear c32b1
                                      try clear c33
                                      try clear c33b0
                                      try clear c33b1
                                      try clear c33b2
                                      try clear c34
                                      try clear c34b0
                                      try clear c34b1
                                      try clear c34b2
                                      try clear c36
                                      try clear c37
                                      try clear c39
                                      try clear c39b0
                                      try clear c39b1
                                      try clear c40
                                      try clear c42
                                      try clear c42b0
                                      try clear c43
                                      try clear c43b0
                                      try clear c45
                                      try clear c45b0
                                      try clear c45b1
                                      try clear c46
                                      try clear c46b0
                                      try clear c46b1
                                      try clear c47
                                      try clear c47b0
                                      try clear c47b1
                                      try clear c48
                                      try clear c48b0
                                      try clear c48b1
                                      try clear c48b2
                                      try clear c50
                                      try clear q50
                                      skip
                                      try clear c54
                                      try clear c54b0
                                      try clear c54b1
                                      try clear c56
                                      try clear c56b0
                                      try clear c57
                                      try clear c57b0
                                      try clear c59
                                      try clear c59b0
                                      try clear c59b1
                                      try clear c59b2
                                      try clear c61
                                      try clear p64
                                      try clear c65
                                      try clear c65b0
                                      try clear c65b1
                                      try clear hcz35_0
                                      try clear hcz35_1
                                      try clear hcz35_2
                                      try clear hcz37_0
                                      try clear hcz37_1
                                      try clear hcz37_2
                                      try clear hcz60_0
                                      try clear hcz60_1
                                      try clear hcz60_2
                                      try clear hcz63_0
                                      try clear hcz63_1
                                      try clear hcz63_2
                                      try clear hcz66_0
                                      try clear hcz66_1
                                      try clear hcz66_2
                                      try clear hcz67_0
                                      try clear hcz67_1
                                      try clear hcz67_2
                                      try clear hfz35_0
                                      try clear hfz35_1
                                      try clear hfz35_2
                                      try clear hfz37_0
                                      try clear hfz37_1
                                      try clear hfz37_2
                                      try clear hfz60_0
                                      try clear hfz60_1
                                      try clear hfz60_2
                                      try clear hfz63_0
                                      try clear hfz63_1
                                      try clear hfz63_2
                                      try clear hfz66_0
                                      try clear hfz66_1
                                      try clear hfz66_2
                                      try clear hfz67_0
                                      try clear hfz67_1
                                      try clear hfz67_2
                                      try clear hx133_0
                                      try clear hx134_0
                                      try clear hx135_0
                                      try clear hx137_0
                                      try clear hx138_0
                                      try clear hx144_0
                                      try clear p1
                                      try clear p13
                                      try clear p133
                                      try clear p134
                                      try clear p135
                                      try clear p137
                                      try clear p138
                                      try clear p14
                                      try clear p144
                                      try clear p2
                                      try clear p6
                                      try clear q050
                                      try clear q1
                                      try clear q13
                                      try clear q133
                                      try clear q134
                                      try clear q135
                                      try clear q137
                                      try clear q138
                                      try clear q14
                                      try clear q144
                                      try clear q5
                                      try clear q50
                                      obtain ⟨kq, x115_61, rfl, HA, HJ61, HO_0, HO_11, BK136, HK, HB⟩ := hcut
                                      cases kq with
                                      | zero => exact absurd HA.out (by simp [shelfmarklaw10_dir.j5])
                                      | succ kj61 =>
                                        have H := HA.out
                                        clear HA
                                        simp only [shelfmarklaw10_dir.j5] at H
                                        by_cases c68 : x115_61 = true
                                        · subst c68
                                          have H1 : (if 0 ≤ (wrap64 (x13_1 + 3)) then (if (wrap64 (x13_1 + 3)) ≤ (wrap64 (Int.tdiv (wrap64 ((wrap64 (x13_1 + 3)) + (l2.length : Int))) 2)) then (if (wrap64 (Int.tdiv (wrap64 ((wrap64 (x13_1 + 3)) + (l2.length : Int))) 2)) ≤ (l2.length : Int) then ((shelfmarklaw10_dir.f kj61 y146 x137000_24 ((l2.take ((wrap64 (Int.tdiv (wrap64 ((wrap64 (x13_1 + 3)) + (l2.length : Int))) 2)) : Int).toNat).drop ((wrap64 (x13_1 + 3)) : Int).toNat) l3 (wrap64 (a4 + 1))).bind fun t153 => (if 0 ≤ (wrap64 (Int.tdiv (wrap64 ((wrap64 (x13_1 + 3)) + (l2.length : Int))) 2)) then ((shelfmarklaw10_dir2.f kj61 t153 a1 (l2.drop ((wrap64 (Int.tdiv (wrap64 ((wrap64 (x13_1 + 3)) + (l2.length : Int))) 2)) : Int).toNat) l3 (wrap64 (ji19 + 1))).bind fun t160 => (some t160)) else (none))) else (none)) else (none)) else (none)) = some r := by rw [if_pos rfl] at H; exact H
                                          clear H
                                          have H := H1
                                          clear H1
                                          obtain ⟨ji69, hji69⟩ : ∃ j_ : Int, (wrap64 (x13_1 + 3)) = j_ := ⟨_, rfl⟩
                                          replace H : (if 0 ≤ (ji69) then (if (ji69) ≤ (wrap64 (Int.tdiv (wrap64 ((ji69) + (l2.length : Int))) 2)) then (if (wrap64 (Int.tdiv (wrap64 ((ji69) + (l2.length : Int))) 2)) ≤ (l2.length : Int) then ((shelfmarklaw10_dir.f kj61 y146 x137000_24 ((l2.take ((wrap64 (Int.tdiv (wrap64 ((ji69) + (l2.length : Int))) 2)) : Int).toNat).drop ((ji69) : Int).toNat) l3 (wrap64 (a4 + 1))).bind fun t153 => (if 0 ≤ (wrap64 (Int.tdiv (wrap64 ((ji69) + (l2.length : Int))) 2)) then ((shelfmarklaw10_dir2.f kj61 t153 a1 (l2.drop ((wrap64 (Int.tdiv (wrap64 ((ji69) + (l2.length : Int))) 2)) : Int).toNat) l3 (wrap64 (ji19 + 1))).bind fun t160 => (some t160)) else (none))) else (none)) else (none)) else (none)) = some r := by first | (rw [hji69] at H; exact H) | (simp only [hji69] at H ⊢; exact H)
                                          have hji69w : (IntKind.i64.wrap (x13_1 + 3)) = ji69 := (i64_w _).trans hji69
                                          by_cases c70 : 0 ≤ (ji69)
                                          · rw [if_pos c70] at H
                                            have c70b0 := eq_true c70
                                            have c70b1 : decide (0 ≤ (ji69)) = true := decide_eq_true c70
                                            clear c70
                                            by_cases c71 : (ji69) ≤ (wrap64 (Int.tdiv (wrap64 ((ji69) + (l2.length : Int))) 2))
                                            · rw [if_pos c71] at H
                                              have c71b0 := eq_true c71
                                              have c71b1 : decide ((ji69) ≤ (wrap64 (Int.tdiv (wrap64 ((ji69) + (l2.length : Int))) 2))) = true := decide_eq_true c71
                                              by_cases c72 : (wrap64 (Int.tdiv (wrap64 ((ji69) + (l2.length : Int))) 2)) ≤ (l2.length : Int)
                                              · rw [if_pos c72] at H
                                                have c72b0 := eq_true c72
                                                have c72b1 : decide ((wrap64 (Int.tdiv (wrap64 ((ji69) + (l2.length : Int))) 2)) ≤ (l2.length : Int)) = true := decide_eq_true c72
                                                obtain ⟨y149, hy149⟩ : ∃ y_ : List Int, y_ = ((l2.take ((wrap64 (Int.tdiv (wrap64 ((ji69) + (l2.length : Int))) 2)) : Int).toNat).drop ((ji69) : Int).toNat) := ⟨_, rfl⟩
                                                replace H : ((shelfmarklaw10_dir.f kj61 y146 x137000_24 y149 l3 (wrap64 (a4 + 1))).bind fun t153 => (if 0 ≤ (wrap64 (Int.tdiv (wrap64 ((ji69) + (l2.length : Int))) 2)) then ((shelfmarklaw10_dir2.f kj61 t153 a1 (l2.drop ((wrap64 (Int.tdiv (wrap64 ((ji69) + (l2.length : Int))) 2)) : Int).toNat) l3 (wrap64 (ji19 + 1))).bind fun t160 => (some t160)) else (none))) = some r := by first | (rw [hy149]; with_reducible exact H) | (have H2_ := (Option.bind_some _ _).symm.trans H; rw [hy149]; with_reducible exact H2_) | (have H2_ := (Option.bind_some _ _).symm.trans H; with_reducible exact H2_) | with_reducible exact H | (rw [hy149]; exact H) | exact H
                                                have Ny149 := Aside0.mk hy149
                                                clear hy149
                                                replace H := Option.bind_eq_some_iff.mp H
                                                obtain ⟨t153, A730, H⟩ := H
                                                replace H : (if 0 ≤ (wrap64 (Int.tdiv (wrap64 ((ji69) + (l2.length : Int))) 2)) then ((shelfmarklaw10_dir2.f kj61 t153 a1 (l2.drop ((wrap64 (Int.tdiv (wrap64 ((ji69) + (l2.length : Int))) 2)) : Int).toNat) l3 (wrap64 (ji19 + 1))).bind fun t160 => (some t160)) else (none)) = some r := H
                                                have A73 := Aside0.mk A730
                                                clear A730
                                                obtain ⟨ji74, hji74⟩ : ∃ j_ : Int, (wrap64 (Int.tdiv (wrap64 ((ji69) + (l2.length : Int))) 2)) = j_ := ⟨_, rfl⟩
                                                replace H : (if 0 ≤ (ji74) then ((shelfmarklaw10_dir2.f kj61 t153 a1 (l2.drop ((ji74) : Int).toNat) l3 (wrap64 (ji19 + 1))).bind fun t160 => (some t160)) else (none)) = some r := by first | (rw [hji74] at H; exact H) | (simp only [hji74] at H ⊢; exact H)
                                                (try rw [hji74] at c71b0)
                                                (try rw [hji74] at c71b1)
                                                (try rw [hji74] at c71)
                                                (try rw [hji74] at c72b0)
                                                (try rw [hji74] at c72b1)
                                                (try rw [hji74] at c72)
                                                (try rw [hji74] at Ny149)
                                                (try rw [hji74] at A73)
                                                have hji74w : (IntKind.i64.wrap (Int.tdiv (wrap64 ((ji69) + (l2.length : Int))) 2)) = ji74 := (i64_w _).trans hji74
                                                by_cases c75 : 0 ≤ (ji74)
                                                · rw [if_pos c75] at H
                                                  have c75b0 := eq_true c75
                                                  have c75b1 : decide (0 ≤ (ji74)) = true := decide_eq_true c75
                                                  clear c75
                                                  have c76b0 := eq_true (of_decide_eq_true (by first | (with_reducible assumption) | assumption) : (ji74) ≤ (l2.length : Int))
                                                  obtain ⟨y156, hy156⟩ : ∃ y_ : List Int, y_ = (l2.drop ((ji74) : Int).toNat) := ⟨_, rfl⟩
                                                  replace H : ((shelfmarklaw10_dir2.f kj61 t153 a1 y156 l3 (wrap64 (ji19 + 1))).bind fun t160 => (some t160)) = some r := by first | (rw [hy156]; with_reducible exact H) | (have H2_ := (Option.bind_some _ _).symm.trans H; rw [hy156]; with_reducible exact H2_) | (have H2_ := (Option.bind_some _ _).symm.trans H; with_reducible exact H2_) | with_reducible exact H | (rw [hy156]; exact H) | exact H
                                                  have Ny156 := Aside0.mk hy156
                                                  clear hy156
                                                  replace H := Option.bind_eq_some_iff.mp H
                                                  obtain ⟨t160, A770, H⟩ := H
                                                  replace H : (some t160) = some r := H
                                                  have A77 := Aside0.mk A770
                                                  clear A770
                                                  obtain rfl := Option.some.inj H
                                                  try go_wp2
                                                  have n0_ := Aside0.mk (Kd.R_drew HO_0.out)
                                                  have n1_ := Aside0.mk (Kd.R_drew HO_11.out)
                                                  have n2_ := Aside0.mk (blk_drew BK136.out)
                                                  have n3_ := Aside0.mk (Kept.drew HK.out)
                                                  have n4_ := Aside0.mk (below_drew1 HB.out)
                                                  clear HO_0
                                                  clear HO_11
                                                  clear BK136
                                                  clear HK
                                                  clear HB
                                                  have HO_0 := n0_
                                                  have HO_11 := n1_
                                                  have BK136 := n2_
                                                  have HK := n3_
                                                  have HB := n4_
                                                  clear n0_ n1_ n2_ n3_ n4_
                                                  have q79 : ((ji74) : Int) ≤ ((l2.length : Int) : Int) := of_decide_eq_true (by first | (with_reducible assumption) | assumption)
                                                  obtain ⟨i079, hi079, _, hsz79, _⟩ := info_parts info5
                                                  have hroom79 : l2.length ≤ c2 := HC2.out
                                                  have hC79 : Kd.C (Kd.int .u8) _ (some ad133) l2.length l2 := (Kd.C_kept_now HR2.out HK.out)
                                                  have ql79 : ((ji69) : Int) ≤ ((ji74) : Int) := of_decide_eq_true (by first | (with_reducible assumption) | assumption)
                                                  have q079 : (0 : Int) ≤ ((ji69) : Int) := of_decide_eq_true (by first | (with_reducible assumption) | assumption)
                                                  have hcut79 := cut_mid (P := Try.prog) 22 5 .i64 .i64 Try.underlying22 hi079 1 hsz79 (some ad133) l2.length c2 (ji69) (ji74) q079 ql79 q79 hroom79
                                                  have hr79 := Kd.C_mid (lo := ((ji69) : Int).toNat) (hi := ((ji74) : Int).toNat) (c := c2) hC79 (by omega) (by omega) hroom79
                                                  obtain ⟨A79, hA79⟩ : ∃ A1, A1 = (if c2 = ((ji69) : Int).toNat then (some ad133) else ((some ad133) : Option Addr).map (·.add (((ji69) : Int).toNat * 1))) := ⟨_, rfl⟩
                                                  obtain ⟨c79, hc79⟩ : ∃ c1, c1 = c2 - ((ji69) : Int).toNat := ⟨_, rfl⟩
                                                  have hy79 : y149.length = ((ji74) : Int).toNat - ((ji69) : Int).toNat := (by rw [Ny149.out, List.length_drop, List.length_take] <;> omega)
                                                  rw [show ((l2).take ((ji74) : Int).toNat).drop ((ji69) : Int).toNat = y149 from Ny149.out.symm] at hr79
                                                  replace hr79 : Kd.C (Kd.int .u8) _ A79 y149.length y149 := (by rw [hA79]; exact hr79)
                                                  rw [← hy79, ← hA79, ← hc79] at hcut79
                                                  have HR152 := Aside0.mk hr79
                                                  have HC152 := Aside0.mk (show y149.length ≤ c79 from by rw [hy79, hc79]; exact Nat.sub_le_sub_right (Nat.le_trans (by omega) hroom79) _)
                                                  clear hr79 hC79 hroom79 hi079 hsz79 hc79
                                                  have KY79 := Aside0.mk hy79
                                                  have KA79 := Aside0.mk hA79
                                                  clear hy79 hA79
                                                  have KL79 := Aside0.mk (show ((ji74) : Int).toNat ≤ l2.length from by omega)
                                                  have KM79 := Aside0.mk (show ((ji69) : Int).toNat ≤ ((ji74) : Int).toNat from by omega)
                                                  replace q79 := eq_true q79
                                                  obtain ⟨Ao80, co80, eo80⟩ := Kd.R_slice HO_0.out
                                                  (first | subst eo80 | (injection eo80 with f1_ f2_ f3_; have f4_ := f1_.symm; have f5_ := f3_.symm; clear f1_ f2_ f3_; subst f4_; subst f5_))
                                                  refine start_ (n := 13) (S := fun w' => w'.cell? ⟨gb136, 0, none⟩ = some (.string x137000_24) ∧ w'.cell? ⟨gb136, 1, none⟩ = some (.int .i64 (wrap64 (1 + (Int.tmod (wrap64 (rd l2 (ji22))) 4)))) ∧ w'.cell? ⟨gb136, 2, none⟩ = some (.string x137002_35)) (ds := []) #[false, false, false, false, false, false, false, false, false, false, false, false, false] (by kernel_rfl) rfl rfl ⟨(blk_cell BK136.out 0).trans rfl, (blk_cell BK136.out 1).trans rfl, (blk_cell BK136.out 2).trans rfl⟩ (fun hHeld => ?_); refine with_tabW shelfmarklaw10_dir.tab21 shelfmarklaw10_dir.bits21 (fun HT_ HW_ => ?_)
                                                  generalize wc.drew = w78 at HO_0 HO_11 BK136 HK HB HR152 hHeld ⊢
                                                  refine pure_ (i := 0) (N := some 122) (v := ?_) (a' := ?_) #[true, false, false, false, false, false, false, false, false, false, false, false, false] rfl rfl (any_of HT_.out (by kernel_rfl)) (fun _ _ _ h => h) (Or.inl ⟨by rfl, ?_⟩) ?_ ?_
                                                  rotate_left
                                                  · intro w'
                                                    go_simp
                                                    with_reducible rfl
                                                  rotate_left
                                                  · simp only [Act.put, List.setIfInBounds_toArray, List.set_cons_zero, List.set_cons_succ, i64_w, i32_w]
                                                    rfl
                                                  refine pure_ (i := 1) (N := some 123) (v := ?_) (a' := ?_) #[true, true, false, false, false, false, false, false, false, false, false, false, false] rfl rfl (any_of HT_.out (by kernel_rfl)) (fun _ _ _ h => h) (Or.inl ⟨by rfl, ?_⟩) ?_ ?_
                                                  rotate_left
                                                  · intro w'
                                                    go_simp
                                                    with_reducible rfl
                                                  rotate_left
                                                  · simp only [Act.put, List.setIfInBounds_toArray, List.set_cons_zero, List.set_cons_succ, i64_w, i32_w]
                                                    rfl
                                                  refine pure_ (i := 3) (N := some 125) (v := ?_) (a' := ?_) #[true, true, false, true, false, false, false, false, false, false, false, false, false] rfl rfl (any_of HT_.out (by kernel_rfl)) (fun _ _ _ h => h) (Or.inl ⟨by rfl, ?_⟩) ?_ ?_
                                                  rotate_left
                                                  · intro w'
                                                    go_simp
                                                    with_reducible rfl
                                                  rotate_left
                                                  · simp only [Act.put, List.setIfInBounds_toArray, List.set_cons_zero, List.set_cons_succ, i64_w, i32_w]
                                                    rfl
                                                  refine pure_ (i := 4) (N := some 126) (v := ?_) (a' := ?_) #[true, true, false, true, true, false, false, false, false, false, false, false, false] rfl rfl (any_of HT_.out (by kernel_rfl)) (fun _ _ _ h => h) (Or.inl ⟨by rfl, ?_⟩) ?_ ?_
                                                  rotate_left
                                                  · intro w'
                                                    go_simp
                                                    with_reducible rfl
                                                  rotate_left
                                                  · simp only [Act.put, List.setIfInBounds_toArray, List.set_cons_zero, List.set_cons_succ, i64_w, i32_w]
                                                    rfl
                                                  refine pure_ (i := 5) (N := some 127) (v := ?_) (a' := ?_) #[true, true, false, true, true, true, false, false, false, false, false, false, false] rfl rfl (any_of HT_.out (by kernel_rfl)) (fun _ _ _ h => h) (Or.inl ⟨by rfl, ?_⟩) ?_ ?_
                                                  rotate_left
                                                  · intro w'
                                                    go_simp
                                                    with_reducible rfl
                                                  rotate_left
                                                  · simp only [Act.put, List.setIfInBounds_toArray, List.set_cons_zero, List.set_cons_succ, i64_w, i32_w]
                                                    rfl
                                                  refine pure_ (i := 6) (N := some 128) (v := ?_) (a' := ?_) #[true, true, false, true, true, true, true, false, false, false, false, false, false] rfl rfl (any_of HT_.out (by kernel_rfl)) (fun _ _ _ h => h) (Or.inl ⟨by rfl, ?_⟩) ?_ ?_
                                                  rotate_left
                                                  · intro w'
                                                    go_simp
                                                    with_reducible rfl
                                                  rotate_left
                                                  · simp only [Act.put, List.setIfInBounds_toArray, List.set_cons_zero, List.set_cons_succ, i64_w, i32_w]
                                                    rfl
                                                  refine pure_ (i := 7) (N := some 129) (v := ?_) (a' := ?_) #[true, true, false, true, true, true, true, true, false, false, false, false, false] rfl rfl (any_of HT_.out (by kernel_rfl)) (fun _ _ _ h => h) (Or.inl ⟨by rfl, ?_⟩) ?_ ?_
                                                  rotate_left
                                                  · intro w'
                                                    go_simp
                                                    with_reducible rfl
                                                  rotate_left
                                                  · simp only [Act.put, List.setIfInBounds_toArray, List.set_cons_zero, List.set_cons_succ, i64_w, i32_w]
                                                    rfl
                                                  refine pure_ (i := 8) (N := some 130) (v := ?_) (a' := ?_) #[true, true, false, true, true, true, true, true, true, false, false, false, false] rfl rfl (any_of HT_.out (by kernel_rfl)) (fun _ _ _ h => h) (Or.inl ⟨by rfl, ?_⟩) ?_ ?_
                                                  rotate_left
                                                  · intro w'
                                                    go_simp
                                                    with_reducible rfl
                                                  rotate_left
                                                  · simp only [Act.put, List.setIfInBounds_toArray, List.set_cons_zero, List.set_cons_succ, i64_w, i32_w]
                                                    rfl
                                                  refine pure_ (i := 9) (N := some 131) (v := ?_) (a' := ?_) #[true, true, false, true, true, true, true, true, true, true, false, false, false] rfl rfl (any_of HT_.out (by kernel_rfl)) (fun _ _ _ h => h) (Or.inl ⟨by rfl, ?_⟩) ?_ ?_
                                                  rotate_left
                                                  · intro w'
                                                    go_simp
                                                    with_reducible rfl
                                                  rotate_left
                                                  · simp only [Act.put, List.setIfInBounds_toArray, List.set_cons_zero, List.set_cons_succ, i64_w, i32_w]
                                                    rfl
                                                  refine pure_ (i := 10) (N := some 132) (v := ?_) (a' := ?_) #[true, true, false, true, true, true, true, true, true, true, true, false, false] rfl rfl (any_of HT_.out (by kernel_rfl)) (fun _ _ _ h => h) (Or.inl ⟨by rfl, ?_⟩) ?_ ?_
                                                  rotate_left
                                                  · intro w'
                                                    go_simp
                                                    with_reducible rfl
                                                  rotate_left
                                                  · simp only [Act.put, List.setIfInBounds_toArray, List.set_cons_zero, List.set_cons_succ, i64_w, i32_w]
                                                    rfl
                                                  refine take_ (i := 2) (N := some 124) (v := ?_) (a' := ?_) #[true, true, true, true, true, true, true, true, true, true, true, false, false] rfl rfl (take_ofW HT_.out HW_.out (by kernel_rfl)) (fun _ _ _ h => h) (Or.inl ⟨by rfl, ?_⟩) hHeld ?_ ?_
                                                  rotate_left
                                                  · rintro w' ⟨s0, s1, s2⟩
                                                    go_simp
                                                    with_reducible rfl
                                                  rotate_left
                                                  · simp only [Act.put, List.setIfInBounds_toArray, List.set_cons_zero, List.set_cons_succ, i64_w, i32_w]
                                                    rfl
                                                  refine one_ (i := 11) (N := some 133) #[true, true, true, true, true, true, true, true, true, true, true, true, false] rfl rfl (one_of HT_.out (by kernel_rfl)) (by decide) (fun K hK => ?_)
                                                  refine goes_ Try.func37 (by kernel_rfl) rfl #[.slice Ao80 y146.length co80, .string x137000_24, .slice A79 y149.length c79, .slice A3 l3.length c3, .int .i64 (wrap64 (a4 + 1))] (by rfl) rfl rfl (by (try simp only [List.map_toArray, List.map_cons, List.map_nil]); first | done | rfl | (simp only [List.length_drop, List.length_take]; rfl)) ?_
                                                  with_reducible refine (ih kj61 (by have := HK1.out; have := HJ7.out; have := HJ24.out; have := HJ35.out; have := HJ61.out; omega) (fun k_ => some k_ = (.slice Ao80 y146.length co80 : Value).ownBlock) (.slice Ao80 y146.length co80) y146 x137000_24 _ _ y149 _ _ l3 (wrap64 (a4 + 1)) t153 w0 _ ?side1 ?side2 ?side3 ?side4 ?side5 ?side6 A73.out).mono ?_
                                                  (case side1 => repeat (first | (with_reducible first | exact HB.out | apply below_alloc | apply pw_below_drewN | apply below_drew1 | refine below_set ?_ GE136.out) | exact HB.out))
                                                  (case side2 => exact Kd.R_tight rfl HO_0.out)
                                                  (case side3 => exact fun W_ hk_ => (show Kd.C (Kd.int .u8) W_ A79 y149.length y149 from by rw [Ny149.out, KA79.out]; exact Kd.C_mid (lo := ((ji69) : Int).toNat) (hi := ((ji74) : Int).toNat) (c := c2) ((Kd.C_kept_call HR2.out (by repeat (first | (with_reducible first | exact HK.out | apply Kept.alloc | apply Kept.drewN | apply Kept.drew | refine Kept.setCell ?_ (.inr GW136.out) _) | exact HK.out)) (fun k_ hs_ => (fun e_ => (HO_0.out.1 k_ e_.symm).1) hs_)) W_ hk_) KM79.out KL79.out HC2.out))
                                                  (case side4 => exact HC152.out)
                                                  (case side5 => exact Kd.C_kept_call HR3.out (by repeat (first | (with_reducible first | exact HK.out | apply Kept.alloc | apply Kept.drewN | apply Kept.drew | refine Kept.setCell ?_ (.inr GW136.out) _) | exact HK.out)) (fun k_ hs_ => (fun e_ => (HO_0.out.1 k_ e_.symm).1) hs_))
                                                  (case side6 => exact HC3.out)
                                                  rintro e w81 ⟨v154, rfl, ho0, hb, hkp⟩
                                                  refine ⟨_, rfl, ?_⟩
                                                  have n0_ := Aside0.mk (Kd.R_mono (ok' := fun k_ => (P0_ k_ ∨ w.heap.size ≤ k_)) (Kd.R_keptB ((Kd.R_apart' HO_11.out (Kd.R_typed HO_0.out) (by decide))) hkp (fun k_ hk_ hs_ => (hk_.2) hs_)) (fun k_ hk_ => hk_.1.1))
                                                  have n1_ := Aside0.mk (blk_kept (by (with_reducible repeat (first | refine blk_drewN ?_ _ | refine blk_drew ?_ | refine blk_alloc ?_ _)); exact BK136.out) hkp (fun hs_ => (fun e_ => (Kd.R_away HO_0.out (fun _ hk => hk.2)) e_) hs_))
                                                  have n2_ := Aside0.mk (Kd.R_mono (ok' := fun k_ => (P0_ k_ ∨ w.heap.size ≤ k_) ∧ k_ ≠ gb136) ho0 (fun k_ hk_ => ⟨Or.elim hk_ (fun hs_ => (HO_0.out.1 k_ (hs_).symm).1) (fun hn_ => (.inr (Nat.le_trans (by first | exact HK.out.1 | exact (show Kept w _ (fun k_ => P0_ k_) from by repeat (first | (with_reducible first | exact HK.out | apply Kept.alloc | apply Kept.drewN | apply Kept.drew | refine Kept.setCell ?_ (.inr GW136.out) _) | exact HK.out)).1) hn_))), Or.elim hk_ (fun hs_ => fun e_ => (Kd.R_away HO_0.out (fun _ hk => hk.2)) (by rw [← e_]; exact hs_)) (fun hn_ => (Kd.freshB (g := gb136) (o := .cells #[.string x137000_24, .int .i64 (wrap64 (1 + (Int.tmod (wrap64 (rd l2 (ji22))) 4))), .string x137002_35] 37 (0, 0)) (by (with_reducible repeat (first | refine blk_drewN ?_ _ | refine blk_drew ?_ | refine blk_alloc ?_ _)); exact BK136.out) k_ hn_))⟩))
                                                  have n3_ := Aside0.mk (Kept.then_ (S := (fun k_ => P0_ k_)) (by repeat (first | (with_reducible first | exact HK.out | apply Kept.alloc | apply Kept.drewN | apply Kept.drew | refine Kept.setCell ?_ (.inr GW136.out) _) | exact HK.out)) hkp (fun k_ hs_ => (fun e_ => (HO_0.out.1 k_ e_.symm).1) hs_))
                                                  have n4_ := Aside0.mk (hb)
                                                  clear HO_11
                                                  clear BK136
                                                  clear HK
                                                  clear HB
                                                  clear HO_0
                                                  have HO_11 := n0_
                                                  have BK136 := n1_
                                                  have HO155 := n2_
                                                  have HK := n3_
                                                  have HB := n4_
                                                  clear n0_ n1_ n2_ n3_ n4_
                                                  (try clear hb)
                                                  (try clear hkp)
                                                  (try clear ho0)
                                                  refine hK.out _ _ ⟨(blk_cell BK136.out 0).trans rfl, (blk_cell BK136.out 1).trans rfl, (blk_cell BK136.out 2).trans rfl⟩ (fun hHeld => ?_)
                                                  clear hK K
                                                  refine norm_ (a' := ?_) ?_ ?_
                                                  rotate_left
                                                  · show Act.put _ (some 133) _ = _
                                                    simp only [Act.put, List.setIfInBounds_toArray, List.set_cons_zero, List.set_cons_succ, i64_w, i32_w]
                                                    rfl
                                                  refine pure_ (i := 12) (N := some 0) (v := ?_) (a' := ?_) #[true, true, true, true, true, true, true, true, true, true, true, true, true] rfl rfl (any_of HT_.out (by kernel_rfl)) (fun _ _ _ h => h) (Or.inl ⟨by rfl, ?_⟩) ?_ ?_
                                                  rotate_left
                                                  · intro w'
                                                    go_simp
                                                    with_reducible rfl
                                                  rotate_left
                                                  · simp only [Act.put, List.setIfInBounds_toArray, List.set_cons_zero, List.set_cons_succ, i64_w, i32_w]
                                                    rfl
                                                  refine done_ (done_of HT_.out (by kernel_rfl)) ?_
                                                  have q82 : ((ji74) : Int) ≤ ((l2.length : Int) : Int) := of_decide_eq_true (by first | (with_reducible assumption) | assumption)
                                                  obtain ⟨i082, hi082, _, hsz82, _⟩ := info_parts info5
                                                  have hroom82 : l2.length ≤ c2 := HC2.out
                                                  have hC82 : Kd.C (Kd.int .u8) _ (some ad133) l2.length l2 := (Kd.C_kept_now HR2.out HK.out)
                                                  have q082 : (0 : Int) ≤ ((ji74) : Int) := of_decide_eq_true (by first | (with_reducible assumption) | assumption)
                                                  have hcut82 := cut_from (P := Try.prog) 22 5 .i64 Try.underlying22 hi082 1 hsz82 (some ad133) l2.length c2 (ji74) q082 q82
                                                  have hr82 := Kd.C_drop (m := ((ji74) : Int).toNat) (c := c2) hC82 (by omega) hroom82
                                                  obtain ⟨A82, hA82⟩ : ∃ A1, A1 = (if c2 = ((ji74) : Int).toNat then (some ad133) else ((some ad133) : Option Addr).map (·.add (((ji74) : Int).toNat * 1))) := ⟨_, rfl⟩
                                                  obtain ⟨c82, hc82⟩ : ∃ c1, c1 = c2 - ((ji74) : Int).toNat := ⟨_, rfl⟩
                                                  have hy82 : y156.length = l2.length - ((ji74) : Int).toNat := (by rw [Ny156.out, List.length_drop] <;> omega)
                                                  rw [show (l2).drop ((ji74) : Int).toNat = y156 from Ny156.out.symm] at hr82
                                                  replace hr82 : Kd.C (Kd.int .u8) _ A82 y156.length y156 := (by rw [hA82]; exact hr82)
                                                  rw [← hy82, ← hA82, ← hc82] at hcut82
                                                  have HR159 := Aside0.mk hr82
                                                  have HC159 := Aside0.mk (show y156.length ≤ c82 from by rw [hy82, hc82]; exact Nat.sub_le_sub_right hroom82 _)
                                                  clear hr82 hC82 hroom82 hi082 hsz82 hc82
                                                  have KY82 := Aside0.mk hy82
                                                  have KA82 := Aside0.mk hA82
                                                  clear hy82 hA82
                                                  have KL82 := Aside0.mk (show ((ji74) : Int).toNat ≤ l2.length from by omega)
                                                  replace q82 := eq_true q82
                                                  obtain ⟨Ao83, co83, eo83⟩ := Kd.R_slice HO155.out
                                                  subst eo83
                                                  try go_wp2_with (first | ((with_reducible refine gate_callee (f := 61) rfl ?_); refine goesL_ (some 141) rfl rfl Try.func61 (by kernel_rfl) rfl #[.slice Ao83 t153.length co83, .string a1, .slice A82 y156.length c82, .slice A3 l3.length c3, .int .i64 (wrap64 (ji19 + 1))] rfl (by (try simp only [List.map_toArray, List.map_cons, List.map_nil]); first | done | (simp only [hji19]; rfl) | rfl | (simp only [List.length_drop, List.length_take]; rfl)) ?_; (with_reducible refine (shelfmarklaw10_dir2.calls kj61 (fun k_ => some k_ = (.slice Ao83 t153.length co83 : Value).ownBlock) (.slice Ao83 t153.length co83) t153 a1 _ _ y156 _ _ l3 (wrap64 (ji19 + 1)) t160 w0 _ ?side1 ?side2 ?side3 ?side4 ?side5 ?side6 A77.out).mono ?_); (case side1 => repeat (first | (with_reducible first | exact HB.out | apply below_alloc | apply pw_below_drewN | apply below_drew1 | refine below_set ?_ GE136.out) | exact HB.out)); (case side2 => exact Kd.R_tight rfl HO155.out); (case side3 => exact fun W_ hk_ => (show Kd.C (Kd.int .u8) W_ A82 y156.length y156 from by rw [Ny156.out, KA82.out]; exact Kd.C_drop (m := ((ji74) : Int).toNat) (c := c2) ((Kd.C_kept_call HR2.out (by repeat (first | (with_reducible first | exact HK.out | apply Kept.alloc | apply Kept.drewN | apply Kept.drew | refine Kept.setCell ?_ (.inr GW136.out) _) | exact HK.out)) (fun k_ hs_ => (fun e_ => (HO155.out.1 k_ e_.symm).1) hs_)) W_ hk_) KL82.out HC2.out)); (case side4 => exact HC159.out); (case side5 => exact Kd.C_kept_call HR3.out (by repeat (first | (with_reducible first | exact HK.out | apply Kept.alloc | apply Kept.drewN | apply Kept.drew | refine Kept.setCell ?_ (.inr GW136.out) _) | exact HK.out)) (fun k_ hs_ => (fun e_ => (HO155.out.1 k_ e_.symm).1) hs_)); (case side6 => exact HC3.out); rintro e w84 ⟨v161, rfl, ho0, hb, hkp⟩; refine ⟨_, rfl, ?_⟩; have n0_ := Aside0.mk (Kd.R_mono (ok' := fun k_ => (P0_ k_ ∨ w.heap.size ≤ k_)) (Kd.R_keptB ((Kd.R_apart' HO_11.out (Kd.R_typed HO155.out) (by decide))) hkp (fun k_ hk_ hs_ => (hk_.2) hs_)) (fun k_ hk_ => hk_.1.1)); have n1_ := Aside0.mk (blk_kept (by (with_reducible repeat (first | refine blk_drewN ?_ _ | refine blk_drew ?_ | refine blk_alloc ?_ _)); exact BK136.out) hkp (fun hs_ => (fun e_ => (Kd.R_away HO155.out (fun _ hk => hk.2)) e_) hs_)); have n2_ := Aside0.mk (Kd.R_mono (ok' := fun k_ => (P0_ k_ ∨ w.heap.size ≤ k_) ∧ k_ ≠ gb136) ho0 (fun k_ hk_ => ⟨Or.elim hk_ (fun hs_ => (HO155.out.1 k_ (hs_).symm).1) (fun hn_ => (.inr (Nat.le_trans (by first | exact HK.out.1 | exact (show Kept w _ (fun k_ => P0_ k_) from by repeat (first | (with_reducible first | exact HK.out | apply Kept.alloc | apply Kept.drewN | apply Kept.drew | refine Kept.setCell ?_ (.inr GW136.out) _) | exact HK.out)).1) hn_))), Or.elim hk_ (fun hs_ => fun e_ => (Kd.R_away HO155.out (fun _ hk => hk.2)) (by rw [← e_]; exact hs_)) (fun hn_ => (Kd.freshB (g := gb136) (o := .cells #[.string x137000_24, .int .i64 (wrap64 (1 + (Int.tmod (wrap64 (rd l2 (ji22))) 4))), .string x137002_35] 37 (0, 0)) (by (with_reducible repeat (first | refine blk_drewN ?_ _ | refine blk_drew ?_ | refine blk_alloc ?_ _)); exact BK136.out) k_ hn_))⟩)); have n3_ := Aside0.mk (Kept.then_ (S := (fun k_ => P0_ k_)) (by repeat (first | (with_reducible first | exact HK.out | apply Kept.alloc | apply Kept.drewN | apply Kept.drew | refine Kept.setCell ?_ (.inr GW136.out) _) | exact HK.out)) hkp (fun k_ hs_ => (fun e_ => (HO155.out.1 k_ e_.symm).1) hs_)); have n4_ := Aside0.mk (hb); clear HO_11; clear BK136; clear HK; clear HB; clear HO155; have HO_11 := n0_; have BK136 := n1_; have HO162 := n2_; have HK := n3_; have HB := n4_; clear n0_ n1_ n2_ n3_ n4_; (try clear hb); (try clear hkp); (try clear ho0)))
                                                  go_ret
                                                  exact ⟨_, by first | rfl | (simp [errW_none, errW_some] <;> rfl) | (simp only [← hji19, ← hji22, ← hji69, ← hji74]; first | rfl | (simp [errW_none, errW_some] <;> rfl)) | (simp [*, errW_none, errW_some] <;> rfl), by (with_reducible repeat (first | apply Kd.R_alloc | apply Kd.R_drewN | apply Kd.R_drew)); exact Kd.R_mono HO162.out (fun _ hk => hk.1), by repeat (first | (with_reducible first | exact HB.out | apply below_alloc | apply pw_below_drewN | apply below_drew1 | refine below_set ?_ GE136.out) | exact HB.out), by repeat (first | (with_reducible first | exact HK.out | apply Kept.alloc | apply Kept.drewN | apply Kept.drew | refine Kept.setCell ?_ (.inr GW136.out) _) | exact HK.out)⟩
                                                · rw [if_neg c75] at H
                                                  exact absurd H (by simp)
                                              · rw [if_neg c72] at H
                                                exact absurd H (by simp)
                                            · rw [if_neg c71] at H
                                              exact absurd H (by simp)
                                          · rw [if_neg c70] at H
                                            exact absurd H (by simp)
                                        · replace c68 := Bool.eq_false_iff.mpr c68
                                          subst c68
                                          have H1 : (shelfmarklaw10_dir.l0 kj61 y146 a1 l2 l3 a4 y130 (wrap64 (ji19 + 1)) (wrap64 (x13_1 + 3))) = some r := by rw [if_neg (show ¬ (false = true) by decide)] at H; exact H
                                          clear H
                                          have H := H1
                                          clear H1
                                          have H' := Aside0.mk H
                                          clear H
                                          go_wp2
                                          go_roundg kj61
                                          case measure => have := HK1.out; have := HJ7.out; have := HJ24.out; have := HJ35.out; have := HJ61.out; omega
                                          case rel => exact ⟨(y146), ((wrap64 (ji19 + 1))), (wrap64 (x13_1 + 3)), (by first | rfl | (simp; done) | (simp only [← hji19] <;> (first | rfl | simp)) | (simp [*]; done)), (by first | rfl | (simp; done) | (simp [*]; done) | (congr 1; rw [Bool.eq_iff_iff]; simp [bne]; done) | (rw [Bool.eq_iff_iff]; simp [bne]; done)), H', ⟨by have := HK1.out; have := HJ7.out; have := HJ24.out; have := HJ35.out; have := HJ61.out; omega⟩, ⟨by (with_reducible repeat (first | apply Kd.R_alloc | apply Kd.R_drewN | apply Kd.R_drew)); exact Kd.R_mono HO_0.out (fun _ hk => hk.1)⟩, ⟨by (with_reducible repeat (first | apply Kd.R_alloc | apply Kd.R_drewN | apply Kd.R_drew)); exact HO_11.out⟩, ⟨by repeat (first | (with_reducible first | exact HK.out | apply Kept.alloc | apply Kept.drewN | apply Kept.drew | refine Kept.setCell ?_ (.inr GW136.out) _) | exact HK.out)⟩, ⟨by repeat (first | (with_reducible first | exact HB.out | apply below_alloc | apply pw_below_drewN | apply below_drew1 | refine below_set ?_ GE136.out) | exact HB.out)⟩⟩
                                  · rw [if_neg c61] at H
                                    exact absurd H (by simp)
                        · rw [if_neg c24] at H
                          exact absurd H (by simp)
                      · rw [if_neg c23] at H
                        exact absurd H (by simp)
                    · rw [if_neg c21] at H
                      exact absurd H (by simp)
                  · rw [if_neg c20] at H
                    exact absurd H (by simp)
              · rw [if_neg c16] at H
                exact absurd H (by simp)
            · rw [if_neg c15] at H
              exact absurd H (by simp)
          · replace c14 := Bool.eq_false_iff.mpr c14
            subst c14
            have H1 : (some x0_1) = some r := by rw [if_neg (show ¬ (false = true) by decide)] at H; exact H
            clear H
            have H := H1
            clear H1
            obtain rfl := Option.some.inj H
            go_wp2
            go_ret
            exact ⟨_, by first | rfl | (simp [errW_none, errW_some] <;> rfl) | (simp [*, errW_none, errW_some] <;> rfl), by (with_reducible repeat (first | apply Kd.R_alloc | apply Kd.R_drewN | apply Kd.R_drew)); exact HO_0.out, by repeat (first | (with_reducible first | exact HB.out | apply below_alloc | apply pw_below_drewN | apply below_drew1) | exact HB.out), by repeat (first | (with_reducible first | exact HK.out | apply Kept.alloc | apply Kept.drewN | apply Kept.drew) | exact HK.out)⟩
end Go.Proofs.Ytncokgdfkbgflaa.P

namespace Go.Proofs.Ytncokgdfkbgflaa.P
open Go.RowKit Go.Proofs.YtncokgdfkbgflaaW.PrintWords Go.Proofs.YtncokgdfkbgflaaW.PrintLast Go.Proofs.YtncokgdfkbgflaaW.PrintMore
attribute [local go_sem] max2_int min2_int max_two min_two max_three min_three max_four min_four   -- for this text's walks alone
set_option linter.unusedVariables false
set_option linter.unusedSimpArgs false
mutual
def shelfmarklaw10_Tree.j0 : Nat → List Int → List ByteArray → Bool → ByteArray → Int → ByteArray → Option ((List (S37)))
  | 0, _, _, _, _, _, _ => none
  | k + 1, x0, x1, x28, x169000, x169001, x169002 => if x28 = true then (shelfmarklaw10_Tree.j1 k x0 x1 x169000 4 x169002) else (shelfmarklaw10_Tree.j1 k x0 x1 x169000 x169001 x169002)
def shelfmarklaw10_Tree.j1 : Nat → List Int → List ByteArray → ByteArray → Int → ByteArray → Option ((List (S37)))
  | 0, _, _, _, _, _ => none
  | k + 1, x0, x1, x169000, x169001, x169002 => (some (([(⟨x169000, x169001, x169002⟩ : S37)] : List (S37)) : List (S37))).bind fun y169 => (if x169001 = 3 then (if 0 < (y169.length : Int) then (some (y169.set (0 : Int).toNat (⟨(rd_T37 y169 0).f0, (rd_T37 y169 0).f1, (⟨#[116, 111]⟩ : ByteArray)⟩ : S37))) else (none)) else (if x169001 = 4 then ((shelfmarklaw10_dir.f k y169 (⟨#[]⟩ : ByteArray) x0 x1 0).bind fun t173 => (some t173)) else ((shelfmarklaw10_text.f x1 0).bind fun t176 => (if 1 + t176.size ≤ 9223372036854775807 then (if 0 < (y169.length : Int) then (some (y169.set (0 : Int).toNat (⟨(rd_T37 y169 0).f0, (rd_T37 y169 0).f1, (⟨#[116]⟩ : ByteArray) ++ t176⟩ : S37))) else (none)) else (none)))))
end
def shelfmarklaw10_Tree.f (k : Nat) (l0 : List Int) (l1 : List ByteArray) : Option ((List (S37))) := if (l0.length : Int) = 0 then ((shelfmarklaw10_text.f l1 0).bind fun t163 => (some (([(⟨(⟨#[]⟩ : ByteArray), 1, t163⟩ : S37)] : List (S37))))) else (if 0 < (l0.length : Int) then (if (wrap64 (1 + (Int.tmod (wrap64 (rd l0 0)) 5))) > 4 then (shelfmarklaw10_Tree.j0 k l0 l1 true (⟨#[]⟩ : ByteArray) (wrap64 (1 + (Int.tmod (wrap64 (rd l0 0)) 5))) (⟨#[]⟩ : ByteArray)) else (shelfmarklaw10_Tree.j0 k l0 l1 (decide ((l0.length : Int) > 3)) (⟨#[]⟩ : ByteArray) (wrap64 (1 + (Int.tmod (wrap64 (rd l0 0)) 5))) (⟨#[]⟩ : ByteArray))) else (none))
set_option maxHeartbeats 8000000 in
set_option maxRecDepth 100000 in
theorem shelfmarklaw10_Tree.calls (k : Nat) (A0 : Option Addr) (c0 : Nat) (l0 : List Int) (A1 : Option Addr) (c1 : Nat) (l1 : List ByteArray) (r : List (S37)) (w : World) (hr0 : Kd.C (Kd.int .u8) w A0 l0.length l0) (hc0 : l0.length ≤ c0) (hr1 : Kd.C Kd.string w A1 l1.length l1) (hc1 : l1.length ≤ c1) (h : shelfmarklaw10_Tree.f k l0 l1 = some r) :
    Calls Try.prog 12 #[.slice A0 l0.length c0, .slice A1 l1.length c1] w fun e w' => ∃ v0_ : Value, e = .returned (v0_) ∧ Kd.R k37 37 w' w.heap.size (fun _ => True) v0_ r ∧ Below w.heap.size w w' := by
  have hu37 := Try.underlying37
  have HR0 := Aside0.mk hr0
  have HC0 := Aside0.mk hc0
  clear hr0 hc0
  have HR1 := Aside0.mk hr1
  have HC1 := Aside0.mk hc1
  clear hr1 hc1
  have HB := Aside0.mk (Below.refl w.heap.size w)
  have H : (if (l0.length : Int) = 0 then ((shelfmarklaw10_text.f l1 0).bind fun t163 => (some (([(⟨(⟨#[]⟩ : ByteArray), 1, t163⟩ : S37)] : List (S37))))) else (if 0 < (l0.length : Int) then (if (wrap64 (1 + (Int.tmod (wrap64 (rd l0 0)) 5))) > 4 then (shelfmarklaw10_Tree.j0 k l0 l1 true (⟨#[]⟩ : ByteArray) (wrap64 (1 + (Int.tmod (wrap64 (rd l0 0)) 5))) (⟨#[]⟩ : ByteArray)) else (shelfmarklaw10_Tree.j0 k l0 l1 (decide ((l0.length : Int) > 3)) (⟨#[]⟩ : ByteArray) (wrap64 (1 + (Int.tmod (wrap64 (rd l0 0)) 5))) (⟨#[]⟩ : ByteArray))) else (none))) = some r := h
  clear h
  by_cases c3 : (l0.length : Int) = 0
  · rw [if_pos c3] at H
    have c3b0 : ((l0.length : Int) == 0) = true := beq_iff_eq.mpr c3
    have c3b1 : ((l0.length : Int) != 0) = false := bne_eq_false_iff_eq.mpr c3
    clear c3
    replace H := Option.bind_eq_some_iff.mp H
    obtain ⟨t163, A40, H⟩ := H
    replace H : (some (([(⟨(⟨#[]⟩ : ByteArray), 1, t163⟩ : S37)] : List (S37)))) = some r := H
    have A4 := Aside0.mk A40
    clear A40
    obtain ⟨y164, hy164⟩ : ∃ y_ : List (S37), y_ = (([(⟨(⟨#[]⟩ : ByteArray), 1, t163⟩ : S37)] : List (S37))) := ⟨_, rfl⟩
    replace H : (some y164) = some r := by first | (rw [hy164]; with_reducible exact H) | (have H2_ := (Option.bind_some _ _).symm.trans H; rw [hy164]; with_reducible exact H2_) | (have H2_ := (Option.bind_some _ _).symm.trans H; with_reducible exact H2_) | with_reducible exact H | (rw [hy164]; exact H) | exact H
    have Ny164 := Aside0.mk hy164
    clear hy164
    obtain rfl := Option.some.inj H
    go_enter Try.func12, Try.ntmps12
    go_wp2_with (first | ((with_reducible refine gate_callee (f := 36) rfl ?_); refine goesL_ (some 11) rfl rfl Try.func36 (by kernel_rfl) rfl #[.slice A1 l1.length c1, .int .i64 0] rfl (by (try simp only [List.map_toArray, List.map_cons, List.map_nil]); first | done | rfl | (simp only [List.length_drop, List.length_take]; rfl)) ?_; (with_reducible refine (shelfmarklaw10_text.calls _ _ l1 0 t163 _ ?side1 ?side2 A4.out).mono ?_); (case side1 => repeat (first | exact HR1.out | (with_reducible refine Kd.C_alloc ?_ _) | (with_reducible refine Kd.C_drewN ?_ _) | (with_reducible refine Kd.C_drew ?_))); (case side2 => exact HC1.out); rintro e w' ⟨rfl, ⟨nd, rfl⟩⟩; refine ⟨_, rfl, ?_⟩) | ((with_reducible refine gate_dst (N := 13) rfl ?_); (try (refine gate_guard (by rfl) ?_; dsimp only)); refine Kd.R_lit k37 _ 37 ?hg (N := 13) ?hd (xs := ([(⟨(⟨#[]⟩ : ByteArray), 1, t163⟩ : S37)] : List (S37))) (inner := [.string (⟨#[]⟩ : ByteArray), .int .i64 1, .string t163]) (ok := fun _ => True) (okp := fun _ => True) ?hr ?hp (fun _ hk => hk) trivial (Below.refl _ _) (Nat.le_refl _) (by simp) ?_; (case hd => rfl); (case hg => rfl); (case hr => first | (go_simp; done) | (go_simp; rfl)); (case hp => exact (Reps.c3 (show Kd.M k37 _ _ _ (⟨(⟨#[]⟩ : ByteArray), 1, t163⟩ : S37) [.string (⟨#[]⟩ : ByteArray), .int .i64 1, .string t163] from (k37_mkM _ _ _ (⟨(⟨#[]⟩ : ByteArray), 1, t163⟩ : S37) )) (Reps.none _ _))); intro v165 w5 ho6 hb hg_ hnew_; clear hg_ hnew_; (first | rw [← Ny164.out] at ho6 | (simp only [Int.reduceToNat] at ho6; rw [← Ny164.out] at ho6)); have n0_ := Aside0.mk (Kd.R_lower ho6 (below_size (by repeat (first | (with_reducible first | exact HB.out | apply below_alloc | apply pw_below_drewN | apply below_drew1) | exact HB.out)))); have n1_ := Aside0.mk (below_step (by repeat (first | (with_reducible first | exact HB.out | apply below_alloc | apply pw_below_drewN | apply below_drew1) | exact HB.out)) hb); clear HB; have HO166 := n0_; have HB := n1_; clear n0_ n1_; clear hb ho6))
    go_ret
    exact ⟨_, by first | rfl | (simp [errW_none, errW_some] <;> rfl) | (simp [*, errW_none, errW_some] <;> rfl), by (with_reducible repeat (first | apply Kd.R_alloc | apply Kd.R_drewN | apply Kd.R_drew)); exact HO166.out, by repeat (first | (with_reducible first | exact HB.out | apply below_alloc | apply pw_below_drewN | apply below_drew1) | exact HB.out)⟩
  · rw [if_neg c3] at H
    have c3b0 : ((l0.length : Int) == 0) = false := beq_eq_false_iff_ne.mpr c3
    have c3b1 : ((l0.length : Int) != 0) = true := bne_iff_ne.mpr c3
    have c3b2 : ¬ (l0 = []) := fun h_ => c3 (by rw [h_]; rfl)
    by_cases c7 : 0 < (l0.length : Int)
    · rw [if_pos c7] at H
      have c7b0 : decide (0 < (l0.length : Int)) = true := decide_eq_true c7
      have c7b1 : decide (0 < l0.length) = true := decide_eq_true (by omega)
      clear c7
      have HC8 := Aside0.mk H
      clear H
      have p167 : 0 ≤ (0 : Int) := (by omega)
      have q167 : 0 < (l0.length : Int) := of_decide_eq_true (by first | (with_reducible assumption) | assumption)
      obtain ⟨ad167, e167, hx167_0⟩ := Kd.at_int HR0.out 0 p167 q167
      cases e167
      have qi167 : (0 < l0.length) = True := eq_true (by omega)
      (try rw [show ((0 : Int)).toNat = 0 from rfl] at hx167_0)
      (try rw [Addr.add_zero'] at hx167_0)
      replace p167 := eq_true p167
      replace q167 := eq_true q167
      go_enter Try.func12, Try.ntmps12
      go_upto_region 4 with (first | ((with_reducible refine gate_dst (N := 5) rfl ?_); (try (refine gate_guard (by rfl) ?_; dsimp only)); refine box_event ?hg (N := 5) ?hd (cs := #[.string (⟨#[]⟩ : ByteArray), .int .i64 0, .string (⟨#[]⟩ : ByteArray)]) (t := 37) ?hr ?_; (case hd => rfl); (case hg => rfl); (case hr => first | (go_simp; done) | (go_simp; rfl)); intro gb168 hg w9 hbox hb; have n0_ := Aside0.mk (below_step (by repeat (first | (with_reducible first | exact HB.out | apply below_alloc | apply pw_below_drewN | apply below_drew1) | exact HB.out)) hb); have n1_ := Aside0.mk (hbox); have n2_ := Aside0.mk ((by rw [hg]; exact (below_size (by repeat (first | (with_reducible first | exact HB.out | apply below_alloc | apply pw_below_drewN | apply below_drew1) | exact HB.out))) : w.heap.size ≤ gb168)); have n3_ := Aside0.mk ((by rw [hg]; exact (below_size (by repeat (first | (with_reducible first | exact HB.out | apply below_alloc | apply pw_below_drewN | apply below_drew1) | exact HB.out))) : w.heap.size ≤ gb168)); clear HB; have HB := n0_; have BK168 := n1_; have GW168 := n2_; have GE168 := n3_; clear n0_ n1_ n2_ n3_; clear hb hbox hg; have hcz10_0 : w9.cell? ⟨gb168, 0, none⟩ = some (.string (⟨#[]⟩ : ByteArray)) := (blk_cell BK168.out 0).trans rfl; have hcz10_1 : w9.cell? ⟨gb168, 1, none⟩ = some (.int .i64 0) := (blk_cell BK168.out 1).trans rfl; have hcz10_2 : w9.cell? ⟨gb168, 2, none⟩ = some (.string (⟨#[]⟩ : ByteArray)) := (blk_cell BK168.out 2).trans rfl; have hfz10_0 := blk_frozen BK168.out 0; have hfz10_1 := blk_frozen BK168.out 1; have hfz10_2 := blk_frozen BK168.out 2))
      (try simp only [Act.put, List.setIfInBounds_toArray, List.set_cons_zero, List.set_cons_succ])
      go_cut [28] (fun v28 wc => ∃ (kq : Nat) (x28_7 : Bool), v28 = .bool x28_7 ∧ Aside0 (shelfmarklaw10_Tree.j0 kq l0 l1 x28_7 (⟨#[]⟩ : ByteArray) (wrap64 (1 + (Int.tmod (wrap64 (rd l0 0)) 5))) (⟨#[]⟩ : ByteArray) = some r) ∧ Aside0 (kq ≤ k) ∧ Aside0 (wc.heap[gb168]? = some (.cells #[.string (⟨#[]⟩ : ByteArray), .int .i64 (wrap64 (1 + (Int.tmod (wrap64 (rd l0 0)) 5))), .string (⟨#[]⟩ : ByteArray)] 37 (0, 0))) ∧ Aside0 (Below w.heap.size w wc))
      case first =>
        have H := HC8.out
        clear HC8
        by_cases c11 : (wrap64 (1 + (Int.tmod (wrap64 (rd l0 0)) 5))) > 4
        · rw [if_pos c11] at H
          have c11b0 : decide (4 < (wrap64 (1 + (Int.tmod (wrap64 (rd l0 0)) 5)))) = true := decide_eq_true c11
          clear c11
          (first | rw [c11b0] | (simp only [i64_w, i32_w]; rw [c11b0]) | skip)
          have H' := Aside0.mk H
          clear H
          have hcz12_0 : w9.cell? ⟨gb168, 0, none⟩ = some (.string (⟨#[]⟩ : ByteArray)) := (blk_cell BK168.out 0).trans rfl
          have hcz12_1 : w9.cell? ⟨gb168, 1, none⟩ = some (.int .i64 0) := (blk_cell BK168.out 1).trans rfl
          have hcz12_2 : w9.cell? ⟨gb168, 2, none⟩ = some (.string (⟨#[]⟩ : ByteArray)) := (blk_cell BK168.out 2).trans rfl
          have hfz12_0 := blk_frozen BK168.out 0
          have hfz12_1 := blk_frozen BK168.out 1
          have hfz12_2 := blk_frozen BK168.out 2
          go_wp2
          go_meet
          case rel => exact ⟨_, (true), (by first | rfl | (simp; done) | (simp [*]; done) | (congr 1; rw [Bool.eq_iff_iff]; simp [bne]; done) | (rw [Bool.eq_iff_iff]; simp [bne]; done)), H', ⟨by first | omega | exact Nat.le_refl _⟩, ⟨by (with_reducible repeat (first | refine blk_drewN ?_ _ | refine blk_drew ?_ | refine blk_alloc ?_ _)); refine blk_put (cs := #[.string (⟨#[]⟩ : ByteArray), .int .i64 (wrap64 (1 + (Int.tmod (wrap64 (rd l0 0)) 5))), .string (⟨#[]⟩ : ByteArray)]) ?_ 2 _ rfl; (with_reducible repeat (first | refine blk_drewN ?_ _ | refine blk_drew ?_ | refine blk_alloc ?_ _)); refine blk_put (cs := #[.string (⟨#[]⟩ : ByteArray), .int .i64 0, .string (⟨#[]⟩ : ByteArray)]) ?_ 1 _ rfl; (with_reducible repeat (first | refine blk_drewN ?_ _ | refine blk_drew ?_ | refine blk_alloc ?_ _)); refine blk_put (cs := #[.string (⟨#[]⟩ : ByteArray), .int .i64 0, .string (⟨#[]⟩ : ByteArray)]) ?_ 0 _ rfl; (with_reducible repeat (first | refine blk_drewN ?_ _ | refine blk_drew ?_ | refine blk_alloc ?_ _)); exact BK168.out⟩, ⟨by repeat (first | (with_reducible first | exact HB.out | apply below_alloc | apply pw_below_drewN | apply below_drew1 | refine below_set ?_ GE168.out) | exact HB.out)⟩⟩
        · rw [if_neg c11] at H
          have c11b0 : decide (4 < (wrap64 (1 + (Int.tmod (wrap64 (rd l0 0)) 5)))) = false := decide_eq_false c11
          clear c11
          (first | rw [c11b0] | (simp only [i64_w, i32_w]; rw [c11b0]) | skip)
          have H' := Aside0.mk H
          clear H
          have hcz13_0 : w9.cell? ⟨gb168, 0, none⟩ = some (.string (⟨#[]⟩ : ByteArray)) := (blk_cell BK168.out 0).trans rfl
          have hcz13_1 : w9.cell? ⟨gb168, 1, none⟩ = some (.int .i64 0) := (blk_cell BK168.out 1).trans rfl
          have hcz13_2 : w9.cell? ⟨gb168, 2, none⟩ = some (.string (⟨#[]⟩ : ByteArray)) := (blk_cell BK168.out 2).trans rfl
          have hfz13_0 := blk_frozen BK168.out 0
          have hfz13_1 := blk_frozen BK168.out 1
          have hfz13_2 := blk_frozen BK168.out 2
          go_wp2
          go_meet
          case rel => exact ⟨_, (decide ((l0.length : Int) > 3)), (by first | rfl | (simp; done) | (simp [*]; done) | (congr 1; rw [Bool.eq_iff_iff]; simp [bne]; done) | (rw [Bool.eq_iff_iff]; simp [bne]; done)), H', ⟨by first | omega | exact Nat.le_refl _⟩, ⟨by (with_reducible repeat (first | refine blk_drewN ?_ _ | refine blk_drew ?_ | refine blk_alloc ?_ _)); refine blk_put (cs := #[.string (⟨#[]⟩ : ByteArray), .int .i64 (wrap64 (1 + (Int.tmod (wrap64 (rd l0 0)) 5))), .string (⟨#[]⟩ : ByteArray)]) ?_ 2 _ rfl; (with_reducible repeat (first | refine blk_drewN ?_ _ | refine blk_drew ?_ | refine blk_alloc ?_ _)); refine blk_put (cs := #[.string (⟨#[]⟩ : ByteArray), .int .i64 0, .string (⟨#[]⟩ : ByteArray)]) ?_ 1 _ rfl; (with_reducible repeat (first | refine blk_drewN ?_ _ | refine blk_drew ?_ | refine blk_alloc ?_ _)); refine blk_put (cs := #[.string (⟨#[]⟩ : ByteArray), .int .i64 0, .string (⟨#[]⟩ : ByteArray)]) ?_ 0 _ rfl; (with_reducible repeat (first | refine blk_drewN ?_ _ | refine blk_drew ?_ | refine blk_alloc ?_ _)); exact BK168.out⟩, ⟨by repeat (first | (with_reducible first | exact HB.out | apply below_alloc | apply pw_below_drewN | apply below_drew1 | refine below_set ?_ GE168.out) | exact HB.out)⟩⟩
      case rest =>
        clear HC8
        try clear c1
        try clear p1
        try clear q1
        try clear hx1
        try clear qi1
        try clear p2
        try clear c3
        try clear c3b0
        try clear c3b1
        try clear c3b2
        try clear p6
        try clear c7
        try clear c7b0
        try clear c7b1
        try clear c11
        try clear c11b0
        try clear c12
        try clear hcz10_0
        try clear hcz10_1
        try clear hcz10_2
        try clear hcz12_0
        try clear hcz12_1
        try clear hcz12_2
        try clear hcz13_0
        try clear hcz13_1
        try clear hcz13_2
        try clear hfz10_0
        try clear hfz10_1
        try clear hfz10_2
        try clear hfz12_0
        try clear hfz12_1
        try clear hfz12_2
        try clear hfz13_0
        try clear hfz13_1
        try clear hfz13_2
        try clear hx167_0
        try clear p167
        try clear q167
        obtain ⟨kq, x28_7, rfl, HA, HJ7, BK168, HB⟩ := hcut
        cases kq with
        | zero => exact absurd HA.out (by simp [shelfmarklaw10_Tree.j0])
        | succ kj7 =>
          have H := HA.out
          clear HA
          simp only [shelfmarklaw10_Tree.j0] at H
          have HC14 := Aside0.mk H
          clear H
          go_upto_if 28 with (fail)
          go_cut [] (fun wc => ∃ (kq : Nat) (x169001_13 : Int), Aside0 (shelfmarklaw10_Tree.j1 kq l0 l1 (⟨#[]⟩ : ByteArray) x169001_13 (⟨#[]⟩ : ByteArray) = some r) ∧ Aside0 (kq ≤ kj7) ∧ Aside0 (wc.heap[gb168]? = some (.cells #[.string (⟨#[]⟩ : ByteArray), .int .i64 x169001_13, .string (⟨#[]⟩ : ByteArray)] 37 (0, 0))) ∧ Aside0 (Below w.heap.size w wc))
          case first =>
            have H := HC14.out
            clear HC14
            by_cases c15 : x28_7 = true
            · subst c15
              have H1 : (shelfmarklaw10_Tree.j1 kj7 l0 l1 (⟨#[]⟩ : ByteArray) 4 (⟨#[]⟩ : ByteArray)) = some r := by rw [if_pos rfl] at H; exact H
              clear H
              have H := H1
              clear H1
              have H' := Aside0.mk H
              clear H
              have hcz16_0 : wc.cell? ⟨gb168, 0, none⟩ = some (.string (⟨#[]⟩ : ByteArray)) := (blk_cell BK168.out 0).trans rfl
              have hcz16_1 : wc.cell? ⟨gb168, 1, none⟩ = some (.int .i64 (wrap64 (1 + (Int.tmod (wrap64 (rd l0 0)) 5)))) := (blk_cell BK168.out 1).trans rfl
              have hcz16_2 : wc.cell? ⟨gb168, 2, none⟩ = some (.string (⟨#[]⟩ : ByteArray)) := (blk_cell BK168.out 2).trans rfl
              have hfz16_0 := blk_frozen BK168.out 0
              have hfz16_1 := blk_frozen BK168.out 1
              have hfz16_2 := blk_frozen BK168.out 2
              go_wp2
              go_meet
              case rel => exact ⟨_, (4), H', ⟨by have := HJ7.out; first | omega | exact Nat.le_refl _⟩, ⟨by (with_reducible repeat (first | refine blk_drewN ?_ _ | refine blk_drew ?_ | refine blk_alloc ?_ _)); refine blk_put (cs := #[.string (⟨#[]⟩ : ByteArray), .int .i64 (wrap64 (1 + (Int.tmod (wrap64 (rd l0 0)) 5))), .string (⟨#[]⟩ : ByteArray)]) ?_ 1 _ rfl; (with_reducible repeat (first | refine blk_drewN ?_ _ | refine blk_drew ?_ | refine blk_alloc ?_ _)); exact BK168.out⟩, ⟨by repeat (first | (with_reducible first | exact HB.out | apply below_alloc | apply pw_below_drewN | apply below_drew1 | refine below_set ?_ GE168.out) | exact HB.out)⟩⟩
            · replace c15 := Bool.eq_false_iff.mpr c15
              subst c15
              have H1 : (shelfmarklaw10_Tree.j1 kj7 l0 l1 (⟨#[]⟩ : ByteArray) (wrap64 (1 + (Int.tmod (wrap64 (rd l0 0)) 5))) (⟨#[]⟩ : ByteArray)) = some r := by rw [if_neg (show ¬ (false = true) by decide)] at H; exact H
              clear H
              have H := H1
              clear H1
              have H' := Aside0.mk H
              clear H
              go_wp2
              go_meet
              case rel => exact ⟨_, ((wrap64 (1 + (Int.tmod (wrap64 (rd l0 0)) 5)))), H', ⟨by have := HJ7.out; first | omega | exact Nat.le_refl _⟩, ⟨by (with_reducible repeat (first | refine blk_drewN ?_ _ | refine blk_drew ?_ | refine blk_alloc ?_ _)); exact BK168.out⟩, ⟨by repeat (first | (with_reducible first | exact HB.out | apply below_alloc | apply pw_below_drewN | apply below_drew1 | refine below_set ?_ GE168.out) | exact HB.out)⟩⟩
          case rest =>
            clear HC14
            try clear c1
            try clear p1
            try clear q1
            try clear hx1
            try clear qi1
            try clear p2
            try clear c3
            try clear c3b0
            try clear c3b1
            try clear c3b2
            try clear p6
            try clear c7
            try clear c7b0
            try clear c7b1
            try clear c11
            try clear c11b0
            try clear c12
            try clear c15
            try clear p16
            try clear q16
            try clear hx16
            try clear qi16
            try clear hcz10_0
            try clear hcz10_1
            try clear hcz10_2
            try clear hcz12_0
            try clear hcz12_1
            try clear hcz12_2
            try clear hcz13_0
            try clear hcz13_1
            try clear hcz13_2
            try clear hcz16_0
            try clear hcz16_1
            try clear hcz16_2
            try clear hfz10_0
            try clear hfz10_1
            try clear hfz10_2
            try clear hfz12_0
            try clear hfz12_1
            try clear hfz12_2
            try clear hfz13_0
            try clear hfz13_1
            try clear hfz13_2
            try clear hfz16_0
            try clear hfz16_1
            try clear hfz16_2
            try clear hx167_0
            try clear p1
            try clear p167
            try clear p2
            try clear p6
            try clear q1
            try clear q167
            obtain ⟨kq, x169001_13, HA, HJ13, BK168, HB⟩ := hcut
            cases kq with
            | zero => exact absurd HA.out (by simp [shelfmarklaw10_Tree.j1])
            | succ kj13 =>
              have H := HA.out
              clear HA
              simp only [shelfmarklaw10_Tree.j1] at H
              obtain ⟨y169, hy169⟩ : ∃ y_ : List (S37), y_ = (([(⟨(⟨#[]⟩ : ByteArray), x169001_13, (⟨#[]⟩ : ByteArray)⟩ : S37)] : List (S37))) := ⟨_, rfl⟩
              replace H : (if x169001_13 = 3 then (if 0 < (y169.length : Int) then (some (y169.set (0 : Int).toNat (⟨(rd_T37 y169 0).f0, (rd_T37 y169 0).f1, (⟨#[116, 111]⟩ : ByteArray)⟩ : S37))) else (none)) else (if x169001_13 = 4 then ((shelfmarklaw10_dir.f kj13 y169 (⟨#[]⟩ : ByteArray) l0 l1 0).bind fun t173 => (some t173)) else ((shelfmarklaw10_text.f l1 0).bind fun t176 => (if 1 + t176.size ≤ 9223372036854775807 then (if 0 < (y169.length : Int) then (some (y169.set (0 : Int).toNat (⟨(rd_T37 y169 0).f0, (rd_T37 y169 0).f1, (⟨#[116]⟩ : ByteArray) ++ t176⟩ : S37))) else (none)) else (none))))) = some r := by first | (rw [hy169]; with_reducible exact H) | (have H2_ := (Option.bind_some _ _).symm.trans H; rw [hy169]; with_reducible exact H2_) | (have H2_ := (Option.bind_some _ _).symm.trans H; with_reducible exact H2_) | with_reducible exact H | (rw [hy169]; exact H) | exact H
              have Ny169 := Aside0.mk hy169
              clear hy169
              by_cases c17 : x169001_13 = 3
              · rw [if_pos c17] at H
                have c17b0 : (x169001_13 == 3) = true := beq_iff_eq.mpr c17
                have c17b1 : (x169001_13 != 3) = false := bne_eq_false_iff_eq.mpr c17
                clear c17
                by_cases c18 : 0 < (y169.length : Int)
                · rw [if_pos c18] at H
                  have c18b0 : decide (0 < (y169.length : Int)) = true := decide_eq_true c18
                  have c18b1 : decide (0 < y169.length) = true := decide_eq_true (by omega)
                  clear c18
                  obtain ⟨y172, hy172⟩ : ∃ y_ : List (S37), y_ = (y169.set (0 : Int).toNat (⟨(rd_T37 y169 0).f0, (rd_T37 y169 0).f1, (⟨#[116, 111]⟩ : ByteArray)⟩ : S37)) := ⟨_, rfl⟩
                  replace H : (some y172) = some r := by first | (rw [hy172]; with_reducible exact H) | (have H2_ := (Option.bind_some _ _).symm.trans H; rw [hy172]; with_reducible exact H2_) | (have H2_ := (Option.bind_some _ _).symm.trans H; with_reducible exact H2_) | with_reducible exact H | (rw [hy172]; exact H) | exact H
                  have Ny172 := Aside0.mk hy172
                  clear hy172
                  obtain rfl := Option.some.inj H
                  have hcz20_0 : wc.cell? ⟨gb168, 0, none⟩ = some (.string (⟨#[]⟩ : ByteArray)) := (blk_cell BK168.out 0).trans rfl
                  have hcz20_1 : wc.cell? ⟨gb168, 1, none⟩ = some (.int .i64 x169001_13) := (blk_cell BK168.out 1).trans rfl
                  have hcz20_2 : wc.cell? ⟨gb168, 2, none⟩ = some (.string (⟨#[]⟩ : ByteArray)) := (blk_cell BK168.out 2).trans rfl
                  have hfz20_0 := blk_frozen BK168.out 0
                  have hfz20_1 := blk_frozen BK168.out 1
                  have hfz20_2 := blk_frozen BK168.out 2
                  go_wp2_with (first | ((with_reducible refine gate_dst (N := 31) rfl ?_); (try (refine gate_guard (by rfl) ?_; dsimp only)); refine Kd.R_lit k37 _ 37 ?hg (N := 31) ?hd (xs := ([(⟨(⟨#[]⟩ : ByteArray), x169001_13, (⟨#[]⟩ : ByteArray)⟩ : S37)] : List (S37))) (inner := [.string (⟨#[]⟩ : ByteArray), .int .i64 x169001_13, .string (⟨#[]⟩ : ByteArray)]) (ok := fun _ => True) (okp := fun _ => True) ?hr ?hp (fun _ hk => hk) trivial (Below.refl _ _) (Nat.le_refl _) (by simp) ?_; (case hd => rfl); (case hg => rfl); (case hr => first | (go_simp; done) | (go_simp; rfl)); (case hp => exact (Reps.c3 (show Kd.M k37 _ _ _ (⟨(⟨#[]⟩ : ByteArray), x169001_13, (⟨#[]⟩ : ByteArray)⟩ : S37) [.string (⟨#[]⟩ : ByteArray), .int .i64 x169001_13, .string (⟨#[]⟩ : ByteArray)] from (k37_mkM _ _ _ (⟨(⟨#[]⟩ : ByteArray), x169001_13, (⟨#[]⟩ : ByteArray)⟩ : S37) )) (Reps.none _ _))); intro v170 w21 ho22 hb hg_ hnew_; clear hg_ hnew_; (first | rw [← Ny169.out] at ho22 | (simp only [Int.reduceToNat] at ho22; rw [← Ny169.out] at ho22)); have n0_ := Aside0.mk (Kd.R_lower (Kd.R_newB ho22 (g := gb168) (o := .cells #[.string (⟨#[]⟩ : ByteArray), .int .i64 x169001_13, .string (⟨#[]⟩ : ByteArray)] 37 (0, 0)) (by (with_reducible repeat (first | refine blk_drewN ?_ _ | refine blk_drew ?_ | refine blk_alloc ?_ _)); exact BK168.out)) (below_size (by repeat (first | (with_reducible first | exact HB.out | apply below_alloc | apply pw_below_drewN | apply below_drew1 | refine below_set ?_ GE168.out) | exact HB.out)))); have n1_ := Aside0.mk (blk_below (g := gb168) (o := .cells #[.string (⟨#[]⟩ : ByteArray), .int .i64 x169001_13, .string (⟨#[]⟩ : ByteArray)] 37 (0, 0)) (by (with_reducible repeat (first | refine blk_drewN ?_ _ | refine blk_drew ?_ | refine blk_alloc ?_ _)); exact BK168.out) hb); have n2_ := Aside0.mk (below_step (by repeat (first | (with_reducible first | exact HB.out | apply below_alloc | apply pw_below_drewN | apply below_drew1 | refine below_set ?_ GE168.out) | exact HB.out)) hb); clear BK168; clear HB; have HO171 := n0_; have BK168 := n1_; have HB := n2_; clear n0_ n1_ n2_; clear hb ho22; have hcz23_0 : w21.cell? ⟨gb168, 0, none⟩ = some (.string (⟨#[]⟩ : ByteArray)) := (blk_cell BK168.out 0).trans rfl; have hcz23_1 : w21.cell? ⟨gb168, 1, none⟩ = some (.int .i64 x169001_13) := (blk_cell BK168.out 1).trans rfl; have hcz23_2 : w21.cell? ⟨gb168, 2, none⟩ = some (.string (⟨#[]⟩ : ByteArray)) := (blk_cell BK168.out 2).trans rfl; have hfz23_0 := blk_frozen BK168.out 0; have hfz23_1 := blk_frozen BK168.out 1; have hfz23_2 := blk_frozen BK168.out 2; have p19 : 0 ≤ (0 : Int) := (by omega); have q19 : (0 : Int) < ((y169.length : Int) : Int) := of_decide_eq_true (by first | (with_reducible assumption) | assumption); have qi19 : (0 < y169.length) = True := eq_true (by omega); obtain ⟨go19, co19, eo19, gb19, gl19, cl19, HG19⟩ := Kd.R_form HO171.out (by omega); (first | cases eo19 | (injection eo19 with ea_ en_ ec_; (first | subst ea_ | (injection ea_ with ea_; subst ea_)); subst ec_; clear en_)); have GB19 := Aside0.mk gb19; have GG19 := Aside0.mk HG19; clear gb19 gl19 HG19; obtain ⟨ce19, hcl19, hM19, hcc19, hfr19⟩ := Kd.R_elem HO171.out z37 (0 : Int) p19 q19; obtain rfl := k37_openM hM19; have hx19_0 : w21.cell? ⟨go19, (0 : Int).toNat * 3, none⟩ = some (.string ((rd_T37 y169 0).f0)) := hcc19 0 _ rfl; have hx19_1 : w21.cell? ⟨go19, (0 : Int).toNat * 3 + 1, none⟩ = some (.int .i64 ((rd_T37 y169 0).f1)) := hcc19 1 _ rfl; have hx19_2 : w21.cell? ⟨go19, (0 : Int).toNat * 3 + 2, none⟩ = some (.string ((rd_T37 y169 0).f2)) := hcc19 2 _ rfl; have hf19_0 : w21.frozen? ⟨go19, (0 : Int).toNat * 3, none⟩ = false := hfr19 0; have hf19_1 : w21.frozen? ⟨go19, (0 : Int).toNat * 3 + 1, none⟩ = false := hfr19 1; have hf19_2 : w21.frozen? ⟨go19, (0 : Int).toNat * 3 + 2, none⟩ = false := hfr19 2; clear hcl19 hcc19 hfr19 hM19; (try rw [show ((0 : Int)).toNat = 0 from rfl] at hx19_0); (try simp only [Nat.reduceMul, Nat.zero_mul, Nat.zero_add, Nat.reduceAdd] at hx19_0); (try rw [show ((0 : Int)).toNat = 0 from rfl] at hf19_0); (try simp only [Nat.reduceMul, Nat.zero_mul, Nat.zero_add, Nat.reduceAdd] at hf19_0); (try rw [show ((0 : Int)).toNat = 0 from rfl] at hx19_1); (try simp only [Nat.reduceMul, Nat.zero_mul, Nat.zero_add, Nat.reduceAdd] at hx19_1); (try rw [show ((0 : Int)).toNat = 0 from rfl] at hf19_1); (try simp only [Nat.reduceMul, Nat.zero_mul, Nat.zero_add, Nat.reduceAdd] at hf19_1); (try rw [show ((0 : Int)).toNat = 0 from rfl] at hx19_2); (try simp only [Nat.reduceMul, Nat.zero_mul, Nat.zero_add, Nat.reduceAdd] at hx19_2); (try rw [show ((0 : Int)).toNat = 0 from rfl] at hf19_2); (try simp only [Nat.reduceMul, Nat.zero_mul, Nat.zero_add, Nat.reduceAdd] at hf19_2); replace p19 := eq_true p19; replace q19 := eq_true q19; (first | (have n_ := Aside0.mk (Kd.R_mono (ok' := (fun k_ => k_ ≠ gb168)) HO171.out (fun k_ hk => hk.2))) | (have n_ := HO171)); clear HO171; have HO171 := n_; clear n_; have HX24 := Aside0.mk (show Kd.R k37 37 w21 w.heap.size (fun k_ => k_ ≠ gb168) (.slice (some ⟨go19, 0, none⟩) y169.length co19) y169 from (by (with_reducible repeat (first | apply Kd.R_alloc | apply Kd.R_drewN | apply Kd.R_drew)); exact HO171.out)); obtain ⟨ce24, hcl24, hM24, hcc24, hfr24⟩ := Kd.R_elem HX24.out z37 (0 : Int) (by omega) (by have h_ : (0 : Int) < ((y169.length : Int) : Int) := of_decide_eq_true (by first | (with_reducible assumption) | assumption); first | exact h_ | (have e_ := (Kd.R_reads' HO171.out).1; omega) | simpa using h_); obtain rfl := k37_openM hM24; have HP24 := Kd.R_seg HX24.out (0 : Int) (by omega) (by have h_ : (0 : Int) < ((y169.length : Int) : Int) := of_decide_eq_true (by first | (with_reducible assumption) | assumption); first | exact h_ | (have e_ := (Kd.R_reads' HO171.out).1; omega) | simpa using h_) (seg := [.string (⟨#[116, 111]⟩ : ByteArray)]) (j := 2) hcl24 hcc24 (show 3 ≤ 3 from by decide) (x' := (⟨(rd_T37 y169 0).f0, (rd_T37 y169 0).f1, (⟨#[116, 111]⟩ : ByteArray)⟩ : S37)) (k37_mkM _ _ _ (⟨(rd_T37 y169 0).f0, (rd_T37 y169 0).f1, (⟨#[116, 111]⟩ : ByteArray)⟩ : S37) ) (fun _ hk => hk); have hx24_2 := hcc24 2 _ rfl; (try simp only [show (k37).sz = 3 from rfl, Nat.mul_one, Nat.add_zero] at hx24_2); (try rw [show ((0 : Int)).toNat = 0 from rfl] at hx24_2); (try simp only [Nat.reduceMul, Nat.zero_mul, Nat.zero_add, Nat.reduceAdd] at hx24_2); have hf24_2 := hfr24 2; (try simp only [show (k37).sz = 3 from rfl, Nat.mul_one, Nat.add_zero] at hf24_2); (try rw [show ((0 : Int)).toNat = 0 from rfl] at hf24_2); (try simp only [Nat.reduceMul, Nat.zero_mul, Nat.zero_add, Nat.reduceAdd] at hf24_2); clear hcl24 hcc24 hfr24 hM24) | ((with_reducible refine gate_store (t := 9) (p := 37) rfl ?_); refine store_event (t := 9) (p := 37) (v := ?vo_w25) (w1 := (w21.setCell ⟨go19, 2, none⟩ (.string (⟨#[116, 111]⟩ : ByteArray)))) ?hg ?ho ?hn ?hr ?_; (case ho => rfl); (case hg => rfl); (case hn => rfl); (case hr => first | (go_simp; done) | (go_simp; rfl)); intro w25 hw; have hg : w21.grownBy w25 (some go19) := (by rw [hw]; exact HP24.2); have hp_ : Kd.R k37 37 w25 w.heap.size (fun k_ => k_ ≠ gb168) (.slice (some ⟨go19, 0, none⟩) y169.length co19) y172 := (by rw [hw, Ny172.out]; exact HP24.1); clear HP24; have n0_ := Aside0.mk (blk_grown (g := gb168) (o := .cells #[.string (⟨#[]⟩ : ByteArray), .int .i64 x169001_13, .string (⟨#[]⟩ : ByteArray)] 37 (0, 0)) (by (with_reducible repeat (first | refine blk_drewN ?_ _ | refine blk_drew ?_ | refine blk_alloc ?_ _)); exact BK168.out) hg (Kd.R_away HO171.out (fun _ hk => hk))); have n1_ := Aside0.mk (hp_); have n2_ := Aside0.mk ((by rw [hw]; exact below_set (HB.out) GB19.out : Below w.heap.size w w25)); clear BK168; clear HO171; clear HB; have BK168 := n0_; have HO171 := n1_; have HB := n2_; clear n0_ n1_ n2_; clear hg hw hp_))
                  go_ret
                  exact ⟨_, by first | rfl | (simp [errW_none, errW_some] <;> rfl) | (simp [*, errW_none, errW_some] <;> rfl), by (with_reducible repeat (first | apply Kd.R_alloc | apply Kd.R_drewN | apply Kd.R_drew)); exact Kd.R_mono HO171.out (fun _ hk => trivial), by repeat (first | (with_reducible first | exact HB.out | apply below_alloc | apply pw_below_drewN | apply below_drew1 | refine below_set ?_ GE168.out) | exact HB.out)⟩
                · rw [if_neg c18] at H
                  exact absurd H (by simp)
              · rw [if_neg c17] at H
                have c17b0 : (x169001_13 == 3) = false := beq_eq_false_iff_ne.mpr c17
                have c17b1 : (x169001_13 != 3) = true := bne_iff_ne.mpr c17
                by_cases c26 : x169001_13 = 4
                · rw [if_pos c26] at H
                  have c26b0 : (x169001_13 == 4) = true := beq_iff_eq.mpr c26
                  have c26b1 : (x169001_13 != 4) = false := bne_eq_false_iff_eq.mpr c26
                  clear c26
                  replace H := Option.bind_eq_some_iff.mp H
                  obtain ⟨t173, A270, H⟩ := H
                  replace H : (some t173) = some r := H
                  have A27 := Aside0.mk A270
                  clear A270
                  obtain rfl := Option.some.inj H
                  have hcz28_0 : wc.cell? ⟨gb168, 0, none⟩ = some (.string (⟨#[]⟩ : ByteArray)) := (blk_cell BK168.out 0).trans rfl
                  have hcz28_1 : wc.cell? ⟨gb168, 1, none⟩ = some (.int .i64 x169001_13) := (blk_cell BK168.out 1).trans rfl
                  have hcz28_2 : wc.cell? ⟨gb168, 2, none⟩ = some (.string (⟨#[]⟩ : ByteArray)) := (blk_cell BK168.out 2).trans rfl
                  have hfz28_0 := blk_frozen BK168.out 0
                  have hfz28_1 := blk_frozen BK168.out 1
                  have hfz28_2 := blk_frozen BK168.out 2
                  go_wp2_with (first | ((with_reducible refine gate_dst (N := 31) rfl ?_); (try (refine gate_guard (by rfl) ?_; dsimp only)); refine Kd.R_lit k37 _ 37 ?hg (N := 31) ?hd (xs := ([(⟨(⟨#[]⟩ : ByteArray), x169001_13, (⟨#[]⟩ : ByteArray)⟩ : S37)] : List (S37))) (inner := [.string (⟨#[]⟩ : ByteArray), .int .i64 x169001_13, .string (⟨#[]⟩ : ByteArray)]) (ok := fun _ => True) (okp := fun _ => True) ?hr ?hp (fun _ hk => hk) trivial (Below.refl _ _) (Nat.le_refl _) (by simp) ?_; (case hd => rfl); (case hg => rfl); (case hr => first | (go_simp; done) | (go_simp; rfl)); (case hp => exact (Reps.c3 (show Kd.M k37 _ _ _ (⟨(⟨#[]⟩ : ByteArray), x169001_13, (⟨#[]⟩ : ByteArray)⟩ : S37) [.string (⟨#[]⟩ : ByteArray), .int .i64 x169001_13, .string (⟨#[]⟩ : ByteArray)] from (k37_mkM _ _ _ (⟨(⟨#[]⟩ : ByteArray), x169001_13, (⟨#[]⟩ : ByteArray)⟩ : S37) )) (Reps.none _ _))); intro v170 w29 ho30 hb hg_ hnew_; clear hg_ hnew_; (first | rw [← Ny169.out] at ho30 | (simp only [Int.reduceToNat] at ho30; rw [← Ny169.out] at ho30)); have n0_ := Aside0.mk (Kd.R_lower (Kd.R_newB ho30 (g := gb168) (o := .cells #[.string (⟨#[]⟩ : ByteArray), .int .i64 x169001_13, .string (⟨#[]⟩ : ByteArray)] 37 (0, 0)) (by (with_reducible repeat (first | refine blk_drewN ?_ _ | refine blk_drew ?_ | refine blk_alloc ?_ _)); exact BK168.out)) (below_size (by repeat (first | (with_reducible first | exact HB.out | apply below_alloc | apply pw_below_drewN | apply below_drew1 | refine below_set ?_ GE168.out) | exact HB.out)))); have n1_ := Aside0.mk (blk_below (g := gb168) (o := .cells #[.string (⟨#[]⟩ : ByteArray), .int .i64 x169001_13, .string (⟨#[]⟩ : ByteArray)] 37 (0, 0)) (by (with_reducible repeat (first | refine blk_drewN ?_ _ | refine blk_drew ?_ | refine blk_alloc ?_ _)); exact BK168.out) hb); have n2_ := Aside0.mk (below_step (by repeat (first | (with_reducible first | exact HB.out | apply below_alloc | apply pw_below_drewN | apply below_drew1 | refine below_set ?_ GE168.out) | exact HB.out)) hb); clear BK168; clear HB; have HO171 := n0_; have BK168 := n1_; have HB := n2_; clear n0_ n1_ n2_; clear hb ho30; have hcz31_0 : w29.cell? ⟨gb168, 0, none⟩ = some (.string (⟨#[]⟩ : ByteArray)) := (blk_cell BK168.out 0).trans rfl; have hcz31_1 : w29.cell? ⟨gb168, 1, none⟩ = some (.int .i64 x169001_13) := (blk_cell BK168.out 1).trans rfl; have hcz31_2 : w29.cell? ⟨gb168, 2, none⟩ = some (.string (⟨#[]⟩ : ByteArray)) := (blk_cell BK168.out 2).trans rfl; have hfz31_0 := blk_frozen BK168.out 0; have hfz31_1 := blk_frozen BK168.out 1; have hfz31_2 := blk_frozen BK168.out 2; obtain ⟨Ao32, co32, eo32⟩ := Kd.R_slice HO171.out; subst eo32) | ((with_reducible refine gate_callee (f := 37) rfl ?_); refine goesL_ (some 52) rfl rfl Try.func37 (by kernel_rfl) rfl #[.slice Ao32 y169.length co32, .string (⟨#[]⟩ : ByteArray), .slice (some ad167) l0.length c0, .slice A1 l1.length c1, .int .i64 0] rfl (by (try simp only [List.map_toArray, List.map_cons, List.map_nil]); first | done | rfl | (simp only [List.length_drop, List.length_take]; rfl)) ?_; (with_reducible refine (shelfmarklaw10_dir.calls kj13 (fun k_ => some k_ = (.slice Ao32 y169.length co32 : Value).ownBlock) (.slice Ao32 y169.length co32) y169 (⟨#[]⟩ : ByteArray) _ _ l0 _ _ l1 0 t173 w _ ?side1 ?side2 ?side3 ?side4 ?side5 ?side6 A27.out).mono ?_); (case side1 => repeat (first | (with_reducible first | exact HB.out | apply below_alloc | apply pw_below_drewN | apply below_drew1 | refine below_set ?_ GE168.out) | exact HB.out)); (case side2 => exact Kd.R_tight rfl HO171.out); (case side3 => exact Kd.C_kept_came (Kd.heap_int .u8) HR0.out (by repeat (first | (with_reducible first | exact HB.out | apply below_alloc | apply pw_below_drewN | apply below_drew1 | refine below_set ?_ GE168.out) | exact HB.out)) (fun k_ hs_ => (fun e_ => Kd.R_base HO171.out k_ e_.symm) hs_)); (case side4 => exact HC0.out); (case side5 => exact Kd.C_kept_came Kd.heap_string HR1.out (by repeat (first | (with_reducible first | exact HB.out | apply below_alloc | apply pw_below_drewN | apply below_drew1 | refine below_set ?_ GE168.out) | exact HB.out)) (fun k_ hs_ => (fun e_ => Kd.R_base HO171.out k_ e_.symm) hs_)); (case side6 => exact HC1.out); rintro e w33 ⟨v174, rfl, ho0, hb, hkp⟩; refine ⟨_, rfl, ?_⟩; have n0_ := Aside0.mk (blk_kept (by (with_reducible repeat (first | refine blk_drewN ?_ _ | refine blk_drew ?_ | refine blk_alloc ?_ _)); exact BK168.out) hkp (fun hs_ => (fun e_ => (Kd.R_away HO171.out (fun _ hk => hk.2)) e_) hs_)); have n1_ := Aside0.mk (Kd.R_mono (ok' := fun k_ => k_ ≠ gb168) ho0 (fun k_ hk_ => Or.elim hk_ (fun hs_ => fun e_ => (Kd.R_away HO171.out (fun _ hk => hk.2)) (by rw [← e_]; exact hs_)) (fun hn_ => (Kd.freshB (g := gb168) (o := .cells #[.string (⟨#[]⟩ : ByteArray), .int .i64 x169001_13, .string (⟨#[]⟩ : ByteArray)] 37 (0, 0)) (by (with_reducible repeat (first | refine blk_drewN ?_ _ | refine blk_drew ?_ | refine blk_alloc ?_ _)); exact BK168.out) k_ hn_)))); have n2_ := Aside0.mk (hb); clear BK168; clear HB; clear HO171; have BK168 := n0_; have HO175 := n1_; have HB := n2_; clear n0_ n1_ n2_; (try clear hb); (try clear hkp); (try clear ho0)))
                  go_ret
                  exact ⟨_, by first | rfl | (simp [errW_none, errW_some] <;> rfl) | (simp [*, errW_none, errW_some] <;> rfl), by (with_reducible repeat (first | apply Kd.R_alloc | apply Kd.R_drewN | apply Kd.R_drew)); exact Kd.R_mono HO175.out (fun _ hk => trivial), by repeat (first | (with_reducible first | exact HB.out | apply below_alloc | apply pw_below_drewN | apply below_drew1 | refine below_set ?_ GE168.out) | exact HB.out)⟩
                · rw [if_neg c26] at H
                  have c26b0 : (x169001_13 == 4) = false := beq_eq_false_iff_ne.mpr c26
                  have c26b1 : (x169001_13 != 4) = true := bne_iff_ne.mpr c26
                  replace H := Option.bind_eq_some_iff.mp H
                  obtain ⟨t176, A340, H⟩ := H
                  replace H : (if 1 + t176.size ≤ 9223372036854775807 then (if 0 < (y169.length : Int) then (some (y169.set (0 : Int).toNat (⟨(rd_T37 y169 0).f0, (rd_T37 y169 0).f1, (⟨#[116]⟩ : ByteArray) ++ t176⟩ : S37))) else (none)) else (none)) = some r := H
                  have A34 := Aside0.mk A340
                  clear A340
                  by_cases c35 : 1 + t176.size ≤ 9223372036854775807
                  · rw [if_pos c35] at H
                    have c35b0 := eq_true c35
                    have c35b1 : decide (1 + t176.size ≤ 9223372036854775807) = true := decide_eq_true c35
                    try have c35b2 : (9223372036854775807 < 1 + t176.size) = False := eq_false (Nat.not_lt.2 c35)
                    by_cases c36 : 0 < (y169.length : Int)
                    · rw [if_pos c36] at H
                      have c36b0 : decide (0 < (y169.length : Int)) = true := decide_eq_true c36
                      have c36b1 : decide (0 < y169.length) = true := decide_eq_true (by omega)
                      clear c36
                      obtain ⟨y177, hy177⟩ : ∃ y_ : List (S37), y_ = (y169.set (0 : Int).toNat (⟨(rd_T37 y169 0).f0, (rd_T37 y169 0).f1, (⟨#[116]⟩ : ByteArray) ++ t176⟩ : S37)) := ⟨_, rfl⟩
                      replace H : (some y177) = some r := by first | (rw [hy177]; with_reducible exact H) | (have H2_ := (Option.bind_some _ _).symm.trans H; rw [hy177]; with_reducible exact H2_) | (have H2_ := (Option.bind_some _ _).symm.trans H; with_reducible exact H2_) | with_reducible exact H | (rw [hy177]; exact H) | exact H
                      have Ny177 := Aside0.mk hy177
                      clear hy177
                      obtain rfl := Option.some.inj H
                      have hcz38_0 : wc.cell? ⟨gb168, 0, none⟩ = some (.string (⟨#[]⟩ : ByteArray)) := (blk_cell BK168.out 0).trans rfl
                      have hcz38_1 : wc.cell? ⟨gb168, 1, none⟩ = some (.int .i64 x169001_13) := (blk_cell BK168.out 1).trans rfl
                      have hcz38_2 : wc.cell? ⟨gb168, 2, none⟩ = some (.string (⟨#[]⟩ : ByteArray)) := (blk_cell BK168.out 2).trans rfl
                      have hfz38_0 := blk_frozen BK168.out 0
                      have hfz38_1 := blk_frozen BK168.out 1
                      have hfz38_2 := blk_frozen BK168.out 2
                      go_wp2_with (first | ((with_reducible refine gate_dst (N := 31) rfl ?_); (try (refine gate_guard (by rfl) ?_; dsimp only)); refine Kd.R_lit k37 _ 37 ?hg (N := 31) ?hd (xs := ([(⟨(⟨#[]⟩ : ByteArray), x169001_13, (⟨#[]⟩ : ByteArray)⟩ : S37)] : List (S37))) (inner := [.string (⟨#[]⟩ : ByteArray), .int .i64 x169001_13, .string (⟨#[]⟩ : ByteArray)]) (ok := fun _ => True) (okp := fun _ => True) ?hr ?hp (fun _ hk => hk) trivial (Below.refl _ _) (Nat.le_refl _) (by simp) ?_; (case hd => rfl); (case hg => rfl); (case hr => first | (go_simp; done) | (go_simp; rfl)); (case hp => exact (Reps.c3 (show Kd.M k37 _ _ _ (⟨(⟨#[]⟩ : ByteArray), x169001_13, (⟨#[]⟩ : ByteArray)⟩ : S37) [.string (⟨#[]⟩ : ByteArray), .int .i64 x169001_13, .string (⟨#[]⟩ : ByteArray)] from (k37_mkM _ _ _ (⟨(⟨#[]⟩ : ByteArray), x169001_13, (⟨#[]⟩ : ByteArray)⟩ : S37) )) (Reps.none _ _))); intro v170 w39 ho40 hb hg_ hnew_; clear hg_ hnew_; (first | rw [← Ny169.out] at ho40 | (simp only [Int.reduceToNat] at ho40; rw [← Ny169.out] at ho40)); have n0_ := Aside0.mk (Kd.R_lower (Kd.R_newB ho40 (g := gb168) (o := .cells #[.string (⟨#[]⟩ : ByteArray), .int .i64 x169001_13, .string (⟨#[]⟩ : ByteArray)] 37 (0, 0)) (by (with_reducible repeat (first | refine blk_drewN ?_ _ | refine blk_drew ?_ | refine blk_alloc ?_ _)); exact BK168.out)) (below_size (by repeat (first | (with_reducible first | exact HB.out | apply below_alloc | apply pw_below_drewN | apply below_drew1 | refine below_set ?_ GE168.out) | exact HB.out)))); have n1_ := Aside0.mk (blk_below (g := gb168) (o := .cells #[.string (⟨#[]⟩ : ByteArray), .int .i64 x169001_13, .string (⟨#[]⟩ : ByteArray)] 37 (0, 0)) (by (with_reducible repeat (first | refine blk_drewN ?_ _ | refine blk_drew ?_ | refine blk_alloc ?_ _)); exact BK168.out) hb); have n2_ := Aside0.mk (below_step (by repeat (first | (with_reducible first | exact HB.out | apply below_alloc | apply pw_below_drewN | apply below_drew1 | refine below_set ?_ GE168.out) | exact HB.out)) hb); clear BK168; clear HB; have HO171 := n0_; have BK168 := n1_; have HB := n2_; clear n0_ n1_ n2_; clear hb ho40; have hcz41_0 : w39.cell? ⟨gb168, 0, none⟩ = some (.string (⟨#[]⟩ : ByteArray)) := (blk_cell BK168.out 0).trans rfl; have hcz41_1 : w39.cell? ⟨gb168, 1, none⟩ = some (.int .i64 x169001_13) := (blk_cell BK168.out 1).trans rfl; have hcz41_2 : w39.cell? ⟨gb168, 2, none⟩ = some (.string (⟨#[]⟩ : ByteArray)) := (blk_cell BK168.out 2).trans rfl; have hfz41_0 := blk_frozen BK168.out 0; have hfz41_1 := blk_frozen BK168.out 1; have hfz41_2 := blk_frozen BK168.out 2) | ((with_reducible refine gate_callee (f := 36) rfl ?_); refine goesL_ (some 44) rfl rfl Try.func36 (by kernel_rfl) rfl #[.slice A1 l1.length c1, .int .i64 0] rfl (by (try simp only [List.map_toArray, List.map_cons, List.map_nil]); first | done | rfl | (simp only [List.length_drop, List.length_take]; rfl)) ?_; (with_reducible refine (shelfmarklaw10_text.calls _ _ l1 0 t176 _ ?side1 ?side2 A34.out).mono ?_); (case side1 => repeat (first | exact (Kd.C_below HR1.out HB.out) | (with_reducible refine Kd.C_alloc ?_ _) | (with_reducible refine Kd.C_drewN ?_ _) | (with_reducible refine Kd.C_drew ?_))); (case side2 => exact HC1.out); rintro e w' ⟨rfl, ⟨nd, rfl⟩⟩; refine ⟨_, rfl, ?_⟩; (try (rw [drewN_self w39]; generalize hq_ : World.drewN w39 _ = w39; have n0_ : Aside0 (Kd.R k37 37 w39 w.heap.size (fun k_ => k_ ≠ gb168) v170 y169) := ⟨by rw [← hq_]; exact (by (with_reducible repeat (first | apply Kd.R_alloc | apply Kd.R_drewN | apply Kd.R_drew)); (first | exact Kd.R_mono HO171.out (fun _ hk => hk.2) | exact Kd.R_mono HO171.out (fun _ hk => hk)))⟩; have n1_ : Aside0 (w39.heap[gb168]? = some (.cells #[.string (⟨#[]⟩ : ByteArray), .int .i64 x169001_13, .string (⟨#[]⟩ : ByteArray)] 37 (0, 0))) := ⟨by rw [← hq_]; exact (by (with_reducible repeat (first | refine blk_drewN ?_ _ | refine blk_drew ?_ | refine blk_alloc ?_ _)); exact BK168.out)⟩; have n2_ : Aside0 (Below w.heap.size w w39) := ⟨by rw [← hq_]; exact (by repeat (first | (with_reducible first | exact HB.out | apply below_alloc | apply pw_below_drewN | apply below_drew1 | refine below_set ?_ GE168.out) | exact HB.out))⟩; clear HO171 BK168 HB hq_; have HO171 := n0_; have BK168 := n1_; have HB := n2_; clear n0_ n1_ n2_)); have p37 : 0 ≤ (0 : Int) := (by omega); have q37 : (0 : Int) < ((y169.length : Int) : Int) := of_decide_eq_true (by first | (with_reducible assumption) | assumption); have qi37 : (0 < y169.length) = True := eq_true (by omega); obtain ⟨go37, co37, eo37, gb37, gl37, cl37, HG37⟩ := Kd.R_form HO171.out (by omega); (first | cases eo37 | (injection eo37 with ea_ en_ ec_; (first | subst ea_ | (injection ea_ with ea_; subst ea_)); subst ec_; clear en_)); have GB37 := Aside0.mk gb37; have GG37 := Aside0.mk HG37; clear gb37 gl37 HG37; obtain ⟨ce37, hcl37, hM37, hcc37, hfr37⟩ := Kd.R_elem HO171.out z37 (0 : Int) p37 q37; obtain rfl := k37_openM hM37; have hx37_0 : w39.cell? ⟨go37, (0 : Int).toNat * 3, none⟩ = some (.string ((rd_T37 y169 0).f0)) := hcc37 0 _ rfl; have hx37_1 : w39.cell? ⟨go37, (0 : Int).toNat * 3 + 1, none⟩ = some (.int .i64 ((rd_T37 y169 0).f1)) := hcc37 1 _ rfl; have hx37_2 : w39.cell? ⟨go37, (0 : Int).toNat * 3 + 2, none⟩ = some (.string ((rd_T37 y169 0).f2)) := hcc37 2 _ rfl; have hf37_0 : w39.frozen? ⟨go37, (0 : Int).toNat * 3, none⟩ = false := hfr37 0; have hf37_1 : w39.frozen? ⟨go37, (0 : Int).toNat * 3 + 1, none⟩ = false := hfr37 1; have hf37_2 : w39.frozen? ⟨go37, (0 : Int).toNat * 3 + 2, none⟩ = false := hfr37 2; clear hcl37 hcc37 hfr37 hM37; (try rw [show ((0 : Int)).toNat = 0 from rfl] at hx37_0); (try simp only [Nat.reduceMul, Nat.zero_mul, Nat.zero_add, Nat.reduceAdd] at hx37_0); (try rw [show ((0 : Int)).toNat = 0 from rfl] at hf37_0); (try simp only [Nat.reduceMul, Nat.zero_mul, Nat.zero_add, Nat.reduceAdd] at hf37_0); (try rw [show ((0 : Int)).toNat = 0 from rfl] at hx37_1); (try simp only [Nat.reduceMul, Nat.zero_mul, Nat.zero_add, Nat.reduceAdd] at hx37_1); (try rw [show ((0 : Int)).toNat = 0 from rfl] at hf37_1); (try simp only [Nat.reduceMul, Nat.zero_mul, Nat.zero_add, Nat.reduceAdd] at hf37_1); (try rw [show ((0 : Int)).toNat = 0 from rfl] at hx37_2); (try simp only [Nat.reduceMul, Nat.zero_mul, Nat.zero_add, Nat.reduceAdd] at hx37_2); (try rw [show ((0 : Int)).toNat = 0 from rfl] at hf37_2); (try simp only [Nat.reduceMul, Nat.zero_mul, Nat.zero_add, Nat.reduceAdd] at hf37_2); replace p37 := eq_true p37; replace q37 := eq_true q37; (first | (have n_ := Aside0.mk (Kd.R_mono (ok' := (fun k_ => k_ ≠ gb168)) HO171.out (fun k_ hk => hk.2))) | (have n_ := HO171)); clear HO171; have HO171 := n_; clear n_; have HX42 := Aside0.mk (show Kd.R k37 37 w39 w.heap.size (fun k_ => k_ ≠ gb168) (.slice (some ⟨go37, 0, none⟩) y169.length co37) y169 from (by (with_reducible repeat (first | apply Kd.R_alloc | apply Kd.R_drewN | apply Kd.R_drew)); exact HO171.out)); obtain ⟨ce42, hcl42, hM42, hcc42, hfr42⟩ := Kd.R_elem HX42.out z37 (0 : Int) (by omega) (by have h_ : (0 : Int) < ((y169.length : Int) : Int) := of_decide_eq_true (by first | (with_reducible assumption) | assumption); first | exact h_ | (have e_ := (Kd.R_reads' HO171.out).1; omega) | simpa using h_); obtain rfl := k37_openM hM42; have HP42 := Kd.R_seg HX42.out (0 : Int) (by omega) (by have h_ : (0 : Int) < ((y169.length : Int) : Int) := of_decide_eq_true (by first | (with_reducible assumption) | assumption); first | exact h_ | (have e_ := (Kd.R_reads' HO171.out).1; omega) | simpa using h_) (seg := [.string ((⟨#[116]⟩ : ByteArray) ++ t176)]) (j := 2) hcl42 hcc42 (show 3 ≤ 3 from by decide) (x' := (⟨(rd_T37 y169 0).f0, (rd_T37 y169 0).f1, (⟨#[116]⟩ : ByteArray) ++ t176⟩ : S37)) (k37_mkM _ _ _ (⟨(rd_T37 y169 0).f0, (rd_T37 y169 0).f1, (⟨#[116]⟩ : ByteArray) ++ t176⟩ : S37) ) (fun _ hk => hk); have hx42_2 := hcc42 2 _ rfl; (try simp only [show (k37).sz = 3 from rfl, Nat.mul_one, Nat.add_zero] at hx42_2); (try rw [show ((0 : Int)).toNat = 0 from rfl] at hx42_2); (try simp only [Nat.reduceMul, Nat.zero_mul, Nat.zero_add, Nat.reduceAdd] at hx42_2); have hf42_2 := hfr42 2; (try simp only [show (k37).sz = 3 from rfl, Nat.mul_one, Nat.add_zero] at hf42_2); (try rw [show ((0 : Int)).toNat = 0 from rfl] at hf42_2); (try simp only [Nat.reduceMul, Nat.zero_mul, Nat.zero_add, Nat.reduceAdd] at hf42_2); clear hcl42 hcc42 hfr42 hM42) | ((with_reducible refine gate_store (t := 9) (p := 47) rfl ?_); refine store_event (t := 9) (p := 47) (v := ?vo_w43) (w1 := (w39.setCell ⟨go37, 2, none⟩ (.string ((⟨#[116]⟩ : ByteArray) ++ t176)))) ?hg ?ho ?hn ?hr ?_; (case ho => rfl); (case hg => rfl); (case hn => rfl); (case hr => first | (go_simp; done) | (go_simp; rfl)); intro w43 hw; have hg : w39.grownBy w43 (some go37) := (by rw [hw]; exact HP42.2); have hp_ : Kd.R k37 37 w43 w.heap.size (fun k_ => k_ ≠ gb168) (.slice (some ⟨go37, 0, none⟩) y169.length co37) y177 := (by rw [hw, Ny177.out]; exact HP42.1); clear HP42; have n0_ := Aside0.mk (blk_grown (g := gb168) (o := .cells #[.string (⟨#[]⟩ : ByteArray), .int .i64 x169001_13, .string (⟨#[]⟩ : ByteArray)] 37 (0, 0)) (by (with_reducible repeat (first | refine blk_drewN ?_ _ | refine blk_drew ?_ | refine blk_alloc ?_ _)); exact BK168.out) hg (Kd.R_away HO171.out (fun _ hk => hk))); have n1_ := Aside0.mk (hp_); have n2_ := Aside0.mk ((by rw [hw]; exact below_set (HB.out) GB37.out : Below w.heap.size w w43)); clear BK168; clear HO171; clear HB; have BK168 := n0_; have HO171 := n1_; have HB := n2_; clear n0_ n1_ n2_; clear hg hw hp_))
                      go_ret
                      exact ⟨_, by first | rfl | (simp [errW_none, errW_some] <;> rfl) | (simp [*, errW_none, errW_some] <;> rfl), by (with_reducible repeat (first | apply Kd.R_alloc | apply Kd.R_drewN | apply Kd.R_drew)); exact Kd.R_mono HO171.out (fun _ hk => trivial), by repeat (first | (with_reducible first | exact HB.out | apply below_alloc | apply pw_below_drewN | apply below_drew1 | refine below_set ?_ GE168.out) | exact HB.out)⟩
                    · rw [if_neg c36] at H
                      exact absurd H (by simp)
                  · rw [if_neg c35] at H
                    exact absurd H (by simp)
    · rw [if_neg c7] at H
      exact absurd H (by simp)
end Go.Proofs.Ytncokgdfkbgflaa.P

namespace Go.Proofs.Ytncokgdfkbgflaa.P
open Go.RowKit Go.Proofs.YtncokgdfkbgflaaW.PrintWords Go.Proofs.YtncokgdfkbgflaaW.PrintLast Go.Proofs.YtncokgdfkbgflaaW.PrintMore
attribute [local go_sem] max2_int min2_int max_two min_two max_three min_three max_four min_four   -- for this text's walks alone
set_option linter.unusedVariables false
set_option linter.unusedSimpArgs false
def shelfmarkref10_has.l0 : Nat → ByteArray → Int → Int → Option (Bool)
  | 0, _, _, _ => none
  | k + 1, x0, x1, x5 => if x5 < (x0.size : Int) then (if 0 ≤ x5 then (if (bt x0 x5) = x1 then (some true) else (shelfmarkref10_has.l0 k x0 x1 (wrap64 (x5 + 1)))) else (none)) else (some false)
def shelfmarkref10_has.f (k : Nat) (a0 : ByteArray) (a1 : Int) : Option (Bool) := shelfmarkref10_has.l0 k a0 a1 0
set_option maxHeartbeats 8000000 in
set_option maxRecDepth 100000 in
theorem shelfmarkref10_has.calls (k : Nat) (a0 : ByteArray) (a1 : Int) (r : Bool) (w : World) (h : shelfmarkref10_has.f k a0 a1 = some r) :
    Calls Try.prog 53 #[.string a0, .int .u8 a1] w fun e w' => e = .returned (.bool r) ∧ Drawn0 w w' := by
  have H : (shelfmarkref10_has.l0 k a0 a1 0) = some r := h
  clear h
  have H' := Aside0.mk H
  clear H
  go_enter Try.func53, Try.ntmps53
  go_wp2
  go_loopg [5] k (fun kq v5 w' => ∃ (x5_1 : Int), v5 = .int .i64 x5_1 ∧ Aside0 (shelfmarkref10_has.l0 kq a0 a1 x5_1 = some r) ∧ Aside0 (kq ≤ k) ∧ Drawn0 w w')
  case atStart => exact ⟨(0), (by first | rfl | (simp; done) | (simp [*]; done) | (congr 1; rw [Bool.eq_iff_iff]; simp [bne]; done) | (rw [Bool.eq_iff_iff]; simp [bne]; done)), H', ⟨Nat.le_refl _⟩, by repeat (first | exact Drawn0.refl _ | apply Drawn0.step)⟩
  case round =>
    clear H'
    try clear p2
    obtain ⟨x5_1, rfl, HA, HK1, ⟨m1, rfl⟩⟩ := hrel
    cases gk with
    | zero => exact absurd HA.out (by simp [shelfmarkref10_has.l0])
    | succ k1 =>
      have H := HA.out
      clear HA
      simp only [shelfmarkref10_has.l0] at H
      by_cases c3 : x5_1 < (a0.size : Int)
      · rw [if_pos c3] at H
        have c3b0 : decide (x5_1 < (a0.size : Int)) = true := decide_eq_true c3
        clear c3
        by_cases c4 : 0 ≤ x5_1
        · rw [if_pos c4] at H
          have c4b0 : decide (0 ≤ x5_1) = true := decide_eq_true c4
          clear c4
          by_cases c6 : (bt a0 x5_1) = a1
          · rw [if_pos c6] at H
            have c6b0 : ((bt a0 x5_1) == a1) = true := beq_iff_eq.mpr c6
            have c6b1 : ((bt a0 x5_1) != a1) = false := bne_eq_false_iff_eq.mpr c6
            clear c6
            obtain rfl := Option.some.inj H
            have p5 : 0 ≤ (x5_1 : Int) := of_decide_eq_true (by first | (with_reducible assumption) | assumption)
            have q5 : x5_1 < (a0.size : Int) := of_decide_eq_true (by first | (with_reducible assumption) | assumption)
            have hx5 := bt_at a0 x5_1
            replace p5 := eq_true p5
            replace q5 := eq_true q5
            go_wp2
            go_ret
            exact ⟨by first | rfl | (simp; done) | (simp [*]; done), by repeat (first | exact Drawn0.refl _ | apply Drawn0.step)⟩
          · rw [if_neg c6] at H
            have c6b0 : ((bt a0 x5_1) == a1) = false := beq_eq_false_iff_ne.mpr c6
            have c6b1 : ((bt a0 x5_1) != a1) = true := bne_iff_ne.mpr c6
            have H' := Aside0.mk H
            clear H
            have p5 : 0 ≤ (x5_1 : Int) := of_decide_eq_true (by first | (with_reducible assumption) | assumption)
            have q5 : x5_1 < (a0.size : Int) := of_decide_eq_true (by first | (with_reducible assumption) | assumption)
            have hx5 := bt_at a0 x5_1
            replace p5 := eq_true p5
            replace q5 := eq_true q5
            go_wp2
            go_roundg k1
            case measure => have := HK1.out; omega
            case rel => exact ⟨(wrap64 (x5_1 + 1)), (by first | rfl | (simp; done) | (simp [*]; done) | (congr 1; rw [Bool.eq_iff_iff]; simp [bne]; done) | (rw [Bool.eq_iff_iff]; simp [bne]; done)), H', ⟨by have := HK1.out; omega⟩, by repeat (first | exact Drawn0.refl _ | apply Drawn0.step)⟩
        · rw [if_neg c4] at H
          exact absurd H (by simp)
      · rw [if_neg c3] at H
        have c3b0 : decide (x5_1 < (a0.size : Int)) = false := decide_eq_false c3
        clear c3
        obtain rfl := Option.some.inj H
        go_wp2
        go_ret
        exact ⟨by first | rfl | (simp; done) | (simp [*]; done), by repeat (first | exact Drawn0.refl _ | apply Drawn0.step)⟩
def shelfmarkref10_MayName.f (k : Nat) (a0 : ByteArray) : Option (Bool) := if (a0.size : Int) ≥ 1 then (if (a0.size : Int) ≤ 255 then ((shelfmarkref10_has.f k a0 0).bind fun t203 => (if t203 = true then (some false) else ((shelfmarkref10_has.f k a0 47).bind fun t204 => (if t204 = true then (some false) else (if a0.toList = ([46] : List UInt8) then (some false) else (some (a0.toList != ([46, 46] : List UInt8)))))))) else (some false)) else (some false)
set_option maxHeartbeats 8000000 in
set_option maxRecDepth 100000 in
theorem shelfmarkref10_MayName.calls (k : Nat) (a0 : ByteArray) (r : Bool) (w : World) (h : shelfmarkref10_MayName.f k a0 = some r) :
    Calls Try.prog 22 #[.string a0] w fun e w' => e = .returned (.bool r) ∧ Drawn0 w w' := by
  have H : (if (a0.size : Int) ≥ 1 then (if (a0.size : Int) ≤ 255 then ((shelfmarkref10_has.f k a0 0).bind fun t203 => (if t203 = true then (some false) else ((shelfmarkref10_has.f k a0 47).bind fun t204 => (if t204 = true then (some false) else (if a0.toList = ([46] : List UInt8) then (some false) else (some (a0.toList != ([46, 46] : List UInt8)))))))) else (some false)) else (some false)) = some r := h
  clear h
  by_cases c2 : (a0.size : Int) ≥ 1
  · rw [if_pos c2] at H
    have c2b0 : decide (1 ≤ (a0.size : Int)) = true := decide_eq_true c2
    have c2b1 : decide (1 ≤ a0.size) = true := decide_eq_true (by omega)
    clear c2
    by_cases c3 : (a0.size : Int) ≤ 255
    · rw [if_pos c3] at H
      have c3b0 : decide ((a0.size : Int) ≤ 255) = true := decide_eq_true c3
      have c3b1 : decide (a0.size ≤ 255) = true := decide_eq_true (by omega)
      clear c3
      replace H := Option.bind_eq_some_iff.mp H
      obtain ⟨t203, A40, H⟩ := H
      replace H : (if t203 = true then (some false) else ((shelfmarkref10_has.f k a0 47).bind fun t204 => (if t204 = true then (some false) else (if a0.toList = ([46] : List UInt8) then (some false) else (some (a0.toList != ([46, 46] : List UInt8))))))) = some r := H
      have A4 := Aside0.mk A40
      clear A40
      by_cases c5 : t203 = true
      · subst c5
        have H1 : (some false) = some r := by rw [if_pos rfl] at H; exact H
        clear H
        have H := H1
        clear H1
        obtain rfl := Option.some.inj H
        go_enter Try.func22, Try.ntmps22
        go_wp2_with (first | (go_at_call 53; (with_reducible refine (shelfmarkref10_has.calls k a0 0 true _ A4.out).mono ?_); rintro e w' ⟨rfl, ⟨nd, rfl⟩⟩))
        go_ret
        exact ⟨by first | rfl | (simp; done) | (simp [*]; done), by repeat (first | exact Drawn0.refl _ | apply Drawn0.step)⟩
      · replace c5 := Bool.eq_false_iff.mpr c5
        subst c5
        have H1 : ((shelfmarkref10_has.f k a0 47).bind fun t204 => (if t204 = true then (some false) else (if a0.toList = ([46] : List UInt8) then (some false) else (some (a0.toList != ([46, 46] : List UInt8)))))) = some r := by rw [if_neg (show ¬ (false = true) by decide)] at H; exact H
        clear H
        have H := H1
        clear H1
        replace H := Option.bind_eq_some_iff.mp H
        obtain ⟨t204, A60, H⟩ := H
        replace H : (if t204 = true then (some false) else (if a0.toList = ([46] : List UInt8) then (some false) else (some (a0.toList != ([46, 46] : List UInt8))))) = some r := H
        have A6 := Aside0.mk A60
        clear A60
        by_cases c7 : t204 = true
        · subst c7
          have H1 : (some false) = some r := by rw [if_pos rfl] at H; exact H
          clear H
          have H := H1
          clear H1
          obtain rfl := Option.some.inj H
          go_enter Try.func22, Try.ntmps22
          go_wp2_with (first | (go_at_call 53; (with_reducible refine (shelfmarkref10_has.calls k a0 0 false _ A4.out).mono ?_); rintro e w' ⟨rfl, ⟨nd, rfl⟩⟩) | (go_at_call 53; (with_reducible refine (shelfmarkref10_has.calls k a0 47 true _ A6.out).mono ?_); rintro e w' ⟨rfl, ⟨nd, rfl⟩⟩))
          go_ret
          exact ⟨by first | rfl | (simp; done) | (simp [*]; done), by repeat (first | exact Drawn0.refl _ | apply Drawn0.step)⟩
        · replace c7 := Bool.eq_false_iff.mpr c7
          subst c7
          have H1 : (if a0.toList = ([46] : List UInt8) then (some false) else (some (a0.toList != ([46, 46] : List UInt8)))) = some r := by rw [if_neg (show ¬ (false = true) by decide)] at H; exact H
          clear H
          have H := H1
          clear H1
          by_cases c8 : a0.toList = ([46] : List UInt8)
          · rw [if_pos c8] at H
            have c8b0 : (a0.toList == ([46] : List UInt8)) = true := beq_iff_eq.mpr c8
            have c8b1 : (a0.toList != ([46] : List UInt8)) = false := bne_eq_false_iff_eq.mpr c8
            clear c8
            obtain rfl := Option.some.inj H
            go_enter Try.func22, Try.ntmps22
            go_wp2_with (first | (go_at_call 53; (with_reducible refine (shelfmarkref10_has.calls k a0 0 false _ A4.out).mono ?_); rintro e w' ⟨rfl, ⟨nd, rfl⟩⟩) | (go_at_call 53; (with_reducible refine (shelfmarkref10_has.calls k a0 47 false _ A6.out).mono ?_); rintro e w' ⟨rfl, ⟨nd, rfl⟩⟩))
            go_ret
            exact ⟨by first | rfl | (simp; done) | (simp [*]; done), by repeat (first | exact Drawn0.refl _ | apply Drawn0.step)⟩
          · rw [if_neg c8] at H
            have c8b0 : (a0.toList == ([46] : List UInt8)) = false := beq_eq_false_iff_ne.mpr c8
            have c8b1 : (a0.toList != ([46] : List UInt8)) = true := bne_iff_ne.mpr c8
            obtain rfl := Option.some.inj H
            go_enter Try.func22, Try.ntmps22
            go_wp2_with (first | (go_at_call 53; (with_reducible refine (shelfmarkref10_has.calls k a0 0 false _ A4.out).mono ?_); rintro e w' ⟨rfl, ⟨nd, rfl⟩⟩) | (go_at_call 53; (with_reducible refine (shelfmarkref10_has.calls k a0 47 false _ A6.out).mono ?_); rintro e w' ⟨rfl, ⟨nd, rfl⟩⟩))
            go_ret
            exact ⟨by first | rfl | (simp; done) | (simp [*]; done), by repeat (first | exact Drawn0.refl _ | apply Drawn0.step)⟩
    · rw [if_neg c3] at H
      have c3b0 : decide ((a0.size : Int) ≤ 255) = false := decide_eq_false c3
      have c3b1 : decide (a0.size ≤ 255) = false := decide_eq_false (by omega)
      clear c3
      obtain rfl := Option.some.inj H
      go_enter Try.func22, Try.ntmps22
      go_wp2
      go_ret
      exact ⟨by first | rfl | (simp; done) | (simp [*]; done), by repeat (first | exact Drawn0.refl _ | apply Drawn0.step)⟩
  · rw [if_neg c2] at H
    have c2b0 : decide (1 ≤ (a0.size : Int)) = false := decide_eq_false c2
    have c2b1 : decide (1 ≤ a0.size) = false := decide_eq_false (by omega)
    clear c2
    obtain rfl := Option.some.inj H
    go_enter Try.func22, Try.ntmps22
    go_wp2
    go_ret
    exact ⟨by first | rfl | (simp; done) | (simp [*]; done), by repeat (first | exact Drawn0.refl _ | apply Drawn0.step)⟩
def shelfmarkref10_mayData.j0 : Nat → Int → Bool → ByteArray → Int → ByteArray → Option (Bool)
  | 0, _, _, _, _, _ => none
  | k + 1, x4, x5, x206000, x206001, x206002 => if x5 = true then (some (decide ((x206002.size : Int) ≤ 65536))) else (if x4 = 3 then (if (x206002.size : Int) ≥ 1 then (if (x206002.size : Int) ≤ 4096 then ((shelfmarkref10_has.f k x206002 0).bind fun t206 => (some (!t206))) else (some false)) else (some false)) else (if x4 = 4 then (some (x206002.toList == ([] : List UInt8))) else (some false)))
def shelfmarkref10_mayData.f (k : Nat) (a0_0 : ByteArray) (a0_1 : Int) (a0_2 : ByteArray) : Option (Bool) := if a0_1 = 1 then (shelfmarkref10_mayData.j0 k a0_1 (a0_1 == 1) a0_0 a0_1 a0_2) else (shelfmarkref10_mayData.j0 k a0_1 (a0_1 == 2) a0_0 a0_1 a0_2)
set_option maxHeartbeats 8000000 in
set_option maxRecDepth 100000 in
theorem shelfmarkref10_mayData.calls (k : Nat) (a0_0 : ByteArray) (a0_1 : Int) (a0_2 : ByteArray) (r : Bool) (w : World) (h : shelfmarkref10_mayData.f k a0_0 a0_1 a0_2 = some r) :
    Calls Try.prog 48 #[.agg #[.string a0_0, .int .i64 a0_1, .string a0_2]] w fun e w' => e = .returned (.bool r) ∧ Below w.heap.size w w' := by
  have hu37 := Try.underlying37
  have HB := Aside0.mk (Below.refl w.heap.size w)
  have H : (if a0_1 = 1 then (shelfmarkref10_mayData.j0 k a0_1 (a0_1 == 1) a0_0 a0_1 a0_2) else (shelfmarkref10_mayData.j0 k a0_1 (a0_1 == 2) a0_0 a0_1 a0_2)) = some r := h
  clear h
  have HC2 := Aside0.mk H
  clear H
  go_enter Try.func48, Try.ntmps48
  go_upto_if 5 with (first | ((with_reducible refine gate_dst (N := 1) rfl ?_); (try (refine gate_guard (by rfl) ?_; dsimp only)); refine box_event ?hg (N := 1) ?hd (cs := #[.string a0_0, .int .i64 a0_1, .string a0_2]) (t := 37) ?hr ?_; (case hd => rfl); (case hg => rfl); (case hr => first | (go_simp; done) | (go_simp; rfl)); intro gb205 hg w3 hbox hb; have n0_ := Aside0.mk (below_step (by repeat (first | (with_reducible first | exact HB.out | apply below_alloc | apply pw_below_drewN | apply below_drew1) | exact HB.out)) hb); have n1_ := Aside0.mk (hbox); have n2_ := Aside0.mk ((by rw [hg]; exact (below_size (by repeat (first | (with_reducible first | exact HB.out | apply below_alloc | apply pw_below_drewN | apply below_drew1) | exact HB.out))) : w.heap.size ≤ gb205)); have n3_ := Aside0.mk ((by rw [hg]; exact (below_size (by repeat (first | (with_reducible first | exact HB.out | apply below_alloc | apply pw_below_drewN | apply below_drew1) | exact HB.out))) : w.heap.size ≤ gb205)); clear HB; have HB := n0_; have BK205 := n1_; have GW205 := n2_; have GE205 := n3_; clear n0_ n1_ n2_ n3_; clear hb hbox hg; have hcz4_0 : w3.cell? ⟨gb205, 0, none⟩ = some (.string a0_0) := (blk_cell BK205.out 0).trans rfl; have hcz4_1 : w3.cell? ⟨gb205, 1, none⟩ = some (.int .i64 a0_1) := (blk_cell BK205.out 1).trans rfl; have hcz4_2 : w3.cell? ⟨gb205, 2, none⟩ = some (.string a0_2) := (blk_cell BK205.out 2).trans rfl; have hfz4_0 := blk_frozen BK205.out 0; have hfz4_1 := blk_frozen BK205.out 1; have hfz4_2 := blk_frozen BK205.out 2))
  (try simp only [Act.put, List.setIfInBounds_toArray, List.set_cons_zero, List.set_cons_succ])
  go_cut [5] (fun v5 wc => ∃ (kq : Nat) (x5_1 : Bool), v5 = .bool x5_1 ∧ Aside0 (shelfmarkref10_mayData.j0 kq a0_1 x5_1 a0_0 a0_1 a0_2 = some r) ∧ Aside0 (kq ≤ k) ∧ Aside0 (wc.heap[gb205]? = some (.cells #[.string a0_0, .int .i64 a0_1, .string a0_2] 37 (0, 0))) ∧ Aside0 (Below w.heap.size w wc))
  case first =>
    have H := HC2.out
    clear HC2
    by_cases c5 : a0_1 = 1
    · rw [if_pos c5] at H
      have c5b0 : (a0_1 == 1) = true := beq_iff_eq.mpr c5
      have c5b1 : (a0_1 != 1) = false := bne_eq_false_iff_eq.mpr c5
      clear c5
      (first | rw [c5b0] | (simp only [i64_w, i32_w]; rw [c5b0]) | skip)
      have H' := Aside0.mk H
      clear H
      go_wp2
      go_meet
      case rel => exact ⟨_, ((a0_1 == 1)), (by first | rfl | (simp; done) | (simp [*]; done) | (congr 1; rw [Bool.eq_iff_iff]; simp [bne]; done) | (rw [Bool.eq_iff_iff]; simp [bne]; done)), H', ⟨by first | omega | exact Nat.le_refl _⟩, ⟨by (with_reducible repeat (first | refine blk_drewN ?_ _ | refine blk_drew ?_ | refine blk_alloc ?_ _)); exact BK205.out⟩, ⟨by repeat (first | (with_reducible first | exact HB.out | apply below_alloc | apply pw_below_drewN | apply below_drew1 | refine below_set ?_ GE205.out) | exact HB.out)⟩⟩
    · rw [if_neg c5] at H
      have c5b0 : (a0_1 == 1) = false := beq_eq_false_iff_ne.mpr c5
      have c5b1 : (a0_1 != 1) = true := bne_iff_ne.mpr c5
      (first | rw [c5b0] | (simp only [i64_w, i32_w]; rw [c5b0]) | skip)
      have H' := Aside0.mk H
      clear H
      go_wp2
      go_meet
      case rel => exact ⟨_, ((a0_1 == 2)), (by first | rfl | (simp; done) | (simp [*]; done) | (congr 1; rw [Bool.eq_iff_iff]; simp [bne]; done) | (rw [Bool.eq_iff_iff]; simp [bne]; done)), H', ⟨by first | omega | exact Nat.le_refl _⟩, ⟨by (with_reducible repeat (first | refine blk_drewN ?_ _ | refine blk_drew ?_ | refine blk_alloc ?_ _)); exact BK205.out⟩, ⟨by repeat (first | (with_reducible first | exact HB.out | apply below_alloc | apply pw_below_drewN | apply below_drew1 | refine below_set ?_ GE205.out) | exact HB.out)⟩⟩
  case rest =>
    clear HC2
    try clear p2
    try clear c4
    try clear c5
    try clear c5b0
    try clear c5b1
    try clear hcz4_0
    try clear hcz4_1
    try clear hcz4_2
    try clear hfz4_0
    try clear hfz4_1
    try clear hfz4_2
    obtain ⟨kq, x5_1, rfl, HA, HJ1, BK205, HB⟩ := hcut
    cases kq with
    | zero => exact absurd HA.out (by simp [shelfmarkref10_mayData.j0])
    | succ kj1 =>
      have H := HA.out
      clear HA
      simp only [shelfmarkref10_mayData.j0] at H
      by_cases c6 : x5_1 = true
      · subst c6
        have H1 : (some (decide ((a0_2.size : Int) ≤ 65536))) = some r := by rw [if_pos rfl] at H; exact H
        clear H
        have H := H1
        clear H1
        obtain rfl := Option.some.inj H
        have hcz7_0 : wc.cell? ⟨gb205, 0, none⟩ = some (.string a0_0) := (blk_cell BK205.out 0).trans rfl
        have hcz7_1 : wc.cell? ⟨gb205, 1, none⟩ = some (.int .i64 a0_1) := (blk_cell BK205.out 1).trans rfl
        have hcz7_2 : wc.cell? ⟨gb205, 2, none⟩ = some (.string a0_2) := (blk_cell BK205.out 2).trans rfl
        have hfz7_0 := blk_frozen BK205.out 0
        have hfz7_1 := blk_frozen BK205.out 1
        have hfz7_2 := blk_frozen BK205.out 2
        go_wp2
        go_ret
        exact ⟨by first | rfl | (simp [errW_none, errW_some] <;> rfl) | (simp [*, errW_none, errW_some] <;> rfl), by repeat (first | (with_reducible first | exact HB.out | apply below_alloc | apply pw_below_drewN | apply below_drew1 | refine below_set ?_ GE205.out) | exact HB.out)⟩
      · replace c6 := Bool.eq_false_iff.mpr c6
        subst c6
        have H1 : (if a0_1 = 3 then (if (a0_2.size : Int) ≥ 1 then (if (a0_2.size : Int) ≤ 4096 then ((shelfmarkref10_has.f kj1 a0_2 0).bind fun t206 => (some (!t206))) else (some false)) else (some false)) else (if a0_1 = 4 then (some (a0_2.toList == ([] : List UInt8))) else (some false))) = some r := by rw [if_neg (show ¬ (false = true) by decide)] at H; exact H
        clear H
        have H := H1
        clear H1
        by_cases c8 : a0_1 = 3
        · rw [if_pos c8] at H
          have c8b0 : (a0_1 == 3) = true := beq_iff_eq.mpr c8
          have c8b1 : (a0_1 != 3) = false := bne_eq_false_iff_eq.mpr c8
          clear c8
          by_cases c9 : (a0_2.size : Int) ≥ 1
          · rw [if_pos c9] at H
            have c9b0 : decide (1 ≤ (a0_2.size : Int)) = true := decide_eq_true c9
            have c9b1 : decide (1 ≤ a0_2.size) = true := decide_eq_true (by omega)
            clear c9
            by_cases c10 : (a0_2.size : Int) ≤ 4096
            · rw [if_pos c10] at H
              have c10b0 : decide ((a0_2.size : Int) ≤ 4096) = true := decide_eq_true c10
              have c10b1 : decide (a0_2.size ≤ 4096) = true := decide_eq_true (by omega)
              clear c10
              replace H := Option.bind_eq_some_iff.mp H
              obtain ⟨t206, A110, H⟩ := H
              replace H : (some (!t206)) = some r := H
              have A11 := Aside0.mk A110
              clear A110
              obtain rfl := Option.some.inj H
              have hcz12_0 : wc.cell? ⟨gb205, 0, none⟩ = some (.string a0_0) := (blk_cell BK205.out 0).trans rfl
              have hcz12_1 : wc.cell? ⟨gb205, 1, none⟩ = some (.int .i64 a0_1) := (blk_cell BK205.out 1).trans rfl
              have hcz12_2 : wc.cell? ⟨gb205, 2, none⟩ = some (.string a0_2) := (blk_cell BK205.out 2).trans rfl
              have hfz12_0 := blk_frozen BK205.out 0
              have hfz12_1 := blk_frozen BK205.out 1
              have hfz12_2 := blk_frozen BK205.out 2
              go_wp2_with (first | (go_at_call 53; (with_reducible refine (shelfmarkref10_has.calls kj1 a0_2 0 t206 _ A11.out).mono ?_); rintro e w' ⟨rfl, ⟨nd, rfl⟩⟩))
              go_ret
              exact ⟨by first | rfl | (simp [errW_none, errW_some] <;> rfl) | (simp [*, errW_none, errW_some] <;> rfl), by repeat (first | (with_reducible first | exact HB.out | apply below_alloc | apply pw_below_drewN | apply below_drew1 | refine below_set ?_ GE205.out) | exact HB.out)⟩
            · rw [if_neg c10] at H
              have c10b0 : decide ((a0_2.size : Int) ≤ 4096) = false := decide_eq_false c10
              have c10b1 : decide (a0_2.size ≤ 4096) = false := decide_eq_false (by omega)
              clear c10
              obtain rfl := Option.some.inj H
              have hcz13_0 : wc.cell? ⟨gb205, 0, none⟩ = some (.string a0_0) := (blk_cell BK205.out 0).trans rfl
              have hcz13_1 : wc.cell? ⟨gb205, 1, none⟩ = some (.int .i64 a0_1) := (blk_cell BK205.out 1).trans rfl
              have hcz13_2 : wc.cell? ⟨gb205, 2, none⟩ = some (.string a0_2) := (blk_cell BK205.out 2).trans rfl
              have hfz13_0 := blk_frozen BK205.out 0
              have hfz13_1 := blk_frozen BK205.out 1
              have hfz13_2 := blk_frozen BK205.out 2
              go_wp2
              go_ret
              exact ⟨by first | rfl | (simp [errW_none, errW_some] <;> rfl) | (simp [*, errW_none, errW_some] <;> rfl), by repeat (first | (with_reducible first | exact HB.out | apply below_alloc | apply pw_below_drewN | apply below_drew1 | refine below_set ?_ GE205.out) | exact HB.out)⟩
          · rw [if_neg c9] at H
            have c9b0 : decide (1 ≤ (a0_2.size : Int)) = false := decide_eq_false c9
            have c9b1 : decide (1 ≤ a0_2.size) = false := decide_eq_false (by omega)
            clear c9
            obtain rfl := Option.some.inj H
            have hcz14_0 : wc.cell? ⟨gb205, 0, none⟩ = some (.string a0_0) := (blk_cell BK205.out 0).trans rfl
            have hcz14_1 : wc.cell? ⟨gb205, 1, none⟩ = some (.int .i64 a0_1) := (blk_cell BK205.out 1).trans rfl
            have hcz14_2 : wc.cell? ⟨gb205, 2, none⟩ = some (.string a0_2) := (blk_cell BK205.out 2).trans rfl
            have hfz14_0 := blk_frozen BK205.out 0
            have hfz14_1 := blk_frozen BK205.out 1
            have hfz14_2 := blk_frozen BK205.out 2
            go_wp2
            go_ret
            exact ⟨by first | rfl | (simp [errW_none, errW_some] <;> rfl) | (simp [*, errW_none, errW_some] <;> rfl), by repeat (first | (with_reducible first | exact HB.out | apply below_alloc | apply pw_below_drewN | apply below_drew1 | refine below_set ?_ GE205.out) | exact HB.out)⟩
        · rw [if_neg c8] at H
          have c8b0 : (a0_1 == 3) = false := beq_eq_false_iff_ne.mpr c8
          have c8b1 : (a0_1 != 3) = true := bne_iff_ne.mpr c8
          by_cases c15 : a0_1 = 4
          · rw [if_pos c15] at H
            have c15b0 : (a0_1 == 4) = true := beq_iff_eq.mpr c15
            have c15b1 : (a0_1 != 4) = false := bne_eq_false_iff_eq.mpr c15
            clear c15
            obtain rfl := Option.some.inj H
            have hcz16_0 : wc.cell? ⟨gb205, 0, none⟩ = some (.string a0_0) := (blk_cell BK205.out 0).trans rfl
            have hcz16_1 : wc.cell? ⟨gb205, 1, none⟩ = some (.int .i64 a0_1) := (blk_cell BK205.out 1).trans rfl
            have hcz16_2 : wc.cell? ⟨gb205, 2, none⟩ = some (.string a0_2) := (blk_cell BK205.out 2).trans rfl
            have hfz16_0 := blk_frozen BK205.out 0
            have hfz16_1 := blk_frozen BK205.out 1
            have hfz16_2 := blk_frozen BK205.out 2
            go_wp2
            go_ret
            exact ⟨by first | rfl | (simp [errW_none, errW_some] <;> rfl) | (simp [*, errW_none, errW_some] <;> rfl), by repeat (first | (with_reducible first | exact HB.out | apply below_alloc | apply pw_below_drewN | apply below_drew1 | refine below_set ?_ GE205.out) | exact HB.out)⟩
          · rw [if_neg c15] at H
            have c15b0 : (a0_1 == 4) = false := beq_eq_false_iff_ne.mpr c15
            have c15b1 : (a0_1 != 4) = true := bne_iff_ne.mpr c15
            obtain rfl := Option.some.inj H
            go_wp2
            go_ret
            exact ⟨by first | rfl | (simp [errW_none, errW_some] <;> rfl) | (simp [*, errW_none, errW_some] <;> rfl), by repeat (first | (with_reducible first | exact HB.out | apply below_alloc | apply pw_below_drewN | apply below_drew1 | refine below_set ?_ GE205.out) | exact HB.out)⟩
def shelfmarkref10_cut.l0 : Nat → ByteArray → Int → Option (ByteArray × ByteArray)
  | 0, _, _ => none
  | k + 1, x0, x4 => if x4 ≥ 0 then (if 0 ≤ x4 then (if x4 < (x0.size : Int) then (if (bt x0 x4) = 47 then (if x4 ≤ (x0.size : Int) then (if 0 ≤ (wrap64 (x4 + 1)) then (if (wrap64 (x4 + 1)) ≤ (x0.size : Int) then (some (x0.extract 0 (x4 : Int).toNat, x0.extract ((wrap64 (x4 + 1)) : Int).toNat x0.size)) else (none)) else (none)) else (none)) else (shelfmarkref10_cut.l0 k x0 (wrap64 (x4 - 1)))) else (none)) else (none)) else (some ((⟨#[]⟩ : ByteArray), x0))
def shelfmarkref10_cut.f (k : Nat) (a0 : ByteArray) : Option (ByteArray × ByteArray) := shelfmarkref10_cut.l0 k a0 (wrap64 ((a0.size : Int) - 1))
set_option maxHeartbeats 8000000 in
set_option maxRecDepth 100000 in
theorem shelfmarkref10_cut.calls (k : Nat) (a0 : ByteArray) (r1 : ByteArray) (r2 : ByteArray) (w : World) (h : shelfmarkref10_cut.f k a0 = some (r1, r2)) :
    Calls Try.prog 49 #[.string a0] w fun e w' => e = .returned (.tuple #[.string r1, .string r2]) ∧ Drawn0 w w' := by
  have H : (shelfmarkref10_cut.l0 k a0 (wrap64 ((a0.size : Int) - 1))) = some (r1, r2) := h
  clear h
  have H' := Aside0.mk H
  clear H
  go_enter Try.func49, Try.ntmps49
  go_wp2
  repeat (go_quiet (fail); try go_wp2)
  go_loopg [4] k (fun kq v4 w' => ∃ (x4_1 : Int), v4 = .int .i64 x4_1 ∧ Aside0 (shelfmarkref10_cut.l0 kq a0 x4_1 = some (r1, r2)) ∧ Aside0 (kq ≤ k) ∧ Drawn0 w w')
  case atStart => exact ⟨(wrap64 ((a0.size : Int) - 1)), (by first | rfl | (simp; done) | (simp [*]; done) | (congr 1; rw [Bool.eq_iff_iff]; simp [bne]; done) | (rw [Bool.eq_iff_iff]; simp [bne]; done)), H', ⟨Nat.le_refl _⟩, by repeat (first | exact Drawn0.refl _ | apply Drawn0.step)⟩
  case round =>
    clear H'
    obtain ⟨x4_1, rfl, HA, HK1, ⟨m1, rfl⟩⟩ := hrel
    cases gk with
    | zero => exact absurd HA.out (by simp [shelfmarkref10_cut.l0])
    | succ k1 =>
      have H := HA.out
      clear HA
      simp only [shelfmarkref10_cut.l0] at H
      by_cases c2 : x4_1 ≥ 0
      · rw [if_pos c2] at H
        have c2b0 : decide (0 ≤ x4_1) = true := decide_eq_true c2
        clear c2
        by_cases c3 : 0 ≤ x4_1
        · rw [if_pos c3] at H
          have c3b0 : decide (0 ≤ x4_1) = true := decide_eq_true c3
          clear c3
          by_cases c4 : x4_1 < (a0.size : Int)
          · rw [if_pos c4] at H
            have c4b0 : decide (x4_1 < (a0.size : Int)) = true := decide_eq_true c4
            clear c4
            by_cases c6 : (bt a0 x4_1) = 47
            · rw [if_pos c6] at H
              have c6b0 : ((bt a0 x4_1) == 47) = true := beq_iff_eq.mpr c6
              have c6b1 : ((bt a0 x4_1) != 47) = false := bne_eq_false_iff_eq.mpr c6
              clear c6
              have c7b0 := eq_true (of_decide_eq_true (by first | (with_reducible assumption) | assumption) : 0 ≤ x4_1)
              by_cases c8 : x4_1 ≤ (a0.size : Int)
              · rw [if_pos c8] at H
                have c8b0 := eq_true c8
                have c8b1 : decide (x4_1 ≤ (a0.size : Int)) = true := decide_eq_true c8
                clear c8
                obtain ⟨ji9, hji9⟩ : ∃ j_ : Int, (wrap64 (x4_1 + 1)) = j_ := ⟨_, rfl⟩
                replace H : (if 0 ≤ (ji9) then (if (ji9) ≤ (a0.size : Int) then (some (a0.extract 0 (x4_1 : Int).toNat, a0.extract ((ji9) : Int).toNat a0.size)) else (none)) else (none)) = some (r1, r2) := by first | (rw [hji9] at H; exact H) | (simp only [hji9] at H ⊢; exact H)
                have hji9w : (IntKind.i64.wrap (x4_1 + 1)) = ji9 := (i64_w _).trans hji9
                by_cases c10 : 0 ≤ (ji9)
                · rw [if_pos c10] at H
                  have c10b0 := eq_true c10
                  have c10b1 : decide (0 ≤ (ji9)) = true := decide_eq_true c10
                  clear c10
                  by_cases c11 : (ji9) ≤ (a0.size : Int)
                  · rw [if_pos c11] at H
                    have c11b0 := eq_true c11
                    have c11b1 : decide ((ji9) ≤ (a0.size : Int)) = true := decide_eq_true c11
                    clear c11
                    simp only [Option.some.injEq, Prod.mk.injEq] at H
                    obtain ⟨rfl, rfl⟩ := H
                    have p5 : 0 ≤ (x4_1 : Int) := of_decide_eq_true (by first | (with_reducible assumption) | assumption)
                    have q5 : x4_1 < (a0.size : Int) := of_decide_eq_true (by first | (with_reducible assumption) | assumption)
                    have hx5 := bt_at a0 x4_1
                    replace p5 := eq_true p5
                    replace q5 := eq_true q5
                    go_wp2
                    repeat (go_quiet (fail); try go_wp2)
                    go_ret2
                    exact ⟨by first | rfl | (simp; done) | (simp only [← hji9] <;> (first | rfl | simp)) | (simp [*]; done), by repeat (first | exact Drawn0.refl _ | apply Drawn0.step)⟩
                  · rw [if_neg c11] at H
                    exact absurd H (by simp)
                · rw [if_neg c10] at H
                  exact absurd H (by simp)
              · rw [if_neg c8] at H
                exact absurd H (by simp)
            · rw [if_neg c6] at H
              have c6b0 : ((bt a0 x4_1) == 47) = false := beq_eq_false_iff_ne.mpr c6
              have c6b1 : ((bt a0 x4_1) != 47) = true := bne_iff_ne.mpr c6
              have H' := Aside0.mk H
              clear H
              have p5 : 0 ≤ (x4_1 : Int) := of_decide_eq_true (by first | (with_reducible assumption) | assumption)
              have q5 : x4_1 < (a0.size : Int) := of_decide_eq_true (by first | (with_reducible assumption) | assumption)
              have hx5 := bt_at a0 x4_1
              replace p5 := eq_true p5
              replace q5 := eq_true q5
              go_wp2
              repeat (go_quiet (fail); try go_wp2)
              go_roundg k1
              case measure => have := HK1.out; omega
              case rel => exact ⟨(wrap64 (x4_1 - 1)), (by first | rfl | (simp; done) | (simp [*]; done) | (congr 1; rw [Bool.eq_iff_iff]; simp [bne]; done) | (rw [Bool.eq_iff_iff]; simp [bne]; done)), H', ⟨by have := HK1.out; omega⟩, by repeat (first | exact Drawn0.refl _ | apply Drawn0.step)⟩
          · rw [if_neg c4] at H
            exact absurd H (by simp)
        · rw [if_neg c3] at H
          exact absurd H (by simp)
      · rw [if_neg c2] at H
        have c2b0 : decide (0 ≤ x4_1) = false := decide_eq_false c2
        clear c2
        simp only [Option.some.injEq, Prod.mk.injEq] at H
        obtain ⟨rfl, rfl⟩ := H
        go_wp2
        repeat (go_quiet (fail); try go_wp2)
        go_ret2
        exact ⟨by first | rfl | (simp; done) | (simp [*]; done), by repeat (first | exact Drawn0.refl _ | apply Drawn0.step)⟩
def shelfmarkref10_deep.l0 : Nat → ByteArray → Int → Int → Option (Int)
  | 0, _, _, _ => none
  | k + 1, x0, x3, x4 => if x4 < (x0.size : Int) then (if 0 ≤ x4 then (if (bt x0 x4) = 47 then (shelfmarkref10_deep.l0 k x0 (wrap64 (x3 + 1)) (wrap64 (x4 + 1))) else (shelfmarkref10_deep.l0 k x0 x3 (wrap64 (x4 + 1)))) else (none)) else (some x3)
def shelfmarkref10_deep.f (k : Nat) (a0 : ByteArray) : Option (Int) := shelfmarkref10_deep.l0 k a0 1 0
set_option maxHeartbeats 8000000 in
set_option maxRecDepth 100000 in
theorem shelfmarkref10_deep.calls (k : Nat) (a0 : ByteArray) (r : Int) (w : World) (h : shelfmarkref10_deep.f k a0 = some r) :
    Calls Try.prog 50 #[.string a0] w fun e w' => e = .returned (.int .i64 r) ∧ Drawn0 w w' := by
  have H : (shelfmarkref10_deep.l0 k a0 1 0) = some r := h
  clear h
  have H' := Aside0.mk H
  clear H
  go_enter Try.func50, Try.ntmps50
  go_wp2
  go_loopg [3, 4] k (fun kq v3 v4 w' => ∃ (x3_1 : Int) (x4_1 : Int), v3 = .int .i64 x3_1 ∧ v4 = .int .i64 x4_1 ∧ Aside0 (shelfmarkref10_deep.l0 kq a0 x3_1 x4_1 = some r) ∧ Aside0 (kq ≤ k) ∧ Drawn0 w w')
  case atStart => exact ⟨(1), (0), (by first | rfl | (simp; done) | (simp [*]; done) | (congr 1; rw [Bool.eq_iff_iff]; simp [bne]; done) | (rw [Bool.eq_iff_iff]; simp [bne]; done)), (by first | rfl | (simp; done) | (simp [*]; done) | (congr 1; rw [Bool.eq_iff_iff]; simp [bne]; done) | (rw [Bool.eq_iff_iff]; simp [bne]; done)), H', ⟨Nat.le_refl _⟩, by repeat (first | exact Drawn0.refl _ | apply Drawn0.step)⟩
  case round =>
    clear H'
    obtain ⟨x3_1, x4_1, rfl, rfl, HA, HK1, ⟨m1, rfl⟩⟩ := hrel
    cases gk with
    | zero => exact absurd HA.out (by simp [shelfmarkref10_deep.l0])
    | succ k1 =>
      have H := HA.out
      clear HA
      simp only [shelfmarkref10_deep.l0] at H
      by_cases c2 : x4_1 < (a0.size : Int)
      · rw [if_pos c2] at H
        have c2b0 : decide (x4_1 < (a0.size : Int)) = true := decide_eq_true c2
        clear c2
        by_cases c3 : 0 ≤ x4_1
        · rw [if_pos c3] at H
          have c3b0 : decide (0 ≤ x4_1) = true := decide_eq_true c3
          clear c3
          by_cases c5 : (bt a0 x4_1) = 47
          · rw [if_pos c5] at H
            have c5b0 : ((bt a0 x4_1) == 47) = true := beq_iff_eq.mpr c5
            have c5b1 : ((bt a0 x4_1) != 47) = false := bne_eq_false_iff_eq.mpr c5
            clear c5
            have H' := Aside0.mk H
            clear H
            have p4 : 0 ≤ (x4_1 : Int) := of_decide_eq_true (by first | (with_reducible assumption) | assumption)
            have q4 : x4_1 < (a0.size : Int) := of_decide_eq_true (by first | (with_reducible assumption) | assumption)
            have hx4 := bt_at a0 x4_1
            replace p4 := eq_true p4
            replace q4 := eq_true q4
            go_wp2
            go_roundg k1
            case measure => have := HK1.out; omega
            case rel => exact ⟨(wrap64 (x3_1 + 1)), (wrap64 (x4_1 + 1)), (by first | rfl | (simp; done) | (simp [*]; done) | (congr 1; rw [Bool.eq_iff_iff]; simp [bne]; done) | (rw [Bool.eq_iff_iff]; simp [bne]; done)), (by first | rfl | (simp; done) | (simp [*]; done) | (congr 1; rw [Bool.eq_iff_iff]; simp [bne]; done) | (rw [Bool.eq_iff_iff]; simp [bne]; done)), H', ⟨by have := HK1.out; omega⟩, by repeat (first | exact Drawn0.refl _ | apply Drawn0.step)⟩
          · rw [if_neg c5] at H
            have c5b0 : ((bt a0 x4_1) == 47) = false := beq_eq_false_iff_ne.mpr c5
            have c5b1 : ((bt a0 x4_1) != 47) = true := bne_iff_ne.mpr c5
            have H' := Aside0.mk H
            clear H
            have p4 : 0 ≤ (x4_1 : Int) := of_decide_eq_true (by first | (with_reducible assumption) | assumption)
            have q4 : x4_1 < (a0.size : Int) := of_decide_eq_true (by first | (with_reducible assumption) | assumption)
            have hx4 := bt_at a0 x4_1
            replace p4 := eq_true p4
            replace q4 := eq_true q4
            go_wp2
            go_roundg k1
            case measure => have := HK1.out; omega
            case rel => exact ⟨(x3_1), (wrap64 (x4_1 + 1)), (by first | rfl | (simp; done) | (simp [*]; done) | (congr 1; rw [Bool.eq_iff_iff]; simp [bne]; done) | (rw [Bool.eq_iff_iff]; simp [bne]; done)), (by first | rfl | (simp; done) | (simp [*]; done) | (congr 1; rw [Bool.eq_iff_iff]; simp [bne]; done) | (rw [Bool.eq_iff_iff]; simp [bne]; done)), H', ⟨by have := HK1.out; omega⟩, by repeat (first | exact Drawn0.refl _ | apply Drawn0.step)⟩
        · rw [if_neg c3] at H
          exact absurd H (by simp)
      · rw [if_neg c2] at H
        have c2b0 : decide (x4_1 < (a0.size : Int)) = false := decide_eq_false c2
        clear c2
        obtain rfl := Option.some.inj H
        go_wp2
        go_ret
        exact ⟨by first | rfl | (simp; done) | (simp [*]; done), by repeat (first | exact Drawn0.refl _ | apply Drawn0.step)⟩
end Go.Proofs.Ytncokgdfkbgflaa.P
