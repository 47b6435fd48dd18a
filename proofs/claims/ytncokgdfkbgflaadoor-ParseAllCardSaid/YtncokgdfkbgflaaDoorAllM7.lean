/- Texts of this claim, joined: what the others lean on. -/
import Derived.Test.YtncokgdfkbgflaaDoorAllM4
import Derived.Test.YtncokgdfkbgflaaDoorAllM6
import Derived.RegionTactic
import Derived.Deep.RegionLaw
import Derived.Deep.DeepCutAuto
import Derived.Laws.ResultCell
import Derived.Test.YtncokgdfkbgflaaDoorAllM5
set_option linter.unusedVariables false
set_option linter.unusedSimpArgs false
namespace Go.Proofs.YtncokgdfkbgflaaDoor.R
open Go.RowKit Go.Proofs.YtncokgdfkbgflaaDoorW.PrintWords Go.Proofs.YtncokgdfkbgflaaDoorW.PrintLast Go.Proofs.YtncokgdfkbgflaaDoorW.PrintMore Go.Proofs.YtncokgdfkbgflaaDoor.P
attribute [local go_sem] max2_int min2_int max_two min_two max_three min_three max_four min_four
set_option linter.unusedVariables false
set_option linter.unusedSimpArgs false
def IsV76 (w0 W : World) (g : Nat) (f0 : ByteArray) (f1 : Int) (f2 : Value) (f3 : Int) : Prop := ∃ (A2 : Option Addr) (c2 : Nat), W.heap[g]? = some (.cells #[.string f0, .int .i64 f1, f2, .int .i64 f3] 76 (0, 0)) ∧ w0.heap.size ≤ g ∧ True
theorem IsV76.grown {w0 W : World} {g : Nat} {f0 : ByteArray} {f1 : Int} {f2 : Value} {f3 : Int} {W1 : World} {row : Option Nat} (h : IsV76 w0 W g f0 f1 f2 f3) (hw : W.grownBy W1 row) (hne : some g ≠ row) : IsV76 w0 W1 g f0 f1 f2 f3 := by
  obtain ⟨A2, c2, hb, hg, hr2⟩ := h
  exact ⟨A2, c2, blk_grown hb hw hne, hg, hr2⟩
theorem IsV76.kept {w0 W : World} {g : Nat} {f0 : ByteArray} {f1 : Int} {f2 : Value} {f3 : Int} {W1 : World} {S : Nat → Prop} (h : IsV76 w0 W g f0 f1 f2 f3) (hk : Kept W W1 S) (hne : ¬ S g) : IsV76 w0 W1 g f0 f1 f2 f3 := by
  obtain ⟨A2, c2, hb, hg, hr2⟩ := h
  exact ⟨A2, c2, blk_kept hb hk hne, hg, hr2⟩
theorem IsV76.below {w0 W : World} {g : Nat} {f0 : ByteArray} {f1 : Int} {f2 : Value} {f3 : Int} {W1 : World} (h : IsV76 w0 W g f0 f1 f2 f3) (hw : Below W.heap.size W W1) : IsV76 w0 W1 g f0 f1 f2 f3 := h.grown (grown_of_below hw none) (by simp)
theorem IsV76.alloc {w0 W : World} {g : Nat} {f0 : ByteArray} {f1 : Int} {f2 : Value} {f3 : Int} (h : IsV76 w0 W g f0 f1 f2 f3) (o : Obj) : IsV76 w0 (W.alloc o) g f0 f1 f2 f3 := h.below (below_alloc (Below.refl _ _) o)
theorem IsV76.drewN {w0 W : World} {g : Nat} {f0 : ByteArray} {f1 : Int} {f2 : Value} {f3 : Int} (h : IsV76 w0 W g f0 f1 f2 f3) (m : Nat) : IsV76 w0 (W.drewN m) g f0 f1 f2 f3 := h
theorem IsV76.drew {w0 W : World} {g : Nat} {f0 : ByteArray} {f1 : Int} {f2 : Value} {f3 : Int} (h : IsV76 w0 W g f0 f1 f2 f3) : IsV76 w0 W.drew g f0 f1 f2 f3 := h
theorem IsV76.at_ {w0 W : World} {g : Nat} {f0 : ByteArray} {f1 : Int} {f2 : Value} {f3 : Int} {w' : World} {m : Nat} (hq : W.drewN m = w') (h : IsV76 w0 W g f0 f1 f2 f3) : IsV76 w0 w' g f0 f1 f2 f3 := by subst hq; exact IsV76.drewN h m
theorem IsV76.apart {w0 W : World} {g : Nat} {f0 : ByteArray} {f1 : Int} {f2 : Value} {f3 : Int} {α : Type} {d : Kd α} {e : Nat} {base : Nat} {ok : Nat → Prop} {v : Value} {xs : List α} (h : IsV76 w0 W g f0 f1 f2 f3) (ho : d.R e W base ok v xs) (ht : ∀ q, q ∈ e :: d.E → q ≠ 76) : d.R e W base (fun k => ok k ∧ k ≠ g) v xs := by
  obtain ⟨A2, c2, hb, hg, hr2⟩ := h
  exact Kd.R_types ho hb ht
theorem IsV76.own_ne {w0 W : World} {g : Nat} {f0 : ByteArray} {f1 : Int} {f2 : Value} {f3 : Int} {α : Type} {d : Kd α} {e : Nat} {base : Nat} {ok : Nat → Prop} {v : Value} {xs : List α} (h : IsV76 w0 W g f0 f1 f2 f3) (ho : d.R e W base ok v xs) (ht : e ≠ 76) : some g ≠ v.ownBlock := by
  obtain ⟨A2, c2, hb, hg, hr2⟩ := h
  exact Kd.R_ne ho hb ht
theorem IsV76.lt {w0 W : World} {g : Nat} {f0 : ByteArray} {f1 : Int} {f2 : Value} {f3 : Int} (h : IsV76 w0 W g f0 f1 f2 f3) : g < W.heap.size := by
  obtain ⟨A2, c2, hb, hg, hr2⟩ := h
  exact blk_lt hb
theorem IsV76.ge {w0 W : World} {g : Nat} {f0 : ByteArray} {f1 : Int} {f2 : Value} {f3 : Int} (h : IsV76 w0 W g f0 f1 f2 f3) : w0.heap.size ≤ g := by
  obtain ⟨A2, c2, hb, hg, hr2⟩ := h
  exact hg
theorem cellV76_0 {W : World} {g : Nat} {f0 : ByteArray} {f1 : Int} {f2 : Value} {f3 : Int} (h : W.heap[g]? = some (.cells #[.string f0, .int .i64 f1, f2, .int .i64 f3] 76 (0, 0))) : W.cell? ⟨g, 0, none⟩ = some (.string f0) := (blk_cell h 0).trans rfl
theorem IsV76.set_0 {w0 W : World} {g : Nat} {f0 : ByteArray} {f1 : Int} {f2 : Value} {f3 : Int} (h : IsV76 w0 W g f0 f1 f2 f3) (x : ByteArray) : IsV76 w0 (W.setCell ⟨g, 0, none⟩ (.string x)) g x f1 f2 f3 := by
  obtain ⟨A2, c2, hb, hg, hr2⟩ := h
  exact ⟨A2, c2, by simpa using blk_set hb 0 (.string x), hg, hr2⟩
theorem cellV76_1 {W : World} {g : Nat} {f0 : ByteArray} {f1 : Int} {f2 : Value} {f3 : Int} (h : W.heap[g]? = some (.cells #[.string f0, .int .i64 f1, f2, .int .i64 f3] 76 (0, 0))) : W.cell? ⟨g, 1, none⟩ = some (.int .i64 f1) := (blk_cell h 1).trans rfl
theorem IsV76.set_1 {w0 W : World} {g : Nat} {f0 : ByteArray} {f1 : Int} {f2 : Value} {f3 : Int} (h : IsV76 w0 W g f0 f1 f2 f3) (x : Int) : IsV76 w0 (W.setCell ⟨g, 1, none⟩ (.int .i64 x)) g f0 x f2 f3 := by
  obtain ⟨A2, c2, hb, hg, hr2⟩ := h
  exact ⟨A2, c2, by simpa using blk_set hb 1 (.int .i64 x), hg, hr2⟩
theorem cellV76_2 {W : World} {g : Nat} {f0 : ByteArray} {f1 : Int} {f2 : Value} {f3 : Int} (h : W.heap[g]? = some (.cells #[.string f0, .int .i64 f1, f2, .int .i64 f3] 76 (0, 0))) : W.cell? ⟨g, 2, none⟩ = some (f2) := (blk_cell h 2).trans rfl
theorem cellV76_3 {W : World} {g : Nat} {f0 : ByteArray} {f1 : Int} {f2 : Value} {f3 : Int} (h : W.heap[g]? = some (.cells #[.string f0, .int .i64 f1, f2, .int .i64 f3] 76 (0, 0))) : W.cell? ⟨g, 3, none⟩ = some (.int .i64 f3) := (blk_cell h 3).trans rfl
theorem IsV76.set_3 {w0 W : World} {g : Nat} {f0 : ByteArray} {f1 : Int} {f2 : Value} {f3 : Int} (h : IsV76 w0 W g f0 f1 f2 f3) (x : Int) : IsV76 w0 (W.setCell ⟨g, 3, none⟩ (.int .i64 x)) g f0 f1 f2 x := by
  obtain ⟨A2, c2, hb, hg, hr2⟩ := h
  exact ⟨A2, c2, by simpa using blk_set hb 3 (.int .i64 x), hg, hr2⟩
theorem IsV76.new (w0 W : World) (f0 : ByteArray) (f1 : Int) (f2 : Value) (f3 : Int) (hB : Below w0.heap.size w0 W)  : IsV76 w0 (W.alloc (.cells #[.string f0, .int .i64 f1, f2, .int .i64 f3] 76)) W.heap.size f0 f1 f2 f3 := ⟨none, 0, by simpa using heap_alloc_new W _, hB.size, trivial⟩
def rr_wrong.f (s0_0 : ByteArray) (s0_1 : Int) (s0_2 : Value) (s0_3 : Int) (a1 : Bool) : Option (ByteArray × Int × Int) := if a1 = true then (if s0_3 = 0 then (some (s0_0, s0_1, 4)) else (some (s0_0, s0_1, s0_3))) else (some (s0_0, s0_1, s0_3))
set_option maxHeartbeats 8000000 in
set_option maxRecDepth 100000 in
theorem rr_wrong.calls (g : Nat) (s0_0 : ByteArray) (s0_1 : Int) (s0_2 : Value) (s0_3 : Int) (a1 : Bool) (r1 : ByteArray) (r2 : Int) (r3 : Int) (w0 w : World) (hI : IsV76 w0 w g s0_0 s0_1 s0_2 s0_3) (hB : Below w0.heap.size w0 w) (h : rr_wrong.f s0_0 s0_1 s0_2 s0_3 a1 = some (r1, r2, r3)) :
    Calls Tryd.prog 45 #[.pointer (some ⟨g, 0, none⟩), .bool a1] w fun e w' => e = .returned (.tuple #[]) ∧ IsV76 w0 w' g r1 r2 s0_2 r3 ∧ Below w0.heap.size w0 w' ∧ KeepBut w w' g none := by
  have HI0 := Aside0.mk hI
  have HK := Aside0.mk (KeepBut.refl w g none)
  have HL := Aside0.mk hB.size
  clear hI
  have HW0 := Aside0.mk hB.size
  have HB := Aside0.mk hB
  clear hB
  have H : (if a1 = true then (if s0_3 = 0 then (some (s0_0, s0_1, 4)) else (some (s0_0, s0_1, s0_3))) else (some (s0_0, s0_1, s0_3))) = some (r1, r2, r3) := h
  clear h
  by_cases c3 : a1 = true
  · subst c3
    have H1 : (if s0_3 = 0 then (some (s0_0, s0_1, 4)) else (some (s0_0, s0_1, s0_3))) = some (r1, r2, r3) := by rw [if_pos rfl] at H; exact H
    clear H
    have H := H1
    clear H1
    by_cases c4 : s0_3 = 0
    · rw [if_pos c4] at H
      have c4b0 : (s0_3 == 0) = true := beq_iff_eq.mpr c4
      have c4b1 : (s0_3 != 0) = false := bne_eq_false_iff_eq.mpr c4
      clear c4
      simp only [Option.some.injEq, Prod.mk.injEq] at H
      obtain ⟨rfl, rfl, rfl⟩ := H
      obtain ⟨ASz5_2, cSz5_2, HGz5, hgz5, HSz5_2⟩ := HI0.out
      have hcz5_0 := cellV76_0 HGz5
      have hcz5_1 := cellV76_1 HGz5
      have hcz5_2 := cellV76_2 HGz5
      have hcz5_3 := cellV76_3 HGz5
      have hfz5_0 := blk_frozen HGz5 0
      have hfz5_1 := blk_frozen HGz5 1
      have hfz5_3 := blk_frozen HGz5 3
      clear HGz5 hgz5
      go_enter Tryd.func45, Tryd.ntmps45
      go_wp2
      first | go_end0 | ((try simp only [Exit.inBlock, Exit.then]); refine bodyPost_ret (results_none rfl _ _ _) rfl ?_)
      exact ⟨by first | rfl | (simp [errW_none, errW_some] <;> rfl) | (simp [*, errW_none, errW_some] <;> rfl), by repeat (first | (with_reducible first | exact HI0.out | apply IsV76.alloc | apply IsV76.drewN | apply IsV76.drew | apply IsV76.set_0 | apply IsV76.set_1 | apply IsV76.set_3) | exact HI0.out), by repeat (first | (with_reducible first | exact HB.out | apply below_alloc | apply pw_below_drewN | apply below_drew1 | refine below_set ?_ (IsV76.ge HI0.out)) | exact HB.out), by repeat (first | (with_reducible first | exact HK.out | apply KeepBut.set_ | apply keep_drewN | apply keep_drew | apply keep_alloc) | exact HK.out)⟩
    · rw [if_neg c4] at H
      have c4b0 : (s0_3 == 0) = false := beq_eq_false_iff_ne.mpr c4
      have c4b1 : (s0_3 != 0) = true := bne_iff_ne.mpr c4
      simp only [Option.some.injEq, Prod.mk.injEq] at H
      obtain ⟨rfl, rfl, rfl⟩ := H
      obtain ⟨ASz6_2, cSz6_2, HGz6, hgz6, HSz6_2⟩ := HI0.out
      have hcz6_0 := cellV76_0 HGz6
      have hcz6_1 := cellV76_1 HGz6
      have hcz6_2 := cellV76_2 HGz6
      have hcz6_3 := cellV76_3 HGz6
      have hfz6_0 := blk_frozen HGz6 0
      have hfz6_1 := blk_frozen HGz6 1
      have hfz6_3 := blk_frozen HGz6 3
      clear HGz6 hgz6
      go_enter Tryd.func45, Tryd.ntmps45
      go_wp2
      first | go_end0 | ((try simp only [Exit.inBlock, Exit.then]); refine bodyPost_ret (results_none rfl _ _ _) rfl ?_)
      exact ⟨by first | rfl | (simp [errW_none, errW_some] <;> rfl) | (simp [*, errW_none, errW_some] <;> rfl), by repeat (first | (with_reducible first | exact HI0.out | apply IsV76.alloc | apply IsV76.drewN | apply IsV76.drew | apply IsV76.set_0 | apply IsV76.set_1 | apply IsV76.set_3) | exact HI0.out), by repeat (first | (with_reducible first | exact HB.out | apply below_alloc | apply pw_below_drewN | apply below_drew1 | refine below_set ?_ (IsV76.ge HI0.out)) | exact HB.out), by repeat (first | (with_reducible first | exact HK.out | apply KeepBut.set_ | apply keep_drewN | apply keep_drew | apply keep_alloc) | exact HK.out)⟩
  · replace c3 := Bool.eq_false_iff.mpr c3
    subst c3
    have H1 : (some (s0_0, s0_1, s0_3)) = some (r1, r2, r3) := by rw [if_neg (show ¬ (false = true) by decide)] at H; exact H
    clear H
    have H := H1
    clear H1
    simp only [Option.some.injEq, Prod.mk.injEq] at H
    obtain ⟨rfl, rfl, rfl⟩ := H
    go_enter Tryd.func45, Tryd.ntmps45
    go_wp2
    first | go_end0 | ((try simp only [Exit.inBlock, Exit.then]); refine bodyPost_ret (results_none rfl _ _ _) rfl ?_)
    exact ⟨by first | rfl | (simp [errW_none, errW_some] <;> rfl) | (simp [*, errW_none, errW_some] <;> rfl), by repeat (first | (with_reducible first | exact HI0.out | apply IsV76.alloc | apply IsV76.drewN | apply IsV76.drew | apply IsV76.set_0 | apply IsV76.set_1 | apply IsV76.set_3) | exact HI0.out), by repeat (first | (with_reducible first | exact HB.out | apply below_alloc | apply pw_below_drewN | apply below_drew1 | refine below_set ?_ (IsV76.ge HI0.out)) | exact HB.out), by repeat (first | (with_reducible first | exact HK.out | apply KeepBut.set_ | apply keep_drewN | apply keep_drew | apply keep_alloc) | exact HK.out)⟩
mutual
def rr_text.l0 : Nat → Int → Int → Int → ByteArray → Int → Value → Int → Option (ByteArray × ByteArray × Int × Int)
  | 0, _, _, _, _, _, _, _ => none
  | k + 1, x1, x5, x6, x1000, x1001, x1002, x1003 => if x6 < 8 then (if 0 ≤ (wrap64 (x1001 + x6)) then (if (wrap64 (x1001 + x6)) < (x1000.size : Int) then (if 0 ≤ (wrap64 (8 * x6)) then (rr_text.l0 k x1 (Go.bits .or .u64 x5 (shl .u64 (IntKind.u64.wrap (bt x1000 (wrap64 (x1001 + x6)))) (wrap64 (8 * x6)))) (wrap64 (x6 + 1)) x1000 x1001 x1002 x1003) else (none)) else (none)) else (none)) else (if x5 > (IntKind.u64.wrap (x1)) then (some ((⟨#[]⟩ : ByteArray), x1000, x1001, 4)) else (if (wrap64 ((x1000.size : Int) - (wrap64 (x1001 + 8)))) < (wrap64 ((wrap64 (Int.tdiv (wrap64 ((wrap64 (x5)) + 7)) 8)) * 8)) then (some ((⟨#[]⟩ : ByteArray), x1000, x1001, 5)) else (rr_text.l1 k x5 (wrap64 ((wrap64 (Int.tdiv (wrap64 ((wrap64 (x5)) + 7)) 8)) * 8)) (wrap64 (x1001 + 8)) (wrap64 ((wrap64 (x1001 + 8)) + (wrap64 (x5)))) x1000 x1001 x1002 x1003)))
def rr_text.l1 : Nat → Int → Int → Int → Int → ByteArray → Int → Value → Int → Option (ByteArray × ByteArray × Int × Int)
  | 0, _, _, _, _, _, _, _, _ => none
  | k + 1, x5, x7, x8, x9, x1000, x1001, x1002, x1003 => if x9 < (wrap64 (x8 + x7)) then (if 0 ≤ x9 then (if x9 < (x1000.size : Int) then (if (bt x1000 x9) = 0 then (rr_text.l1 k x5 x7 x8 (wrap64 (x9 + 1)) x1000 x1001 x1002 x1003) else (some ((⟨#[]⟩ : ByteArray), x1000, x1001, 4))) else (none)) else (none)) else (if 0 ≤ x8 then (if x8 ≤ (wrap64 (x8 + (wrap64 (x5)))) then (if (wrap64 (x8 + (wrap64 (x5)))) ≤ (x1000.size : Int) then (some (x1000.extract (x8 : Int).toNat ((wrap64 (x8 + (wrap64 (x5)))) : Int).toNat, x1000, wrap64 (x8 + x7), x1003)) else (none)) else (none)) else (none))
end
def rr_text.f (k : Nat) (s0_0 : ByteArray) (s0_1 : Int) (s0_2 : Value) (s0_3 : Int) (a1 : Int) : Option (ByteArray × ByteArray × Int × Int) := if s0_3 = 0 then (if (wrap64 ((s0_0.size : Int) - s0_1)) < 8 then (some ((⟨#[]⟩ : ByteArray), s0_0, s0_1, 5)) else (rr_text.l0 k a1 0 0 s0_0 s0_1 s0_2 s0_3)) else (some ((⟨#[]⟩ : ByteArray), s0_0, s0_1, s0_3))
set_option maxHeartbeats 8000000 in
set_option maxRecDepth 100000 in
theorem rr_text.calls (k : Nat) (g : Nat) (s0_0 : ByteArray) (s0_1 : Int) (s0_2 : Value) (s0_3 : Int) (a1 : Int) (r1 : ByteArray) (r2 : ByteArray) (r3 : Int) (r4 : Int) (w0 w : World) (hI : IsV76 w0 w g s0_0 s0_1 s0_2 s0_3) (hB : Below w0.heap.size w0 w) (h : rr_text.f k s0_0 s0_1 s0_2 s0_3 a1 = some (r1, r2, r3, r4)) :
    Calls Tryd.prog 65 #[.pointer (some ⟨g, 0, none⟩), .int .i64 a1] w fun e w' => e = .returned (.string r1) ∧ IsV76 w0 w' g r2 r3 s0_2 r4 ∧ Below w0.heap.size w0 w' ∧ KeepBut w w' g none := by
  have HI0 := Aside0.mk hI
  have HK := Aside0.mk (KeepBut.refl w g none)
  have HL := Aside0.mk hB.size
  clear hI
  have HW0 := Aside0.mk hB.size
  have HB := Aside0.mk hB
  clear hB
  have H : (if s0_3 = 0 then (if (wrap64 ((s0_0.size : Int) - s0_1)) < 8 then (some ((⟨#[]⟩ : ByteArray), s0_0, s0_1, 5)) else (rr_text.l0 k a1 0 0 s0_0 s0_1 s0_2 s0_3)) else (some ((⟨#[]⟩ : ByteArray), s0_0, s0_1, s0_3))) = some (r1, r2, r3, r4) := h
  clear h
  by_cases c3 : s0_3 = 0
  · rw [if_pos c3] at H
    have c3b0 : (s0_3 == 0) = true := beq_iff_eq.mpr c3
    have c3b1 : (s0_3 != 0) = false := bne_eq_false_iff_eq.mpr c3
    clear c3
    by_cases c4 : (wrap64 ((s0_0.size : Int) - s0_1)) < 8
    · rw [if_pos c4] at H
      have c4b0 : decide ((wrap64 ((s0_0.size : Int) - s0_1)) < 8) = true := decide_eq_true c4
      clear c4
      simp only [Option.some.injEq, Prod.mk.injEq] at H
      obtain ⟨rfl, rfl, rfl, rfl⟩ := H
      obtain ⟨ASz5_2, cSz5_2, HGz5, hgz5, HSz5_2⟩ := HI0.out
      have hcz5_0 := cellV76_0 HGz5
      have hcz5_1 := cellV76_1 HGz5
      have hcz5_2 := cellV76_2 HGz5
      have hcz5_3 := cellV76_3 HGz5
      have hfz5_0 := blk_frozen HGz5 0
      have hfz5_1 := blk_frozen HGz5 1
      have hfz5_3 := blk_frozen HGz5 3
      clear HGz5 hgz5
      go_enter Tryd.func65, Tryd.ntmps65
      go_wp2
      repeat (go_quiet (fail); try go_wp2)
      go_ret
      exact ⟨by first | rfl | (simp [errW_none, errW_some] <;> rfl) | (simp [*, errW_none, errW_some] <;> rfl), by repeat (first | (with_reducible first | exact HI0.out | apply IsV76.alloc | apply IsV76.drewN | apply IsV76.drew | apply IsV76.set_0 | apply IsV76.set_1 | apply IsV76.set_3) | exact HI0.out), by repeat (first | (with_reducible first | exact HB.out | apply below_alloc | apply pw_below_drewN | apply below_drew1 | refine below_set ?_ (IsV76.ge HI0.out)) | exact HB.out), by repeat (first | (with_reducible first | exact HK.out | apply KeepBut.set_ | apply keep_drewN | apply keep_drew | apply keep_alloc) | exact HK.out)⟩
    · rw [if_neg c4] at H
      have c4b0 : decide ((wrap64 ((s0_0.size : Int) - s0_1)) < 8) = false := decide_eq_false c4
      clear c4
      have H' := Aside0.mk H
      clear H
      obtain ⟨ASz6_2, cSz6_2, HGz6, hgz6, HSz6_2⟩ := HI0.out
      have hcz6_0 := cellV76_0 HGz6
      have hcz6_1 := cellV76_1 HGz6
      have hcz6_2 := cellV76_2 HGz6
      have hcz6_3 := cellV76_3 HGz6
      have hfz6_0 := blk_frozen HGz6 0
      have hfz6_1 := blk_frozen HGz6 1
      have hfz6_3 := blk_frozen HGz6 3
      clear HGz6 hgz6
      go_enter Tryd.func65, Tryd.ntmps65
      go_wp2
      repeat (go_quiet (fail); try go_wp2)
      go_loopg [5, 6] k (fun kq v5 v6 w' => ∃ (x5_1 : Int) (x6_1 : Int), v5 = .int .u64 x5_1 ∧ v6 = .int .i64 x6_1 ∧ Aside0 (rr_text.l0 kq a1 x5_1 x6_1 s0_0 s0_1 s0_2 s0_3 = some (r1, r2, r3, r4)) ∧ Aside0 (kq ≤ k) ∧ Aside0 (IsV76 w0 w' g s0_0 s0_1 s0_2 s0_3) ∧ Aside0 (KeepBut w w' g none) ∧ Aside0 (Below w0.heap.size w0 w'))
      case atStart => exact ⟨(0), (0), (by first | rfl | (simp; done) | (simp [*]; done) | (congr 1; rw [Bool.eq_iff_iff]; simp [bne]; done) | (rw [Bool.eq_iff_iff]; simp [bne]; done)), (by first | rfl | (simp; done) | (simp [*]; done) | (congr 1; rw [Bool.eq_iff_iff]; simp [bne]; done) | (rw [Bool.eq_iff_iff]; simp [bne]; done)), H', ⟨Nat.le_refl _⟩, ⟨by repeat (first | (with_reducible first | exact HI0.out | apply IsV76.alloc | apply IsV76.drewN | apply IsV76.drew | apply IsV76.set_0 | apply IsV76.set_1 | apply IsV76.set_3) | exact HI0.out)⟩, ⟨by repeat (first | (with_reducible first | exact HK.out | apply KeepBut.set_ | apply keep_drewN | apply keep_drew | apply keep_alloc) | exact HK.out)⟩, ⟨by repeat (first | (with_reducible first | exact HB.out | apply below_alloc | apply pw_below_drewN | apply below_drew1 | refine below_set ?_ (IsV76.ge HI0.out)) | exact HB.out)⟩⟩
      case round =>
        clear H'
        try clear p2
        try clear c3
        try clear c3b0
        try clear c3b1
        try clear c4
        try clear c4b0
        try clear c6
        try clear p6
        try clear hcz5_0
        try clear hcz5_1
        try clear hcz5_2
        try clear hcz5_3
        try clear hcz6_0
        try clear hcz6_1
        try clear hcz6_2
        try clear hcz6_3
        try clear hfz5_0
        try clear hfz5_1
        try clear hfz5_3
        try clear hfz6_0
        try clear hfz6_1
        try clear hfz6_3
        obtain ⟨x5_1, x6_1, rfl, rfl, HA, HK1, HI0, HK, HB⟩ := hrel
        cases gk with
        | zero => exact absurd HA.out (by simp [rr_text.l0])
        | succ k1 =>
          have H := HA.out
          clear HA
          simp only [rr_text.l0] at H
          by_cases c7 : x6_1 < 8
          · rw [if_pos c7] at H
            have c7b0 : decide (x6_1 < 8) = true := decide_eq_true c7
            clear c7
            obtain ⟨ji8, hji8⟩ : ∃ j_ : Int, (wrap64 (s0_1 + x6_1)) = j_ := ⟨_, rfl⟩
            replace H : (if 0 ≤ (ji8) then (if (ji8) < (s0_0.size : Int) then (if 0 ≤ (wrap64 (8 * x6_1)) then (rr_text.l0 k1 a1 (Go.bits .or .u64 x5_1 (shl .u64 (IntKind.u64.wrap (bt s0_0 (ji8))) (wrap64 (8 * x6_1)))) (wrap64 (x6_1 + 1)) s0_0 s0_1 s0_2 s0_3) else (none)) else (none)) else (none)) = some (r1, r2, r3, r4) := by first | (rw [hji8] at H; exact H) | (simp only [hji8] at H ⊢; exact H)
            have hji8w : (IntKind.i64.wrap (s0_1 + x6_1)) = ji8 := (i64_w _).trans hji8
            by_cases c9 : 0 ≤ (ji8)
            · rw [if_pos c9] at H
              have c9b0 : decide (0 ≤ (ji8)) = true := decide_eq_true c9
              clear c9
              by_cases c10 : (ji8) < (s0_0.size : Int)
              · rw [if_pos c10] at H
                have c10b0 : decide ((ji8) < (s0_0.size : Int)) = true := decide_eq_true c10
                clear c10
                obtain ⟨ji12, hji12⟩ : ∃ j_ : Int, (wrap64 (8 * x6_1)) = j_ := ⟨_, rfl⟩
                replace H : (if 0 ≤ (ji12) then (rr_text.l0 k1 a1 (Go.bits .or .u64 x5_1 (shl .u64 (IntKind.u64.wrap (bt s0_0 (ji8))) (ji12))) (wrap64 (x6_1 + 1)) s0_0 s0_1 s0_2 s0_3) else (none)) = some (r1, r2, r3, r4) := by first | (rw [hji12] at H; exact H) | (simp only [hji12] at H ⊢; exact H)
                have hji12w : (IntKind.i64.wrap (8 * x6_1)) = ji12 := (i64_w _).trans hji12
                by_cases c13 : 0 ≤ (ji12)
                · rw [if_pos c13] at H
                  have c13b0 := eq_true c13
                  have c13b1 : decide (0 ≤ (ji12)) = true := decide_eq_true c13
                  clear c13
                  obtain ⟨ji14, hji14⟩ : ∃ j_ : Int, (shl .u64 (IntKind.u64.wrap (bt s0_0 (ji8))) (ji12)) = j_ := ⟨_, rfl⟩
                  replace H : (rr_text.l0 k1 a1 (Go.bits .or .u64 x5_1 (ji14)) (wrap64 (x6_1 + 1)) s0_0 s0_1 s0_2 s0_3) = some (r1, r2, r3, r4) := by first | (rw [hji14] at H; exact H) | (simp only [hji14] at H ⊢; exact H)
                  have hji14_ : (IntKind.u64.wrap ((IntKind.u64.wrap (bt s0_0 (ji8))) * 2 ^ min (ji12).toNat 64)) = ji14 := hji14
                  have hji14z : (ji12) ≤ 64 → (IntKind.u64.wrap ((IntKind.u64.wrap (bt s0_0 (ji8))) * 2 ^ (ji12).toNat)) = ji14 := shl_small hji14
                  have H' := Aside0.mk H
                  clear H
                  obtain ⟨ASz15_2, cSz15_2, HGz15, hgz15, HSz15_2⟩ := HI0.out
                  have hcz15_0 := cellV76_0 HGz15
                  have hcz15_1 := cellV76_1 HGz15
                  have hcz15_2 := cellV76_2 HGz15
                  have hcz15_3 := cellV76_3 HGz15
                  have hfz15_0 := blk_frozen HGz15 0
                  have hfz15_1 := blk_frozen HGz15 1
                  have hfz15_3 := blk_frozen HGz15 3
                  clear HGz15 hgz15
                  have p11 : 0 ≤ ((ji8) : Int) := of_decide_eq_true (by first | (with_reducible assumption) | assumption)
                  have q11 : (ji8) < (s0_0.size : Int) := of_decide_eq_true (by first | (with_reducible assumption) | assumption)
                  have hx11 := bt_at s0_0 (ji8)
                  replace p11 := eq_true p11
                  replace q11 := eq_true q11
                  go_wp2
                  repeat (go_quiet (fail); try go_wp2)
                  go_roundg k1
                  case measure => have := HK1.out; omega
                  case rel => exact ⟨(Go.bits .or .u64 x5_1 (ji14)), (wrap64 (x6_1 + 1)), (by first | rfl | (simp; done) | (simp only [← hji14] <;> (first | rfl | simp)) | (simp [*]; done)), (by first | rfl | (simp; done) | (simp [*]; done) | (congr 1; rw [Bool.eq_iff_iff]; simp [bne]; done) | (rw [Bool.eq_iff_iff]; simp [bne]; done)), H', ⟨by have := HK1.out; omega⟩, ⟨by repeat (first | (with_reducible first | exact HI0.out | apply IsV76.alloc | apply IsV76.drewN | apply IsV76.drew | apply IsV76.set_0 | apply IsV76.set_1 | apply IsV76.set_3) | exact HI0.out)⟩, ⟨by repeat (first | (with_reducible first | exact HK.out | apply KeepBut.set_ | apply keep_drewN | apply keep_drew | apply keep_alloc) | exact HK.out)⟩, ⟨by repeat (first | (with_reducible first | exact HB.out | apply below_alloc | apply pw_below_drewN | apply below_drew1 | refine below_set ?_ (IsV76.ge HI0.out)) | exact HB.out)⟩⟩
                · rw [if_neg c13] at H
                  exact absurd H (by simp)
              · rw [if_neg c10] at H
                exact absurd H (by simp)
            · rw [if_neg c9] at H
              exact absurd H (by simp)
          · rw [if_neg c7] at H
            have c7b0 : decide (x6_1 < 8) = false := decide_eq_false c7
            clear c7
            by_cases c16 : x5_1 > (IntKind.u64.wrap (a1))
            · rw [if_pos c16] at H
              have c16b0 : decide ((IntKind.u64.wrap (a1)) < x5_1) = true := decide_eq_true c16
              clear c16
              simp only [Option.some.injEq, Prod.mk.injEq] at H
              obtain ⟨rfl, rfl, rfl, rfl⟩ := H
              obtain ⟨ASz17_2, cSz17_2, HGz17, hgz17, HSz17_2⟩ := HI0.out
              have hcz17_0 := cellV76_0 HGz17
              have hcz17_1 := cellV76_1 HGz17
              have hcz17_2 := cellV76_2 HGz17
              have hcz17_3 := cellV76_3 HGz17
              have hfz17_0 := blk_frozen HGz17 0
              have hfz17_1 := blk_frozen HGz17 1
              have hfz17_3 := blk_frozen HGz17 3
              clear HGz17 hgz17
              go_wp2
              repeat (go_quiet (fail); try go_wp2)
              go_ret
              exact ⟨by first | rfl | (simp [errW_none, errW_some] <;> rfl) | (simp [*, errW_none, errW_some] <;> rfl), by repeat (first | (with_reducible first | exact HI0.out | apply IsV76.alloc | apply IsV76.drewN | apply IsV76.drew | apply IsV76.set_0 | apply IsV76.set_1 | apply IsV76.set_3) | exact HI0.out), by repeat (first | (with_reducible first | exact HB.out | apply below_alloc | apply pw_below_drewN | apply below_drew1 | refine below_set ?_ (IsV76.ge HI0.out)) | exact HB.out), by repeat (first | (with_reducible first | exact HK.out | apply KeepBut.set_ | apply keep_drewN | apply keep_drew | apply keep_alloc) | exact HK.out)⟩
            · rw [if_neg c16] at H
              have c16b0 : decide ((IntKind.u64.wrap (a1)) < x5_1) = false := decide_eq_false c16
              clear c16
              by_cases c18 : (wrap64 ((s0_0.size : Int) - (wrap64 (s0_1 + 8)))) < (wrap64 ((wrap64 (Int.tdiv (wrap64 ((wrap64 (x5_1)) + 7)) 8)) * 8))
              · rw [if_pos c18] at H
                have c18b0 : decide ((wrap64 ((s0_0.size : Int) - (wrap64 (s0_1 + 8)))) < (wrap64 ((wrap64 (Int.tdiv (wrap64 ((wrap64 (x5_1)) + 7)) 8)) * 8))) = true := decide_eq_true c18
                clear c18
                simp only [Option.some.injEq, Prod.mk.injEq] at H
                obtain ⟨rfl, rfl, rfl, rfl⟩ := H
                obtain ⟨ASz19_2, cSz19_2, HGz19, hgz19, HSz19_2⟩ := HI0.out
                have hcz19_0 := cellV76_0 HGz19
                have hcz19_1 := cellV76_1 HGz19
                have hcz19_2 := cellV76_2 HGz19
                have hcz19_3 := cellV76_3 HGz19
                have hfz19_0 := blk_frozen HGz19 0
                have hfz19_1 := blk_frozen HGz19 1
                have hfz19_3 := blk_frozen HGz19 3
                clear HGz19 hgz19
                go_wp2
                repeat (go_quiet (fail); try go_wp2)
                go_ret
                exact ⟨by first | rfl | (simp [errW_none, errW_some] <;> rfl) | (simp [*, errW_none, errW_some] <;> rfl), by repeat (first | (with_reducible first | exact HI0.out | apply IsV76.alloc | apply IsV76.drewN | apply IsV76.drew | apply IsV76.set_0 | apply IsV76.set_1 | apply IsV76.set_3) | exact HI0.out), by repeat (first | (with_reducible first | exact HB.out | apply below_alloc | apply pw_below_drewN | apply below_drew1 | refine below_set ?_ (IsV76.ge HI0.out)) | exact HB.out), by repeat (first | (with_reducible first | exact HK.out | apply KeepBut.set_ | apply keep_drewN | apply keep_drew | apply keep_alloc) | exact HK.out)⟩
              · rw [if_neg c18] at H
                have c18b0 : decide ((wrap64 ((s0_0.size : Int) - (wrap64 (s0_1 + 8)))) < (wrap64 ((wrap64 (Int.tdiv (wrap64 ((wrap64 (x5_1)) + 7)) 8)) * 8))) = false := decide_eq_false c18
                clear c18
                have H' := Aside0.mk H
                clear H
                obtain ⟨ASz20_2, cSz20_2, HGz20, hgz20, HSz20_2⟩ := HI0.out
                have hcz20_0 := cellV76_0 HGz20
                have hcz20_1 := cellV76_1 HGz20
                have hcz20_2 := cellV76_2 HGz20
                have hcz20_3 := cellV76_3 HGz20
                have hfz20_0 := blk_frozen HGz20 0
                have hfz20_1 := blk_frozen HGz20 1
                have hfz20_3 := blk_frozen HGz20 3
                clear HGz20 hgz20
                go_wp2
                repeat (go_quiet (fail); try go_wp2)
                go_loopg [9] k1 (fun kq v9 w' => ∃ (x9_2 : Int) (x1003_2 : Int), v9 = .int .i64 x9_2 ∧ Aside0 (rr_text.l1 kq x5_1 (wrap64 ((wrap64 (Int.tdiv (wrap64 ((wrap64 (x5_1)) + 7)) 8)) * 8)) (wrap64 (s0_1 + 8)) x9_2 s0_0 s0_1 s0_2 x1003_2 = some (r1, r2, r3, r4)) ∧ Aside0 (kq ≤ k1) ∧ Aside0 (IsV76 w0 w' g s0_0 s0_1 s0_2 x1003_2) ∧ Aside0 (KeepBut w w' g none) ∧ Aside0 (Below w0.heap.size w0 w'))
                case atStart => exact ⟨(wrap64 ((wrap64 (s0_1 + 8)) + (wrap64 (x5_1)))), (s0_3), (by first | rfl | (simp; done) | (simp [*]; done) | (congr 1; rw [Bool.eq_iff_iff]; simp [bne]; done) | (rw [Bool.eq_iff_iff]; simp [bne]; done)), H', ⟨Nat.le_refl _⟩, ⟨by repeat (first | (with_reducible first | exact HI0.out | apply IsV76.alloc | apply IsV76.drewN | apply IsV76.drew | apply IsV76.set_0 | apply IsV76.set_1 | apply IsV76.set_3) | exact HI0.out)⟩, ⟨by repeat (first | (with_reducible first | exact HK.out | apply KeepBut.set_ | apply keep_drewN | apply keep_drew | apply keep_alloc) | exact HK.out)⟩, ⟨by repeat (first | (with_reducible first | exact HB.out | apply below_alloc | apply pw_below_drewN | apply below_drew1 | refine below_set ?_ (IsV76.ge HI0.out)) | exact HB.out)⟩⟩
                case round =>
                  clear H'
                  try clear c1
                  try clear p1
                  try clear q1
                  try clear hx1
                  try clear p2
                  try clear c3
                  try clear c3b0
                  try clear c3b1
                  try clear c4
                  try clear c4b0
                  try clear c6
                  try clear p6
                  try clear c7
                  try clear c7b0
                  try clear c9
                  try clear c9b0
                  try clear c10
                  try clear c10b0
                  try clear p11
                  try clear q11
                  try clear hx11
                  try clear c13
                  try clear c13b0
                  try clear c13b1
                  try clear c16
                  try clear c16b0
                  try clear c18
                  try clear c18b0
                  try clear hcz15_0
                  try clear hcz15_1
                  try clear hcz15_2
                  try clear hcz15_3
                  try clear hcz17_0
                  try clear hcz17_1
                  try clear hcz17_2
                  try clear hcz17_3
                  try clear hcz19_0
                  try clear hcz19_1
                  try clear hcz19_2
                  try clear hcz19_3
                  try clear hcz20_0
                  try clear hcz20_1
                  try clear hcz20_2
                  try clear hcz20_3
                  try clear hcz5_0
                  try clear hcz5_1
                  try clear hcz5_2
                  try clear hcz5_3
                  try clear hcz6_0
                  try clear hcz6_1
                  try clear hcz6_2
                  try clear hcz6_3
                  try clear hfz15_0
                  try clear hfz15_1
                  try clear hfz15_3
                  try clear hfz17_0
                  try clear hfz17_1
                  try clear hfz17_3
                  try clear hfz19_0
                  try clear hfz19_1
                  try clear hfz19_3
                  try clear hfz20_0
                  try clear hfz20_1
                  try clear hfz20_3
                  try clear hfz5_0
                  try clear hfz5_1
                  try clear hfz5_3
                  try clear hfz6_0
                  try clear hfz6_1
                  try clear hfz6_3
                  try clear p11
                  try clear p2
                  try clear p6
                  try clear q11
                  obtain ⟨x9_2, x1003_2, rfl, HA, HK2, HI0, HK, HB⟩ := hrel
                  cases gk with
                  | zero => exact absurd HA.out (by simp [rr_text.l1])
                  | succ k2 =>
                    have H := HA.out
                    clear HA
                    simp only [rr_text.l1] at H
                    by_cases c21 : x9_2 < (wrap64 ((wrap64 (s0_1 + 8)) + (wrap64 ((wrap64 (Int.tdiv (wrap64 ((wrap64 (x5_1)) + 7)) 8)) * 8))))
                    · rw [if_pos c21] at H
                      have c21b0 : decide (x9_2 < (wrap64 ((wrap64 (s0_1 + 8)) + (wrap64 ((wrap64 (Int.tdiv (wrap64 ((wrap64 (x5_1)) + 7)) 8)) * 8))))) = true := decide_eq_true c21
                      clear c21
                      by_cases c22 : 0 ≤ x9_2
                      · rw [if_pos c22] at H
                        have c22b0 : decide (0 ≤ x9_2) = true := decide_eq_true c22
                        clear c22
                        by_cases c23 : x9_2 < (s0_0.size : Int)
                        · rw [if_pos c23] at H
                          have c23b0 : decide (x9_2 < (s0_0.size : Int)) = true := decide_eq_true c23
                          clear c23
                          by_cases c25 : (bt s0_0 x9_2) = 0
                          · rw [if_pos c25] at H
                            have c25b0 : ((bt s0_0 x9_2) == 0) = true := beq_iff_eq.mpr c25
                            have c25b1 : ((bt s0_0 x9_2) != 0) = false := bne_eq_false_iff_eq.mpr c25
                            clear c25
                            have H' := Aside0.mk H
                            clear H
                            obtain ⟨ASz26_2, cSz26_2, HGz26, hgz26, HSz26_2⟩ := HI0.out
                            have hcz26_0 := cellV76_0 HGz26
                            have hcz26_1 := cellV76_1 HGz26
                            have hcz26_2 := cellV76_2 HGz26
                            have hcz26_3 := cellV76_3 HGz26
                            have hfz26_0 := blk_frozen HGz26 0
                            have hfz26_1 := blk_frozen HGz26 1
                            have hfz26_3 := blk_frozen HGz26 3
                            clear HGz26 hgz26
                            have p24 : 0 ≤ (x9_2 : Int) := of_decide_eq_true (by first | (with_reducible assumption) | assumption)
                            have q24 : x9_2 < (s0_0.size : Int) := of_decide_eq_true (by first | (with_reducible assumption) | assumption)
                            have hx24 := bt_at s0_0 x9_2
                            replace p24 := eq_true p24
                            replace q24 := eq_true q24
                            go_wp2
                            repeat (go_quiet (fail); try go_wp2)
                            go_roundg k2
                            case measure => have := HK1.out; have := HK2.out; omega
                            case rel => exact ⟨(wrap64 (x9_2 + 1)), (x1003_2), (by first | rfl | (simp; done) | (simp [*]; done) | (congr 1; rw [Bool.eq_iff_iff]; simp [bne]; done) | (rw [Bool.eq_iff_iff]; simp [bne]; done)), H', ⟨by have := HK1.out; have := HK2.out; omega⟩, ⟨by repeat (first | (with_reducible first | exact HI0.out | apply IsV76.alloc | apply IsV76.drewN | apply IsV76.drew | apply IsV76.set_0 | apply IsV76.set_1 | apply IsV76.set_3) | exact HI0.out)⟩, ⟨by repeat (first | (with_reducible first | exact HK.out | apply KeepBut.set_ | apply keep_drewN | apply keep_drew | apply keep_alloc) | exact HK.out)⟩, ⟨by repeat (first | (with_reducible first | exact HB.out | apply below_alloc | apply pw_below_drewN | apply below_drew1 | refine below_set ?_ (IsV76.ge HI0.out)) | exact HB.out)⟩⟩
                          · rw [if_neg c25] at H
                            have c25b0 : ((bt s0_0 x9_2) == 0) = false := beq_eq_false_iff_ne.mpr c25
                            have c25b1 : ((bt s0_0 x9_2) != 0) = true := bne_iff_ne.mpr c25
                            simp only [Option.some.injEq, Prod.mk.injEq] at H
                            obtain ⟨rfl, rfl, rfl, rfl⟩ := H
                            obtain ⟨ASz27_2, cSz27_2, HGz27, hgz27, HSz27_2⟩ := HI0.out
                            have hcz27_0 := cellV76_0 HGz27
                            have hcz27_1 := cellV76_1 HGz27
                            have hcz27_2 := cellV76_2 HGz27
                            have hcz27_3 := cellV76_3 HGz27
                            have hfz27_0 := blk_frozen HGz27 0
                            have hfz27_1 := blk_frozen HGz27 1
                            have hfz27_3 := blk_frozen HGz27 3
                            clear HGz27 hgz27
                            have p24 : 0 ≤ (x9_2 : Int) := of_decide_eq_true (by first | (with_reducible assumption) | assumption)
                            have q24 : x9_2 < (s0_0.size : Int) := of_decide_eq_true (by first | (with_reducible assumption) | assumption)
                            have hx24 := bt_at s0_0 x9_2
                            replace p24 := eq_true p24
                            replace q24 := eq_true q24
                            go_wp2
                            repeat (go_quiet (fail); try go_wp2)
                            go_ret
                            exact ⟨by first | rfl | (simp [errW_none, errW_some] <;> rfl) | (simp [*, errW_none, errW_some] <;> rfl), by repeat (first | (with_reducible first | exact HI0.out | apply IsV76.alloc | apply IsV76.drewN | apply IsV76.drew | apply IsV76.set_0 | apply IsV76.set_1 | apply IsV76.set_3) | exact HI0.out), by repeat (first | (with_reducible first | exact HB.out | apply below_alloc | apply pw_below_drewN | apply below_drew1 | refine below_set ?_ (IsV76.ge HI0.out)) | exact HB.out), by repeat (first | (with_reducible first | exact HK.out | apply KeepBut.set_ | apply keep_drewN | apply keep_drew | apply keep_alloc) | exact HK.out)⟩
                        · rw [if_neg c23] at H
                          exact absurd H (by simp)
                      · rw [if_neg c22] at H
                        exact absurd H (by simp)
                    · rw [if_neg c21] at H
                      have c21b0 : decide (x9_2 < (wrap64 ((wrap64 (s0_1 + 8)) + (wrap64 ((wrap64 (Int.tdiv (wrap64 ((wrap64 (x5_1)) + 7)) 8)) * 8))))) = false := decide_eq_false c21
                      clear c21
                      obtain ⟨ji28, hji28⟩ : ∃ j_ : Int, (wrap64 (s0_1 + 8)) = j_ := ⟨_, rfl⟩
                      replace H : (if 0 ≤ (ji28) then (if (ji28) ≤ (wrap64 ((ji28) + (wrap64 (x5_1)))) then (if (wrap64 ((ji28) + (wrap64 (x5_1)))) ≤ (s0_0.size : Int) then (some (s0_0.extract ((ji28) : Int).toNat ((wrap64 ((ji28) + (wrap64 (x5_1)))) : Int).toNat, s0_0, wrap64 ((ji28) + (wrap64 ((wrap64 (Int.tdiv (wrap64 ((wrap64 (x5_1)) + 7)) 8)) * 8))), x1003_2)) else (none)) else (none)) else (none)) = some (r1, r2, r3, r4) := by first | (rw [hji28] at H; exact H) | (simp only [hji28] at H ⊢; exact H)
                      (try rw [hji28] at c18b0)
                      (try rw [hji28] at c21b0)
                      have hji28w : (IntKind.i64.wrap (s0_1 + 8)) = ji28 := (i64_w _).trans hji28
                      by_cases c29 : 0 ≤ (ji28)
                      · rw [if_pos c29] at H
                        have c29b0 := eq_true c29
                        have c29b1 : decide (0 ≤ (ji28)) = true := decide_eq_true c29
                        clear c29
                        by_cases c30 : (ji28) ≤ (wrap64 ((ji28) + (wrap64 (x5_1))))
                        · rw [if_pos c30] at H
                          have c30b0 := eq_true c30
                          have c30b1 : decide ((ji28) ≤ (wrap64 ((ji28) + (wrap64 (x5_1))))) = true := decide_eq_true c30
                          by_cases c31 : (wrap64 ((ji28) + (wrap64 (x5_1)))) ≤ (s0_0.size : Int)
                          · rw [if_pos c31] at H
                            have c31b0 := eq_true c31
                            have c31b1 : decide ((wrap64 ((ji28) + (wrap64 (x5_1)))) ≤ (s0_0.size : Int)) = true := decide_eq_true c31
                            simp only [Option.some.injEq, Prod.mk.injEq] at H
                            obtain ⟨rfl, rfl, rfl, rfl⟩ := H
                            obtain ⟨ASz32_2, cSz32_2, HGz32, hgz32, HSz32_2⟩ := HI0.out
                            have hcz32_0 := cellV76_0 HGz32
                            have hcz32_1 := cellV76_1 HGz32
                            have hcz32_2 := cellV76_2 HGz32
                            have hcz32_3 := cellV76_3 HGz32
                            have hfz32_0 := blk_frozen HGz32 0
                            have hfz32_1 := blk_frozen HGz32 1
                            have hfz32_3 := blk_frozen HGz32 3
                            clear HGz32 hgz32
                            go_wp2
                            repeat (go_quiet (fail); try go_wp2)
                            go_ret
                            exact ⟨by first | rfl | (simp [errW_none, errW_some] <;> rfl) | (simp only [← hji28]; first | rfl | (simp [errW_none, errW_some] <;> rfl)) | (simp [*, errW_none, errW_some] <;> rfl), by repeat (first | (with_reducible first | exact HI0.out | apply IsV76.alloc | apply IsV76.drewN | apply IsV76.drew | apply IsV76.set_0 | apply IsV76.set_1 | apply IsV76.set_3) | exact HI0.out), by repeat (first | (with_reducible first | exact HB.out | apply below_alloc | apply pw_below_drewN | apply below_drew1 | refine below_set ?_ (IsV76.ge HI0.out)) | exact HB.out), by repeat (first | (with_reducible first | exact HK.out | apply KeepBut.set_ | apply keep_drewN | apply keep_drew | apply keep_alloc) | exact HK.out)⟩
                          · rw [if_neg c31] at H
                            exact absurd H (by simp)
                        · rw [if_neg c30] at H
                          exact absurd H (by simp)
                      · rw [if_neg c29] at H
                        exact absurd H (by simp)
  · rw [if_neg c3] at H
    have c3b0 : (s0_3 == 0) = false := beq_eq_false_iff_ne.mpr c3
    have c3b1 : (s0_3 != 0) = true := bne_iff_ne.mpr c3
    simp only [Option.some.injEq, Prod.mk.injEq] at H
    obtain ⟨rfl, rfl, rfl, rfl⟩ := H
    obtain ⟨ASz33_2, cSz33_2, HGz33, hgz33, HSz33_2⟩ := HI0.out
    have hcz33_0 := cellV76_0 HGz33
    have hcz33_1 := cellV76_1 HGz33
    have hcz33_2 := cellV76_2 HGz33
    have hcz33_3 := cellV76_3 HGz33
    have hfz33_0 := blk_frozen HGz33 0
    have hfz33_1 := blk_frozen HGz33 1
    have hfz33_3 := blk_frozen HGz33 3
    clear HGz33 hgz33
    go_enter Tryd.func65, Tryd.ntmps65
    go_wp2
    repeat (go_quiet (fail); try go_wp2)
    go_ret
    exact ⟨by first | rfl | (simp [errW_none, errW_some] <;> rfl) | (simp [*, errW_none, errW_some] <;> rfl), by repeat (first | (with_reducible first | exact HI0.out | apply IsV76.alloc | apply IsV76.drewN | apply IsV76.drew | apply IsV76.set_0 | apply IsV76.set_1 | apply IsV76.set_3) | exact HI0.out), by repeat (first | (with_reducible first | exact HB.out | apply below_alloc | apply pw_below_drewN | apply below_drew1 | refine below_set ?_ (IsV76.ge HI0.out)) | exact HB.out), by repeat (first | (with_reducible first | exact HK.out | apply KeepBut.set_ | apply keep_drewN | apply keep_drew | apply keep_alloc) | exact HK.out)⟩
mutual
def rr_one.l0 : Nat → List ByteArray → Int → Int → ByteArray → Int → Value → Int → Option (ByteArray × ByteArray × Int × Int)
  | 0, _, _, _, _, _, _, _ => none
  | k + 1, x1, x5, x6, x1000, x1001, x1002, x1003 => if x6 < (x1.length : Int) then (if 0 ≤ x6 then (rr_one.l0 k x1 (mx x5 ((rdOf ByteArray.empty x1 x6).size : Int)) (wrap64 (x6 + 1)) x1000 x1001 x1002 x1003) else (none)) else ((rr_text.f k x1000 x1001 x1002 x1003 x5).bind fun bt215 => (rr_one.l1 k x1 bt215.1 0 bt215.2.1 bt215.2.2.1 x1002 bt215.2.2.2))
def rr_one.l1 : Nat → List ByteArray → ByteArray → Int → ByteArray → Int → Value → Int → Option (ByteArray × ByteArray × Int × Int)
  | 0, _, _, _, _, _, _, _ => none
  | k + 1, x1, x7, x8, x1000, x1001, x1002, x1003 => if x8 < (x1.length : Int) then (rr_one.j2 k x1 x7 x8 (x1003 == 0) x1000 x1001 x1002 x1003) else (rr_one.j2 k x1 x7 x8 false x1000 x1001 x1002 x1003)
def rr_one.j2 : Nat → List ByteArray → ByteArray → Int → Bool → ByteArray → Int → Value → Int → Option (ByteArray × ByteArray × Int × Int)
  | 0, _, _, _, _, _, _, _, _ => none
  | k + 1, x1, x7, x8, x35, x1000, x1001, x1002, x1003 => if x35 = true then (if 0 ≤ x8 then (if x8 < (x1.length : Int) then (if (rdOf ByteArray.empty x1 x8).toList = x7.toList then (some (x7, x1000, x1001, x1003)) else (rr_one.l1 k x1 x7 (wrap64 (x8 + 1)) x1000 x1001 x1002 x1003)) else (none)) else (none)) else ((rr_wrong.f x1000 x1001 x1002 x1003 true).bind fun bt220 => (some ((⟨#[]⟩ : ByteArray), bt220.1, bt220.2.1, bt220.2.2)))
end
def rr_one.f (k : Nat) (s0_0 : ByteArray) (s0_1 : Int) (s0_2 : Value) (s0_3 : Int) (l1 : List ByteArray) : Option (ByteArray × ByteArray × Int × Int) := rr_one.l0 k l1 0 0 s0_0 s0_1 s0_2 s0_3
set_option maxHeartbeats 8000000 in
set_option maxRecDepth 100000 in
theorem rr_one.calls (k : Nat) (g : Nat) (s0_0 : ByteArray) (s0_1 : Int) (s0_2 : Value) (s0_3 : Int) (A1 : Option Addr) (c1 : Nat) (l1 : List ByteArray) (r1 : ByteArray) (r2 : ByteArray) (r3 : Int) (r4 : Int) (w0 w : World) (hI : IsV76 w0 w g s0_0 s0_1 s0_2 s0_3) (hB : Below w0.heap.size w0 w) (hr1 : Kd.C Kd.string w A1 l1.length l1) (hc1 : l1.length ≤ c1) (hf1 : ∀ ad, A1 = some ad → 0 < l1.length → ad.block ≠ g) (h : rr_one.f k s0_0 s0_1 s0_2 s0_3 l1 = some (r1, r2, r3, r4)) :
    Calls Tryd.prog 43 #[.pointer (some ⟨g, 0, none⟩), .slice A1 l1.length c1] w fun e w' => e = .returned (.string r1) ∧ IsV76 w0 w' g r2 r3 s0_2 r4 ∧ Below w0.heap.size w0 w' ∧ KeepBut w w' g none := by
  have HR1 := Aside0.mk hr1
  have HC1 := Aside0.mk hc1
  clear hr1 hc1
  have HI0 := Aside0.mk hI
  have HK := Aside0.mk (KeepBut.refl w g none)
  have HL := Aside0.mk hB.size
  clear hI
  have HW0 := Aside0.mk hB.size
  have HB := Aside0.mk hB
  clear hB
  have H : (rr_one.l0 k l1 0 0 s0_0 s0_1 s0_2 s0_3) = some (r1, r2, r3, r4) := h
  clear h
  have H' := Aside0.mk H
  clear H
  go_enter Tryd.func43, Tryd.ntmps43
  go_wp2
  go_loopg [5, 6] k (fun kq v5 v6 w' => ∃ (x5_1 : Int) (x6_1 : Int), v5 = .int .i64 x5_1 ∧ v6 = .int .i64 x6_1 ∧ Aside0 (rr_one.l0 kq l1 x5_1 x6_1 s0_0 s0_1 s0_2 s0_3 = some (r1, r2, r3, r4)) ∧ Aside0 (kq ≤ k) ∧ Aside0 (IsV76 w0 w' g s0_0 s0_1 s0_2 s0_3) ∧ Aside0 (KeepBut w w' g none) ∧ Aside0 (Below w0.heap.size w0 w'))
  case atStart => exact ⟨(0), (0), (by first | rfl | (simp; done) | (simp [*]; done) | (congr 1; rw [Bool.eq_iff_iff]; simp [bne]; done) | (rw [Bool.eq_iff_iff]; simp [bne]; done)), (by first | rfl | (simp; done) | (simp [*]; done) | (congr 1; rw [Bool.eq_iff_iff]; simp [bne]; done) | (rw [Bool.eq_iff_iff]; simp [bne]; done)), H', ⟨Nat.le_refl _⟩, ⟨by repeat (first | (with_reducible first | exact HI0.out | apply IsV76.alloc | apply IsV76.drewN | apply IsV76.drew | apply IsV76.set_0 | apply IsV76.set_1 | apply IsV76.set_3) | exact HI0.out)⟩, ⟨by repeat (first | (with_reducible first | exact HK.out | apply KeepBut.set_ | apply keep_drewN | apply keep_drew | apply keep_alloc) | exact HK.out)⟩, ⟨by repeat (first | (with_reducible first | exact HB.out | apply below_alloc | apply pw_below_drewN | apply below_drew1 | refine below_set ?_ (IsV76.ge HI0.out)) | exact HB.out)⟩⟩
  case round =>
    clear H'
    try clear c1
    try clear p2
    obtain ⟨x5_1, x6_1, rfl, rfl, HA, HK1, HI0, HK, HB⟩ := hrel
    cases gk with
    | zero => exact absurd HA.out (by simp [rr_one.l0])
    | succ k1 =>
      have H := HA.out
      clear HA
      simp only [rr_one.l0] at H
      by_cases c3 : x6_1 < (l1.length : Int)
      · rw [if_pos c3] at H
        have c3b0 : decide (x6_1 < (l1.length : Int)) = true := decide_eq_true c3
        clear c3
        by_cases c4 : 0 ≤ x6_1
        · rw [if_pos c4] at H
          have c4b0 : decide (0 ≤ x6_1) = true := decide_eq_true c4
          clear c4
          obtain ⟨ji5, hji5⟩ : ∃ j_ : Int, (mx x5_1 ((rdOf ByteArray.empty l1 x6_1).size : Int)) = j_ := ⟨_, rfl⟩
          replace H : (rr_one.l0 k1 l1 ji5 (wrap64 (x6_1 + 1)) s0_0 s0_1 s0_2 s0_3) = some (r1, r2, r3, r4) := by first | (rw [hji5] at H; exact H) | (simp only [hji5] at H ⊢; exact H)
          have hji5_ : (if x5_1 < ((rdOf ByteArray.empty l1 x6_1).size : Int) then ((rdOf ByteArray.empty l1 x6_1).size : Int) else x5_1) = ji5 := hji5
          have H' := Aside0.mk H
          clear H
          have p214 : 0 ≤ (x6_1 : Int) := of_decide_eq_true (by first | (with_reducible assumption) | assumption)
          have q214 : x6_1 < (l1.length : Int) := of_decide_eq_true (by first | (with_reducible assumption) | assumption)
          obtain ⟨ad214, e214, hx214_0⟩ := Kd.at_string HR1.out x6_1 p214 q214
          cases e214
          replace hx214_0 := keep_cell HK.out hx214_0 (by first | (rw [add_block]; exact hf1 _ rfl (by omega)) | exact hf1 _ rfl (by omega) | exact hf1 ad214 rfl (by omega))
          replace p214 := eq_true p214
          replace q214 := eq_true q214
          go_wp2
          go_roundg k1
          case measure => have := HK1.out; omega
          case rel => exact ⟨(ji5), (wrap64 (x6_1 + 1)), (by first | rfl | (simp; done) | (simp only [← hji5] <;> (first | rfl | simp)) | (simp [*]; done)), (by first | rfl | (simp; done) | (simp [*]; done) | (congr 1; rw [Bool.eq_iff_iff]; simp [bne]; done) | (rw [Bool.eq_iff_iff]; simp [bne]; done)), H', ⟨by have := HK1.out; omega⟩, ⟨by repeat (first | (with_reducible first | exact HI0.out | apply IsV76.alloc | apply IsV76.drewN | apply IsV76.drew | apply IsV76.set_0 | apply IsV76.set_1 | apply IsV76.set_3) | exact HI0.out)⟩, ⟨by repeat (first | (with_reducible first | exact HK.out | apply KeepBut.set_ | apply keep_drewN | apply keep_drew | apply keep_alloc) | exact HK.out)⟩, ⟨by repeat (first | (with_reducible first | exact HB.out | apply below_alloc | apply pw_below_drewN | apply below_drew1 | refine below_set ?_ (IsV76.ge HI0.out)) | exact HB.out)⟩⟩
        · rw [if_neg c4] at H
          exact absurd H (by simp)
      · rw [if_neg c3] at H
        have c3b0 : decide (x6_1 < (l1.length : Int)) = false := decide_eq_false c3
        clear c3
        replace H := Option.bind_eq_some_iff.mp H
        obtain ⟨⟨t215, t216, t217, t218⟩, A60, H⟩ := H
        replace H : (rr_one.l1 k1 l1 t215 0 t216 t217 s0_2 t218) = some (r1, r2, r3, r4) := H
        have A6 := Aside0.mk A60
        clear A60
        have H' := Aside0.mk H
        clear H
        go_wp2_with (first | ((with_reducible refine gate_callee (f := 65) rfl ?_); refine goesL_ (some 24) rfl rfl Tryd.func65 (by kernel_rfl) rfl #[.pointer (some ⟨g, 0, none⟩), .int .i64 x5_1] rfl (by (try simp only [List.map_toArray, List.map_cons, List.map_nil]); first | done | rfl | (simp only [List.length_drop, List.length_take]; rfl)) ?_; (with_reducible refine (rr_text.calls k1 g s0_0 s0_1 s0_2 s0_3 x5_1 t215 t216 t217 t218 w0 _ ?side1 ?side2 A6.out).mono ?_); (case side1 => repeat (first | (with_reducible first | exact HI0.out | apply IsV76.alloc | apply IsV76.drewN | apply IsV76.drew | apply IsV76.set_0 | apply IsV76.set_1 | apply IsV76.set_3) | exact HI0.out)); (case side2 => repeat (first | (with_reducible first | exact HB.out | apply below_alloc | apply pw_below_drewN | apply below_drew1 | refine below_set ?_ (IsV76.ge HI0.out)) | exact HB.out)); rintro e w7 ⟨rfl, hi, hb, hk⟩; refine ⟨_, rfl, ?_⟩; have n0_ := Aside0.mk (KeepBut.trans (by repeat (first | (with_reducible first | exact HK.out | apply KeepBut.set_ | apply keep_drewN | apply keep_drew | apply keep_alloc) | exact HK.out)) hk (.inl rfl)); have n1_ := Aside0.mk (hb); have n2_ := Aside0.mk (hi); clear HK; clear HB; clear HI0; have HK := n0_; have HB := n1_; have HI0 := n2_; clear n0_ n1_ n2_; (try clear hb); (try clear hb2); (try clear hk); (try clear hi)))
        go_loopg [8] k1 (fun kq v8 w' => ∃ (x8_2 : Int), v8 = .int .i64 x8_2 ∧ Aside0 (rr_one.l1 kq l1 t215 x8_2 t216 t217 s0_2 t218 = some (r1, r2, r3, r4)) ∧ Aside0 (kq ≤ k1) ∧ Aside0 (IsV76 w0 w' g t216 t217 s0_2 t218) ∧ Aside0 (KeepBut w w' g none) ∧ Aside0 (Below w0.heap.size w0 w'))
        case atStart => exact ⟨(0), (by first | rfl | (simp; done) | (simp [*]; done) | (congr 1; rw [Bool.eq_iff_iff]; simp [bne]; done) | (rw [Bool.eq_iff_iff]; simp [bne]; done)), H', ⟨Nat.le_refl _⟩, ⟨by repeat (first | (with_reducible first | exact HI0.out | apply IsV76.alloc | apply IsV76.drewN | apply IsV76.drew | apply IsV76.set_0 | apply IsV76.set_1 | apply IsV76.set_3) | exact HI0.out)⟩, ⟨by repeat (first | (with_reducible first | exact HK.out | apply KeepBut.set_ | apply keep_drewN | apply keep_drew | apply keep_alloc) | exact HK.out)⟩, ⟨by repeat (first | (with_reducible first | exact HB.out | apply below_alloc | apply pw_below_drewN | apply below_drew1 | refine below_set ?_ (IsV76.ge HI0.out)) | exact HB.out)⟩⟩
        case round =>
          clear H'
          try clear c1
          try clear p2
          try clear q2
          try clear hx2
          try clear c3
          try clear c3b0
          try clear c4
          try clear c4b0
          try clear c6
          try clear p6
          try clear hx214_0
          try clear p2
          try clear p214
          try clear q214
          obtain ⟨x8_2, rfl, HA, HK2, HI0, HK, HB⟩ := hrel
          cases gk with
          | zero => exact absurd HA.out (by simp [rr_one.l1])
          | succ k2 =>
            have H := HA.out
            clear HA
            simp only [rr_one.l1] at H
            have HC8 := Aside0.mk H
            clear H
            go_upto_region 8 with (fail)
            go_cut [35] (fun v35 wc => ∃ (kq : Nat) (x35_7 : Bool), v35 = .bool x35_7 ∧ Aside0 (rr_one.j2 kq l1 t215 x8_2 x35_7 t216 t217 s0_2 t218 = some (r1, r2, r3, r4)) ∧ Aside0 (kq ≤ k2) ∧ Aside0 (IsV76 w0 wc g t216 t217 s0_2 t218) ∧ Aside0 (KeepBut w wc g none) ∧ Aside0 (Below w0.heap.size w0 wc))
            case first =>
              have H := HC8.out
              clear HC8
              by_cases c9 : x8_2 < (l1.length : Int)
              · rw [if_pos c9] at H
                have c9b0 : decide (x8_2 < (l1.length : Int)) = true := decide_eq_true c9
                clear c9
                (first | rw [c9b0] | (simp only [i64_w, i32_w]; rw [c9b0]) | skip)
                have H' := Aside0.mk H
                clear H
                obtain ⟨ASz10_2, cSz10_2, HGz10, hgz10, HSz10_2⟩ := HI0.out
                have hcz10_0 := cellV76_0 HGz10
                have hcz10_1 := cellV76_1 HGz10
                have hcz10_2 := cellV76_2 HGz10
                have hcz10_3 := cellV76_3 HGz10
                have hfz10_0 := blk_frozen HGz10 0
                have hfz10_1 := blk_frozen HGz10 1
                have hfz10_3 := blk_frozen HGz10 3
                clear HGz10 hgz10
                go_wp2
                go_meet
                case rel => exact ⟨_, ((t218 == 0)), (by first | rfl | (simp; done) | (simp [*]; done) | (congr 1; rw [Bool.eq_iff_iff]; simp [bne]; done) | (rw [Bool.eq_iff_iff]; simp [bne]; done)), H', ⟨by have := HK1.out; have := HK2.out; first | omega | exact Nat.le_refl _⟩, ⟨by repeat (first | (with_reducible first | exact HI0.out | apply IsV76.alloc | apply IsV76.drewN | apply IsV76.drew | apply IsV76.set_0 | apply IsV76.set_1 | apply IsV76.set_3) | exact HI0.out)⟩, ⟨by repeat (first | (with_reducible first | exact HK.out | apply KeepBut.set_ | apply keep_drewN | apply keep_drew | apply keep_alloc) | exact HK.out)⟩, ⟨by repeat (first | (with_reducible first | exact HB.out | apply below_alloc | apply pw_below_drewN | apply below_drew1 | refine below_set ?_ (IsV76.ge HI0.out)) | exact HB.out)⟩⟩
              · rw [if_neg c9] at H
                have c9b0 : decide (x8_2 < (l1.length : Int)) = false := decide_eq_false c9
                clear c9
                (first | rw [c9b0] | (simp only [i64_w, i32_w]; rw [c9b0]) | skip)
                have H' := Aside0.mk H
                clear H
                go_wp2
                go_meet
                case rel => exact ⟨_, (false), (by first | rfl | (simp; done) | (simp [*]; done) | (congr 1; rw [Bool.eq_iff_iff]; simp [bne]; done) | (rw [Bool.eq_iff_iff]; simp [bne]; done)), H', ⟨by have := HK1.out; have := HK2.out; first | omega | exact Nat.le_refl _⟩, ⟨by repeat (first | (with_reducible first | exact HI0.out | apply IsV76.alloc | apply IsV76.drewN | apply IsV76.drew | apply IsV76.set_0 | apply IsV76.set_1 | apply IsV76.set_3) | exact HI0.out)⟩, ⟨by repeat (first | (with_reducible first | exact HK.out | apply KeepBut.set_ | apply keep_drewN | apply keep_drew | apply keep_alloc) | exact HK.out)⟩, ⟨by repeat (first | (with_reducible first | exact HB.out | apply below_alloc | apply pw_below_drewN | apply below_drew1 | refine below_set ?_ (IsV76.ge HI0.out)) | exact HB.out)⟩⟩
            case rest =>
              clear HC8
              try clear c1
              try clear p2
              try clear q2
              try clear hx2
              try clear c3
              try clear c3b0
              try clear c4
              try clear c4b0
              try clear c6
              try clear p6
              try clear c9
              try clear c9b0
              try clear hcz10_0
              try clear hcz10_1
              try clear hcz10_2
              try clear hcz10_3
              try clear hfz10_0
              try clear hfz10_1
              try clear hfz10_3
              try clear hx214_0
              try clear p2
              try clear p214
              try clear p6
              try clear q2
              try clear q214
              obtain ⟨kq, x35_7, rfl, HA, HJ7, HI0, HK, HB⟩ := hcut
              cases kq with
              | zero => exact absurd HA.out (by simp [rr_one.j2])
              | succ kj7 =>
                have H := HA.out
                clear HA
                simp only [rr_one.j2] at H
                by_cases c11 : x35_7 = true
                · subst c11
                  have H1 : (if 0 ≤ x8_2 then (if x8_2 < (l1.length : Int) then (if (rdOf ByteArray.empty l1 x8_2).toList = t215.toList then (some (t215, t216, t217, t218)) else (rr_one.l1 kj7 l1 t215 (wrap64 (x8_2 + 1)) t216 t217 s0_2 t218)) else (none)) else (none)) = some (r1, r2, r3, r4) := by rw [if_pos rfl] at H; exact H
                  clear H
                  have H := H1
                  clear H1
                  by_cases c12 : 0 ≤ x8_2
                  · rw [if_pos c12] at H
                    have c12b0 : decide (0 ≤ x8_2) = true := decide_eq_true c12
                    clear c12
                    by_cases c13 : x8_2 < (l1.length : Int)
                    · rw [if_pos c13] at H
                      have c13b0 : decide (x8_2 < (l1.length : Int)) = true := decide_eq_true c13
                      clear c13
                      by_cases c14 : (rdOf ByteArray.empty l1 x8_2).toList = t215.toList
                      · rw [if_pos c14] at H
                        have c14b0 : ((rdOf ByteArray.empty l1 x8_2).toList == t215.toList) = true := beq_iff_eq.mpr c14
                        have c14b1 : ((rdOf ByteArray.empty l1 x8_2).toList != t215.toList) = false := bne_eq_false_iff_eq.mpr c14
                        clear c14
                        simp only [Option.some.injEq, Prod.mk.injEq] at H
                        obtain ⟨rfl, rfl, rfl, rfl⟩ := H
                        have p219 : 0 ≤ (x8_2 : Int) := of_decide_eq_true (by first | (with_reducible assumption) | assumption)
                        have q219 : x8_2 < (l1.length : Int) := of_decide_eq_true (by first | (with_reducible assumption) | assumption)
                        obtain ⟨ad219, e219, hx219_0⟩ := Kd.at_string HR1.out x8_2 p219 q219
                        cases e219
                        replace hx219_0 := keep_cell HK.out hx219_0 (by first | (rw [add_block]; exact hf1 _ rfl (by omega)) | exact hf1 _ rfl (by omega) | exact hf1 ad219 rfl (by omega))
                        replace p219 := eq_true p219
                        replace q219 := eq_true q219
                        go_wp2
                        go_ret
                        exact ⟨by first | rfl | (simp [errW_none, errW_some] <;> rfl) | (simp [*, errW_none, errW_some] <;> rfl), by repeat (first | (with_reducible first | exact HI0.out | apply IsV76.alloc | apply IsV76.drewN | apply IsV76.drew | apply IsV76.set_0 | apply IsV76.set_1 | apply IsV76.set_3) | exact HI0.out), by repeat (first | (with_reducible first | exact HB.out | apply below_alloc | apply pw_below_drewN | apply below_drew1 | refine below_set ?_ (IsV76.ge HI0.out)) | exact HB.out), by repeat (first | (with_reducible first | exact HK.out | apply KeepBut.set_ | apply keep_drewN | apply keep_drew | apply keep_alloc) | exact HK.out)⟩
                      · rw [if_neg c14] at H
                        have c14b0 : ((rdOf ByteArray.empty l1 x8_2).toList == t215.toList) = false := beq_eq_false_iff_ne.mpr c14
                        have c14b1 : ((rdOf ByteArray.empty l1 x8_2).toList != t215.toList) = true := bne_iff_ne.mpr c14
                        have H' := Aside0.mk H
                        clear H
                        have p219 : 0 ≤ (x8_2 : Int) := of_decide_eq_true (by first | (with_reducible assumption) | assumption)
                        have q219 : x8_2 < (l1.length : Int) := of_decide_eq_true (by first | (with_reducible assumption) | assumption)
                        obtain ⟨ad219, e219, hx219_0⟩ := Kd.at_string HR1.out x8_2 p219 q219
                        cases e219
                        replace hx219_0 := keep_cell HK.out hx219_0 (by first | (rw [add_block]; exact hf1 _ rfl (by omega)) | exact hf1 _ rfl (by omega) | exact hf1 ad219 rfl (by omega))
                        replace p219 := eq_true p219
                        replace q219 := eq_true q219
                        go_wp2
                        go_roundg kj7
                        case measure => have := HK1.out; have := HK2.out; have := HJ7.out; omega
                        case rel => exact ⟨(wrap64 (x8_2 + 1)), (by first | rfl | (simp; done) | (simp [*]; done) | (congr 1; rw [Bool.eq_iff_iff]; simp [bne]; done) | (rw [Bool.eq_iff_iff]; simp [bne]; done)), H', ⟨by have := HK1.out; have := HK2.out; have := HJ7.out; omega⟩, ⟨by repeat (first | (with_reducible first | exact HI0.out | apply IsV76.alloc | apply IsV76.drewN | apply IsV76.drew | apply IsV76.set_0 | apply IsV76.set_1 | apply IsV76.set_3) | exact HI0.out)⟩, ⟨by repeat (first | (with_reducible first | exact HK.out | apply KeepBut.set_ | apply keep_drewN | apply keep_drew | apply keep_alloc) | exact HK.out)⟩, ⟨by repeat (first | (with_reducible first | exact HB.out | apply below_alloc | apply pw_below_drewN | apply below_drew1 | refine below_set ?_ (IsV76.ge HI0.out)) | exact HB.out)⟩⟩
                    · rw [if_neg c13] at H
                      exact absurd H (by simp)
                  · rw [if_neg c12] at H
                    exact absurd H (by simp)
                · replace c11 := Bool.eq_false_iff.mpr c11
                  subst c11
                  have H1 : ((rr_wrong.f t216 t217 s0_2 t218 true).bind fun bt220 => (some ((⟨#[]⟩ : ByteArray), bt220.1, bt220.2.1, bt220.2.2))) = some (r1, r2, r3, r4) := by rw [if_neg (show ¬ (false = true) by decide)] at H; exact H
                  clear H
                  have H := H1
                  clear H1
                  replace H := Option.bind_eq_some_iff.mp H
                  obtain ⟨⟨t220, t221, t222⟩, A150, H⟩ := H
                  replace H : (some ((⟨#[]⟩ : ByteArray), t220, t221, t222)) = some (r1, r2, r3, r4) := H
                  have A15 := Aside0.mk A150
                  clear A150
                  simp only [Option.some.injEq, Prod.mk.injEq] at H
                  obtain ⟨rfl, rfl, rfl, rfl⟩ := H
                  go_wp2_with (first | ((with_reducible refine gate_callee (f := 45) rfl ?_); refine goesL_ (some 46) rfl rfl Tryd.func45 (by kernel_rfl) rfl #[.pointer (some ⟨g, 0, none⟩), .bool true] rfl (by (try simp only [List.map_toArray, List.map_cons, List.map_nil]); first | done | rfl | (simp only [List.length_drop, List.length_take]; rfl)) ?_; (with_reducible refine (rr_wrong.calls g t216 t217 s0_2 t218 true t220 t221 t222 w0 _ ?side1 ?side2 A15.out).mono ?_); (case side1 => repeat (first | (with_reducible first | exact HI0.out | apply IsV76.alloc | apply IsV76.drewN | apply IsV76.drew | apply IsV76.set_0 | apply IsV76.set_1 | apply IsV76.set_3) | exact HI0.out)); (case side2 => repeat (first | (with_reducible first | exact HB.out | apply below_alloc | apply pw_below_drewN | apply below_drew1 | refine below_set ?_ (IsV76.ge HI0.out)) | exact HB.out)); rintro e w16 ⟨rfl, hi, hb, hk⟩; refine ⟨_, rfl, ?_⟩; have n0_ := Aside0.mk (KeepBut.trans (by repeat (first | (with_reducible first | exact HK.out | apply KeepBut.set_ | apply keep_drewN | apply keep_drew | apply keep_alloc) | exact HK.out)) hk (.inl rfl)); have n1_ := Aside0.mk (hb); have n2_ := Aside0.mk (hi); clear HK; clear HB; clear HI0; have HK := n0_; have HB := n1_; have HI0 := n2_; clear n0_ n1_ n2_; (try clear hb); (try clear hb2); (try clear hk); (try clear hi)))
                  go_ret
                  exact ⟨by first | rfl | (simp [errW_none, errW_some] <;> rfl) | (simp [*, errW_none, errW_some] <;> rfl), by repeat (first | (with_reducible first | exact HI0.out | apply IsV76.alloc | apply IsV76.drewN | apply IsV76.drew | apply IsV76.set_0 | apply IsV76.set_1 | apply IsV76.set_3) | exact HI0.out), by repeat (first | (with_reducible first | exact HB.out | apply below_alloc | apply pw_below_drewN | apply below_drew1 | refine below_set ?_ (IsV76.ge HI0.out)) | exact HB.out), by repeat (first | (with_reducible first | exact HK.out | apply KeepBut.set_ | apply keep_drewN | apply keep_drew | apply keep_alloc) | exact HK.out)⟩
end Go.Proofs.YtncokgdfkbgflaaDoor.R

namespace Go.Proofs.YtncokgdfkbgflaaDoor
open Go.RowKit Go.Shelf Go.Lib Go.Proofs.YtncokgdfkbgflaaDoorW.PrintWords Go.Proofs.YtncokgdfkbgflaaDoorW.PrintMore R
set_option linter.unusedVariables false
set_option linter.unusedSimpArgs false
theorem wrapN (n : Nat) (h : n < 4611686018427387904) : wrap64 (n : Int) = (n : Int) := by unfold wrap64; omega
theorem wrapA (a b : Nat) (h : a + b < 4611686018427387904) : wrap64 ((a : Int) + (b : Int)) = ((a + b : Nat) : Int) := by unfold wrap64; omega
theorem wrapA1 (a : Nat) (h : a < 4611686018427387900) : wrap64 ((a : Int) + 1) = ((a + 1 : Nat) : Int) := by unfold wrap64; omega
theorem wrapA7 (a : Nat) (h : a < 4611686018427387890) : wrap64 ((a : Int) + 7) = ((a + 7 : Nat) : Int) := by unfold wrap64; omega
theorem wrapA8 (a : Nat) (h : a < 4611686018427387890) : wrap64 ((a : Int) + 8) = ((a + 8 : Nat) : Int) := by unfold wrap64; omega
theorem wrapM8 (a : Nat) (h : a < 461168601842738) : wrap64 (8 * (a : Int)) = ((8 * a : Nat) : Int) := by unfold wrap64; omega
theorem wrapM8' (a : Nat) (h : a < 461168601842738) : wrap64 ((a : Int) * 8) = ((a * 8 : Nat) : Int) := by unfold wrap64; omega
theorem wrapS (a b : Nat) (h : b ≤ a) (ha : a < 4611686018427387904) : wrap64 ((a : Int) - (b : Int)) = ((a - b : Nat) : Int) := by unfold wrap64; omega
theorem wrapS' (a b : Nat) (ha : a < 461168601842738) (hb : b < 461168601842738) : wrap64 ((a : Int) - (b : Int)) = (a : Int) - (b : Int) := by unfold wrap64; omega
theorem tdiv8 (a : Nat) (h : a < 461168601842738) : wrap64 (Int.tdiv (a : Int) 8) = ((a / 8 : Nat) : Int) := by
  rw [show (8 : Int) = ((8 : Nat) : Int) from rfl, Int.ofNat_tdiv]
  exact wrapN _ (by omega)
theorem btN (s : ByteArray) (i : Nat) (h : i < s.size) : bt s (i : Int) = ((s.data.toList[i]'(by rw [← Lib.size_eq]; exact h)).toNat : Int) := by
  have hi : (i : Int).toNat = i := Int.toNat_natCast i
  unfold bt
  rw [dif_pos (show (i : Int).toNat < s.size by rw [hi]; exact h)]
  congr 2
theorem rest_get (s : ByteArray) (at_ i : Nat) (h : at_ + i < s.size) : (restB s at_)[i]? = some (s.data.toList[at_ + i]'(by rw [← Lib.size_eq]; exact h)) := by
  rw [restB, List.getElem?_drop, List.getElem?_eq_getElem]
theorem num_step (i n : Nat) (hi : i < 8) (hn : n < 256 ^ i) (b : UInt8) : Go.bits .or .u64 (n : Int) (shl .u64 (IntKind.u64.wrap (b.toNat : Int)) ((8 * i : Nat) : Int)) = ((n + b.toNat * 256 ^ i : Nat) : Int) := by
  rw [← or_step i n hi hn b]
  unfold shl
  rw [Int.toNat_natCast, Nat.min_eq_left (show 8 * i ≤ IntKind.u64.bits from by show 8 * i ≤ 64; omega)]
theorem num_rounds (s : ByteArray) (at_ most : Nat) (v : Value) (E : Int) (h8 : at_ + 8 ≤ s.size) (hs : s.size < 1000000000) : ∀ (m i k : Nat), i + m = 8 →
    rr_text.l0 (k + m) most (leN ((restB s at_).take i) : Nat) (i : Int) s at_ v E = rr_text.l0 k most (leN ((restB s at_).take 8) : Nat) ((8 : Nat) : Int) s at_ v E
  | 0, i, k, h => by
    obtain rfl : i = 8 := by omega
    rfl
  | m + 1, i, k, h => by
    have hi : i < 8 := by omega
    have e1 := wrapA at_ i (by omega)
    have e2 := wrapM8 i (by omega)
    have e3 := wrapA1 i (by omega)
    have hlt : at_ + i < s.size := by omega
    have e4 := btN s (at_ + i) hlt
    have hb := rest_get s at_ i hlt
    have hn := leN_take_lt (restB s at_) i
    have hst := num_step i (leN ((restB s at_).take i)) hi hn (s.data.toList[at_ + i]'(by rw [← Lib.size_eq]; exact hlt))
    rw [← leN_take _ i _ hb] at hst
    have ih := num_rounds s at_ most v E h8 hs m (i + 1) k (by omega)
    rw [show k + (m + 1) = (k + m) + 1 by omega, rr_text.l0]
    rw [e1, e2, e3, e4, hst, ih]
    have t1 : (i : Int) < 8 := by omega
    have t2 : (0 : Int) ≤ ((at_ + i : Nat) : Int) := Int.natCast_nonneg _
    have t3 : ((at_ + i : Nat) : Int) < (s.size : Int) := by omega
    have t4 : (0 : Int) ≤ ((8 * i : Nat) : Int) := Int.natCast_nonneg _
    rw [if_pos t1, if_pos t2, if_pos t3, if_pos t4]
theorem pad_rounds (s : ByteArray) (n S f : Nat) (at_ : Nat) (v : Value) (hn : n ≤ S) (hf : f + S ≤ s.size) (hs : s.size < 1000000000) : ∀ (m i k : Nat), i + m = S → n ≤ i →
    rr_text.l1 (k + m + 1) n S f ((f + i : Nat) : Int) s at_ v 0 =
      (if ((s.data.toList.drop (f + i)).take (S - i)).all (· == 0) then some (s.extract f (f + n), s, ((f + S : Nat) : Int), 0) else some (⟨#[]⟩, s, (at_ : Int), 4))
  | 0, i, k, h, hni => by
    obtain rfl : i = S := by omega
    have e1 := wrapA f i (by omega)
    have e2 := wrapN n (by omega)
    have e3 := wrapA f n (by omega)
    rw [show k + 0 + 1 = k + 1 by omega, rr_text.l1, e1, e2, e3]
    have t1 : ¬ ((f + i : Nat) : Int) < ((f + i : Nat) : Int) := by omega
    have t2 : (0 : Int) ≤ (f : Int) := Int.natCast_nonneg _
    have t3 : (f : Int) ≤ ((f + n : Nat) : Int) := by omega
    have t4 : ((f + n : Nat) : Int) ≤ (s.size : Int) := by omega
    rw [if_neg t1, if_pos t2, if_pos t3, if_pos t4, Nat.sub_self, List.take_zero, List.all_nil, if_pos rfl, Int.toNat_natCast, Int.toNat_natCast]
  | m + 1, i, k, h, hni => by
    have e1 := wrapA f S (by omega)
    have e3 := wrapA1 (f + i) (by omega)
    have hlt : f + i < s.size := by omega
    have e4 := btN s (f + i) hlt
    have ih := pad_rounds s n S f at_ v hn hf hs m (i + 1) k (by omega) (by omega)
    rw [show k + (m + 1) + 1 = (k + m + 1) + 1 by omega, rr_text.l1, e1, e3, e4]
    have t1 : ((f + i : Nat) : Int) < ((f + S : Nat) : Int) := by omega
    have t2 : (0 : Int) ≤ ((f + i : Nat) : Int) := Int.natCast_nonneg _
    have t3 : ((f + i : Nat) : Int) < (s.size : Int) := by omega
    rw [if_pos t1, if_pos t2, if_pos t3, show f + i + 1 = f + (i + 1) by omega, ih]
    have hl : f + i < s.data.toList.length := by rw [← Lib.size_eq]; exact hlt
    rw [List.drop_eq_getElem_cons hl, show S - i = (S - (i + 1)) + 1 by omega, List.take_succ_cons, List.all_cons]
    by_cases hz : s.data.toList[f + i] = 0
    · rw [hz]
      rfl
    · have hz2 : ¬ ((s.data.toList[f + i]).toNat : Int) = 0 := fun e => hz (UInt8.toNat_inj.1 (by rw [UInt8.toNat_zero]; omega))
      have hz3 : (s.data.toList[f + i] == 0) = false := beq_eq_false_iff_ne.2 hz
      rw [if_neg hz2, hz3, Bool.false_and, if_neg (by decide)]
theorem text_plain (s : ByteArray) (at_ most : Nat) (v : Value) (hat : at_ ≤ s.size) (hs : s.size < 1000000000) (hm : most ≤ 65536) (k : Nat) (hk : 70000 ≤ k) :
    (∃ c, textP most (restB s at_) = .error c ∧ c ≠ 0 ∧ rr_text.f k s at_ v 0 most = some (⟨#[]⟩, s, (at_ : Int), c)) ∨
    (∃ t at', textP most (restB s at_) = .ok (t, restB s at') ∧ at' ≤ s.size ∧ rr_text.f k s at_ v 0 most = some (bsB t, s, (at' : Int), 0)) := by
  have hl := restB_length s at_
  unfold textP rr_text.f
  rw [hl, if_pos rfl, wrapS _ _ hat (by omega)]
  by_cases h8 : s.size - at_ < 8
  · rw [if_pos h8, if_pos (show ((s.size - at_ : Nat) : Int) < 8 by omega)]
    exact .inl ⟨5, rfl, by decide, rfl⟩
  rw [if_neg h8, if_neg (show ¬ ((s.size - at_ : Nat) : Int) < 8 by omega)]
  obtain ⟨k, rfl⟩ : ∃ k', k = (k' + 1) + 8 := ⟨k - 9, by omega⟩
  have hr := num_rounds s at_ most v 0 (by omega) hs 8 0 (k + 1) rfl
  rw [List.take_zero, show ((leN [] : Nat) : Int) = 0 from rfl, show ((0 : Nat) : Int) = 0 from rfl] at hr
  rw [hr]
  obtain ⟨N, hN⟩ : ∃ N, leN ((restB s at_).take 8) = N := ⟨_, rfl⟩
  rw [hN, rr_text.l0]
  have t8 : ¬ (((8 : Nat) : Int) < 8) := by decide
  have hm0 : (0 : Int) ≤ (most : Int) := by omega
  have hm1 : (most : Int) < 2 ^ 64 := by omega
  rw [if_neg t8, wraps_u64 _ hm0 hm1]
  by_cases hb : most < N
  · rw [if_pos hb, if_pos (show ((N : Nat) : Int) > (most : Int) by omega)]
    exact .inl ⟨4, rfl, by decide, rfl⟩
  rw [if_neg hb, if_neg (show ¬ ((N : Nat) : Int) > (most : Int) by omega)]
  have b1 : N < 4611686018427387904 := by omega
  have b2 : N < 4611686018427387890 := by omega
  have b3 : N + 7 < 461168601842738 := by omega
  have b4 : (N + 7) / 8 < 461168601842738 := by omega
  have b5 : at_ < 4611686018427387890 := by omega
  have b6 : s.size < 461168601842738 := by omega
  have b7 : at_ + 8 < 461168601842738 := by omega
  have b8 : at_ + 8 + N < 4611686018427387904 := by omega
  rw [wrapN N b1, wrapA7 N b2, tdiv8 (N + 7) b3, wrapM8' ((N + 7) / 8) b4, wrapA8 at_ b5, wrapS' s.size (at_ + 8) b6 b7, wrapA (at_ + 8) N b8]
  clear b1 b2 b3 b4 b5 b6 b7 b8
  obtain ⟨S, hS⟩ : ∃ S, (N + 7) / 8 * 8 = S := ⟨_, rfl⟩
  rw [hS]
  have hNS : N ≤ S := by omega
  by_cases hmr : ((restB s at_).drop 8).length < S
  · rw [if_pos hmr]
    rw [List.length_drop, hl] at hmr
    rw [if_pos (show ((s.size : Int) - ((at_ + 8 : Nat) : Int)) < ((S : Nat) : Int) by omega)]
    exact .inl ⟨5, rfl, by decide, rfl⟩
  rw [if_neg hmr]
  rw [List.length_drop, hl] at hmr
  rw [if_neg (show ¬ ((s.size : Int) - ((at_ + 8 : Nat) : Int)) < ((S : Nat) : Int) by omega)]
  obtain ⟨k2, rfl⟩ : ∃ k2, k = k2 + (S - N) + 1 := ⟨k - (S - N) - 1, by omega⟩
  have hp := pad_rounds s N S (at_ + 8) at_ v hNS (by omega) hs (S - N) N k2 (by omega) (Nat.le_refl _)
  rw [hp]
  have hd : ((restB s at_).drop 8) = s.data.toList.drop (at_ + 8) := by rw [restB, List.drop_drop]
  have hd2 : (((restB s at_).drop 8).take S).drop N = (s.data.toList.drop (at_ + 8 + N)).take (S - N) := by rw [hd, List.drop_take, List.drop_drop]
  rw [hd2]
  by_cases hz : ((s.data.toList.drop (at_ + 8 + N)).take (S - N)).all (· == 0) = true
  · rw [if_pos hz, if_pos hz]
    refine .inr ⟨_, at_ + 8 + S, by rw [hd, restB, List.drop_drop], by omega, ?_⟩
    congr 1
    congr 1
    apply ByteArray.ext
    apply Array.toList_inj.1
    rw [ByteArray.data_extract, Array.toList_extract, List.extract_eq_take_drop]
    rw [show at_ + 8 + N - (at_ + 8) = N by omega]
    simp only [bsB, hd]
  · rw [if_neg hz, if_neg hz]
    exact .inl ⟨4, rfl, by decide, rfl⟩
end Go.Proofs.YtncokgdfkbgflaaDoor

namespace Go.Proofs.YtncokgdfkbgflaaDoor
open Go.RowKit Go.Shelf Go.Lib Go.Proofs.YtncokgdfkbgflaaDoorW.PrintWords Go.Proofs.YtncokgdfkbgflaaDoorW.PrintMore R
set_option linter.unusedVariables false
set_option linter.unusedSimpArgs false
abbrev St := Except Int (List UInt8)
def stOf {α : Type} (x : Rd α) : St := match x with | .ok (_, r) => .ok r | .error c => .error c
def onSt {α : Type} (x : St) (f : List UInt8 → Rd α) : Rd α := match x with | .ok r => f r | .error c => .error c
def txtOf (x : Rd (List UInt8)) : List UInt8 := match x with | .ok (t, _) => t | .error _ => []
def RfSt (s : ByteArray) (at_ : Nat) (E : Int) (x : St) : Prop := at_ ≤ s.size ∧ match x with | .ok r => E = 0 ∧ r = restB s at_ | .error c => E = c ∧ c ≠ 0
theorem max_rounds (zs : List ByteArray) (hz : zs.length ≤ 1000) (s : ByteArray) (at_ : Nat) (v : Value) (E : Int) : ∀ (m i k : Nat), i + m = zs.length →
    rr_one.l0 (k + m + 1) zs ((longest (bys (zs.take i)) : Nat) : Int) (i : Int) s at_ v E = (rr_text.f k s at_ v E ((longest (bys zs) : Nat) : Int)).bind fun b => rr_one.l1 k zs b.1 0 b.2.1 b.2.2.1 v b.2.2.2
  | 0, i, k, h => by
    obtain rfl : i = zs.length := by omega
    rw [show k + 0 + 1 = k + 1 by omega, rr_one.l0, if_neg (by omega), List.take_length]
  | m + 1, i, k, h => by
    have hi : i < zs.length := by omega
    have hx : zs[i]? = some zs[i] := List.getElem?_eq_getElem hi
    have ih := max_rounds zs hz s at_ v E m (i + 1) k (by omega)
    have t1 : (i : Int) < (zs.length : Int) := by omega
    have t2 : (0 : Int) ≤ (i : Int) := Int.natCast_nonneg _
    have hrd : rdOf ByteArray.empty zs (i : Int) = zs[i] := by unfold rdOf; rw [Int.toNat_natCast, List.getD_eq_getElem?_getD, hx]; rfl
    have hmx : mx ((longest (bys (zs.take i)) : Nat) : Int) ((zs[i].size : Nat) : Int) = ((longest (bys (zs.take (i + 1))) : Nat) : Int) := by
      rw [longest_take zs i _ hx]
      unfold mx
      omega
    have hlt : i < 4611686018427387900 := by omega
    rw [show k + (m + 1) + 1 = (k + m + 1) + 1 by omega, rr_one.l0, if_pos t1, if_pos t2, hrd, hmx, wrapA1 i hlt, ih]
theorem wrong_plain (s : ByteArray) (at_ : Nat) (v : Value) (E : Int) (b : Bool) : rr_wrong.f s at_ v E b = some (s, (at_ : Int), if b = true ∧ E = 0 then 4 else E) := by
  unfold rr_wrong.f
  cases b with
  | false => rfl
  | true =>
    by_cases h : E = 0
    · rw [if_pos rfl, if_pos h, if_pos ⟨rfl, h⟩]
    · rw [if_pos rfl, if_neg h, if_neg (fun e => h e.2)]
theorem find_off (zs : List ByteArray) (t : ByteArray) (s : ByteArray) (at_ : Nat) (v : Value) (E : Int) (hE : E ≠ 0) (k : Nat) : rr_one.l1 (k + 2) zs t 0 s at_ v E = some (⟨#[]⟩, s, (at_ : Int), E) := by
  have h2 : rr_one.j2 (k + 1) zs t 0 false s at_ v E = some (⟨#[]⟩, s, (at_ : Int), E) := by
    rw [rr_one.j2, if_neg (by decide), wrong_plain, if_neg (fun e => hE e.2)]
    rfl
  have hb : (E == 0) = false := beq_eq_false_iff_ne.2 hE
  rw [rr_one.l1, hb, h2]
  split <;> rfl
open Classical in
theorem find_rounds (zs : List ByteArray) (hz : zs.length ≤ 1000) (t : ByteArray) (s : ByteArray) (at_ : Nat) (v : Value) : ∀ (m i k : Nat), i + m = zs.length →
    rr_one.l1 (k + 2 * m + 2) zs t (i : Int) s at_ v 0 = if t ∈ zs.drop i then some (t, s, (at_ : Int), 0) else some (⟨#[]⟩, s, (at_ : Int), 4)
  | 0, i, k, h => by
    obtain rfl : i = zs.length := by omega
    rw [show k + 2 * 0 + 2 = (k + 1) + 1 by omega, rr_one.l1, if_neg (by omega), rr_one.j2, if_neg (by decide), wrong_plain, if_pos ⟨rfl, rfl⟩, List.drop_length, if_neg (by simp)]
    rfl
  | m + 1, i, k, h => by
    have hi : i < zs.length := by omega
    have hx : zs[i]? = some zs[i] := List.getElem?_eq_getElem hi
    have ih := find_rounds zs hz t s at_ v m (i + 1) k (by omega)
    have t1 : (i : Int) < (zs.length : Int) := by omega
    have t2 : (0 : Int) ≤ (i : Int) := Int.natCast_nonneg _
    have hrd : rdOf ByteArray.empty zs (i : Int) = zs[i] := by unfold rdOf; rw [Int.toNat_natCast, List.getD_eq_getElem?_getD, hx]; rfl
    have hlt : i < 4611686018427387900 := by omega
    rw [show k + 2 * (m + 1) + 2 = ((k + 2 * m + 2) + 1) + 1 by omega, rr_one.l1, if_pos t1, show ((0 : Int) == 0) = true from rfl, rr_one.j2, if_pos rfl, if_pos t2, if_pos t1, hrd, wrapA1 i hlt, ih, List.drop_eq_getElem_cons hi]
    by_cases he : zs[i] = t
    · rw [if_pos (by rw [he]), if_pos (by rw [he]; exact List.mem_cons_self)]
    · rw [if_neg (fun e => he (by apply ByteArray.ext; apply Array.toList_inj.1; rw [toList_data, toList_data] at e; exact e))]
      by_cases h2 : t ∈ zs.drop (i + 1)
      · rw [if_pos h2, if_pos (List.mem_cons_of_mem _ h2)]
      · rw [if_neg h2, if_neg (fun e => by rcases List.mem_cons.1 e with e | e; exact he e.symm; exact h2 e)]
theorem mem_bys (zs : List ByteArray) (t : List UInt8) : (bys zs).contains t = true ↔ bsB t ∈ zs := by
  rw [List.contains_iff_mem, bys, List.mem_map]
  constructor
  · rintro ⟨z, hz, rfl⟩
    exact hz
  · exact fun h => ⟨_, h, rfl⟩
theorem text_any (s : ByteArray) (at_ most : Nat) (E : Int) (x : St) (v : Value) (h : RfSt s at_ E x) (hs : s.size < 1000000000) (hm : most ≤ 65536) (k : Nat) (hk : 70000 ≤ k) :
    ∃ (at' : Nat) (E' : Int), rr_text.f k s at_ v E most = some (bsB (txtOf (onSt x (textP most))), s, (at' : Int), E') ∧ RfSt s at' E' (stOf (onSt x (textP most))) := by
  obtain ⟨hat, hx⟩ := h
  cases x with
  | error c =>
    obtain ⟨rfl, hc⟩ := hx
    refine ⟨at_, E, ?_, hat, rfl, hc⟩
    unfold rr_text.f
    rw [if_neg hc]
    rfl
  | ok r =>
    obtain ⟨rfl, rfl⟩ := hx
    rcases text_plain s at_ most v hat hs hm k hk with ⟨c, h1, h2, h3⟩ | ⟨t, at', h1, h2, h3⟩
    · refine ⟨at_, c, ?_, hat, ?_⟩
      · rw [h3]; show _ = some (bsB (txtOf (textP most (restB s at_))), _); rw [h1]; rfl
      · show match stOf (textP most (restB s at_)) with | .ok r => _ | .error c => _
        rw [h1]; exact ⟨rfl, h2⟩
    · refine ⟨at', 0, ?_, h2, ?_⟩
      · rw [h3]; show _ = some (bsB (txtOf (textP most (restB s at_))), _); rw [h1]; rfl
      · show match stOf (textP most (restB s at_)) with | .ok r => _ | .error c => _
        rw [h1]; exact ⟨rfl, rfl⟩
theorem one_any (s : ByteArray) (at_ : Nat) (E : Int) (x : St) (v : Value) (h : RfSt s at_ E x) (hs : s.size < 1000000000) (zs : List ByteArray) (hz : zs.length ≤ 1000) (hz4 : ∀ z ∈ zs, z.size ≤ 4096) (k : Nat) (hk : 80000 ≤ k) :
    ∃ (at' : Nat) (E' : Int), rr_one.f k s at_ v E zs = some (bsB (txtOf (onSt x (oneP (bys zs)))), s, (at' : Int), E') ∧ RfSt s at' E' (stOf (onSt x (oneP (bys zs)))) := by
  have hlong : longest (bys zs) ≤ 65536 := by
    rcases Nat.eq_zero_or_pos (bys zs).length with h0 | h0
    · rw [List.length_eq_zero_iff.1 h0]; decide
    · obtain ⟨t, ht, he⟩ := longest_mem (bys zs) h0
      rw [← he]
      obtain ⟨z, hz, rfl⟩ := List.mem_map.1 ht
      have := hz4 z hz
      rw [Lib.size_eq] at this
      omega
  obtain ⟨k2, hk2⟩ : ∃ k2, k = (k2 + 2 * zs.length + 2) + zs.length + 1 := ⟨k - 3 * zs.length - 3, by omega⟩
  have hmx := max_rounds zs hz s at_ v E zs.length 0 (k2 + 2 * zs.length + 2) (by omega)
  rw [List.take_zero, show ((longest (bys []) : Nat) : Int) = 0 from rfl, show ((0 : Nat) : Int) = 0 from rfl, ← hk2] at hmx
  unfold rr_one.f
  rw [hmx]
  obtain ⟨at', E', h1, h2⟩ := text_any s at_ (longest (bys zs)) E x v h hs hlong (k2 + 2 * zs.length + 2) (by omega)
  rw [h1, Option.bind_some]
  have hone : onSt x (oneP (bys zs)) = (onSt x (textP (longest (bys zs)))).then fun t r => if (bys zs).contains t then .ok (t, r) else .error 4 := by cases x <;> rfl
  rw [hone]
  obtain ⟨y, hy⟩ : ∃ y, y = onSt x (textP (longest (bys zs))) := ⟨_, rfl⟩
  rw [← hy] at h2 ⊢
  cases y with
  | error c =>
    obtain ⟨hat, rfl, hc⟩ := h2
    exact ⟨at', E', find_off zs _ s at' v E' hc (k2 + 2 * zs.length), hat, rfl, hc⟩
  | ok y =>
    obtain ⟨t, r⟩ := y
    obtain ⟨hat, rfl, rfl⟩ := h2
    have hf := find_rounds zs hz (bsB t) s at' v zs.length 0 k2 (by omega)
    rw [List.drop_zero, show ((0 : Nat) : Int) = 0 from rfl] at hf
    rw [Rd.then_ok]
    by_cases hc : (bys zs).contains t = true
    · rw [if_pos hc]
      rw [if_pos ((mem_bys zs t).1 hc)] at hf
      exact ⟨at', 0, hf, hat, rfl, rfl⟩
    · rw [if_neg hc]
      rw [if_neg (fun e => hc ((mem_bys zs t).2 e))] at hf
      exact ⟨at', 4, hf, hat, rfl, by decide⟩
end Go.Proofs.YtncokgdfkbgflaaDoor

namespace Go.Proofs.YtncokgdfkbgflaaDoor
open Go.RowKit Go.Shelf Go.Lib Go.Proofs.YtncokgdfkbgflaaDoorW.PrintWords Go.Proofs.YtncokgdfkbgflaaDoorW.PrintMore R
set_option linter.unusedVariables false
set_option linter.unusedSimpArgs false
abbrev rfC (s : ByteArray) (at_ : Nat) (v : Value) (E : Int) : Array Value := #[.string s, .int .i64 at_, v, .int .i64 E]
structure RfAt (B g : Nat) (s : ByteArray) (x : St) (l : List Nd) (w : World) : Prop where
  base : B ≤ g
  small : s.size < 1000000000
  blk : ∃ (at_ : Nat) (E : Int) (v : Value), w.heap[g]? = some (.cells (rfC s at_ v E) 76 (0, 0)) ∧ RfSt s at_ E x ∧ OwnRow NdR 68 3 w B v l
structure RfStep (e : Option TypeId) (B g : Nat) (w w' : World) : Prop where
  below : Below B w w'
  kept : ∀ (k : Nat) (o : Obj), w.heap[k]? = some o → k ≠ g → (∀ c t fz, o = .cells c t fz → e ≠ some t) → w'.heap[k]? = some o
  third : e = none → ∀ (s : ByteArray) (at_ : Nat) (v : Value) (E : Int), w.heap[g]? = some (.cells (rfC s at_ v E) 76 (0, 0)) → ∃ (at' : Nat) (E' : Int), w'.heap[g]? = some (.cells (rfC s at' v E') 76 (0, 0))
theorem RfStep.refl (e : Option TypeId) (B g : Nat) (w : World) : RfStep e B g w w := ⟨Below.refl _ _, fun _ _ h _ _ => h, fun _ _ at_ _ E h => ⟨at_, E, h⟩⟩
theorem RfStep.trans {e : Option TypeId} {B g : Nat} {a b c : World} (h : RfStep e B g a b) (k : RfStep e B g b c) : RfStep e B g a c :=
  ⟨h.below.trans k.below, fun i o hi hg he => k.kept i o (h.kept i o hi hg he) hg he, fun he s at_ v E hv => by obtain ⟨a1, E1, h1⟩ := h.third he s at_ v E hv; exact k.third he s a1 v E1 h1⟩
theorem RfStep.weak {e : Option TypeId} {B g : Nat} {a b : World} (h : RfStep none B g a b) : RfStep e B g a b :=
  ⟨h.below, fun i o hi hg he => h.kept i o hi hg (fun _ _ _ _ => by simp), fun _ => h.third rfl⟩
theorem RfStep.all {B g : Nat} {a b : World} (h : RfStep none B g a b) {k : Nat} {o : Obj} (hk : a.heap[k]? = some o) (hg : k ≠ g) : b.heap[k]? = some o := h.kept k o hk hg (fun _ _ _ _ => by simp)
theorem RfStep.alloc {e : Option TypeId} {B g : Nat} {a w : World} (h : RfStep e B g a w) (hB : B ≤ w.heap.size) (o : Obj) : RfStep e B g a (w.alloc o) :=
  ⟨h.below.alloc hB o, fun i c hi hg he => blk_alloc (h.kept i c hi hg he) o, fun he s at_ v E hv => by obtain ⟨a1, E1, h1⟩ := h.third he s at_ v E hv; exact ⟨a1, E1, blk_alloc h1 o⟩⟩
theorem RfStep.drew {e : Option TypeId} {B g : Nat} {a w : World} (h : RfStep e B g a w) : RfStep e B g a w.drew := ⟨below_drew h.below, h.kept, h.third⟩
theorem RfStep.setOwn {e : Option TypeId} {B g : Nat} {a w : World} (h : RfStep e B g a w) (hB : B ≤ a.heap.size) {p : Addr} (hp : a.heap.size ≤ p.block) (u : Value) : RfStep e B g a (w.setCell p u) :=
  ⟨h.below.setCell (by omega) u, fun k o hk hg he => (Below.heap_setCell w p u k (by have := blk_lt hk; omega)).trans (h.kept k o hk hg he), fun he s at_ v E hv => by
    obtain ⟨a1, E1, h1⟩ := h.third he s at_ v E hv
    exact ⟨a1, E1, (Below.heap_setCell w p u g (by have := blk_lt hv; omega)).trans h1⟩⟩
theorem RfAt.lt {B g : Nat} {s : ByteArray} {x : St} {l : List Nd} {w : World} (h : RfAt B g s x l w) : g < w.heap.size := by
  obtain ⟨at_, E, v, hb, _⟩ := h.blk
  exact blk_lt hb
theorem RfAt.cong {B g : Nat} {s : ByteArray} {x : St} {l : List Nd} {w w' : World} (h : RfAt B g s x l w) (hk : ∀ (k : Nat) (c : Array Value) (t : TypeId) (fz : Nat × Nat), w.heap[k]? = some (Obj.cells c t fz) → t = 76 ∨ t = 68 → w'.heap[k]? = some (Obj.cells c t fz)) : RfAt B g s x l w' := by
  obtain ⟨at_, E, v, hb, hx, ho⟩ := h.blk
  refine ⟨h.base, h.small, at_, E, v, hk _ _ _ _ hb (.inl rfl), hx, own_cong ho fun k hv => ?_⟩
  obtain ⟨inner, hi, _⟩ := ho
  obtain ⟨cs, hc⟩ := own_typed hi k hv
  rw [hc]
  exact hk _ _ _ _ hc (.inr rfl)
theorem RfAt.alloc {B g : Nat} {s : ByteArray} {x : St} {l : List Nd} {w : World} (h : RfAt B g s x l w) (o : Obj) : RfAt B g s x l (w.alloc o) := h.cong fun _ _ _ _ hk _ => blk_alloc hk o
theorem RfAt.drew {B g : Nat} {s : ByteArray} {x : St} {l : List Nd} {w : World} (h : RfAt B g s x l w) : RfAt B g s x l w.drew := h.cong fun _ _ _ _ hk _ => hk
structure NodeAf (B g k : Nat) (n : Nd) (w : World) : Prop where
  base : B ≤ k
  ne : k ≠ g
  blk : w.heap[k]? = some (.cells #[.string (bsB n.path), .int .i64 n.kind, .string (bsB n.data)] 68 (0, 0))
  apart : ∀ s at_ v E, w.heap[g]? = some (.cells (rfC s at_ v E) 76 (0, 0)) → v.ownBlock ≠ some k
theorem RfAt.node {B g k i : Nat} {s : ByteArray} {x : St} {l : List Nd} {w : World} {n : Nd} (h : RfAt B g s x l w) (hn : NodeAf B g k n w) (u : Value) : RfAt B g s x l (w.setCell ⟨k, i, none⟩ u) := by
  obtain ⟨at_, E, v, hb, hx, ho⟩ := h.blk
  refine ⟨h.base, h.small, at_, E, v, ?_, hx, own_cong ho fun j hj => Below.heap_setCell _ _ _ _ ?_⟩
  · exact (Below.heap_setCell w ⟨k, i, none⟩ u g (fun e => hn.ne e.symm)).trans hb
  · rintro rfl
    exact hn.apart _ _ _ _ hb hj
theorem NodeAf.step {B g k : Nat} {s : ByteArray} {x : St} {l : List Nd} {w w' : World} {n : Nd} (hn : NodeAf B g k n w) (h : RfAt B g s x l w) (hst : RfStep none B g w w') : NodeAf B g k n w' := by
  obtain ⟨at_, E, v, hb, hx, ho⟩ := h.blk
  refine ⟨hn.base, hn.ne, hst.all hn.blk hn.ne, fun s1 a1 v1 E1 h1 => ?_⟩
  obtain ⟨a2, E2, h2⟩ := hst.third rfl _ _ _ _ hb
  rw [h2] at h1
  cases h1
  exact hn.apart _ _ _ _ hb
theorem NodeAf.set {B g k i : Nat} {w : World} {n n' : Nd} (hn : NodeAf B g k n w) (u : Value) (e : (#[.string (bsB n.path), .int .i64 n.kind, .string (bsB n.data)] : Array Value).setIfInBounds i u = #[.string (bsB n'.path), .int .i64 n'.kind, .string (bsB n'.data)]) : NodeAf B g k n' (w.setCell ⟨k, i, none⟩ u) :=
  ⟨hn.base, hn.ne, blk_put hn.blk i u e, fun s a v E h => hn.apart s a v E ((Below.heap_setCell w ⟨k, i, none⟩ u g (fun e => hn.ne e.symm)).symm.trans h)⟩
theorem NodeAf.alloc {B g k : Nat} {s : ByteArray} {x : St} {l : List Nd} {w : World} {n : Nd} (hn : NodeAf B g k n w) (h : RfAt B g s x l w) (hB : B ≤ w.heap.size) (o : Obj) : NodeAf B g k n (w.alloc o) := hn.step h ((RfStep.refl _ _ _ _).alloc hB o)
theorem NodeAf.new {B g : Nat} {s : ByteArray} {x : St} {l : List Nd} {w : World} (h : RfAt B g s x l w) (hB : B ≤ w.heap.size) (n : Nd) : NodeAf B g w.heap.size n (w.alloc (.cells #[.string (bsB n.path), .int .i64 n.kind, .string (bsB n.data)] 68)) := by
  obtain ⟨at_, E, v, hb, hx, inner, ho, _⟩ := h.blk
  refine ⟨hB, ?_, blk_new w _, ?_⟩
  · have := h.lt; omega
  · intro s1 a1 v1 E1 h1 hk
    rw [blk_alloc hb] at h1
    cases h1
    have := own_lt ho _ hk
    omega
def RfS (B g : Nat) (s : ByteArray) (l : List Nd) (w : World) (x' : St) (w' : World) : Prop := RfAt B g s x' l w' ∧ RfStep none B g w w'
def bare (w : World) : World := { w with heap := #[] }
theorem below_bare (w : World) : Below (bare w).heap.size (bare w) w := ⟨rfl, rfl, rfl, Nat.zero_le _, fun k hk => absurd hk (Nat.not_lt_zero _)⟩
theorem rf_of (B g : Nat) (s : ByteArray) (l : List Nd) (w w' : World) (at_ : Nat) (E : Int) (v : Value) (at' : Nat) (E' : Int) (x' : St) (hB : B ≤ g) (hs : s.size < 1000000000) (hb : w.heap[g]? = some (.cells (rfC s at_ v E) 76 (0, 0))) (ho : OwnRow NdR 68 3 w B v l)
    (hI : IsV76 (bare w) w' g s at' v E') (hbl : Below (bare w).heap.size (bare w) w') (hk : KeepBut w w' g none) (hx : RfSt s at' E' x') : RfS B g s l w x' w' := by
  obtain ⟨_, _, hb', _⟩ := hI
  have hgl := blk_lt hb
  have hall : ∀ (k : Nat) (o : Obj), w.heap[k]? = some o → k ≠ g → w'.heap[k]? = some o := fun k o hko hkg => (hk.2 k (blk_lt hko) hkg (by simp)).trans hko
  refine ⟨⟨hB, hs, at', E', v, hb', hx, own_cong ho fun k hv => ?_⟩, ⟨⟨hbl.os, hbl.tape, hbl.output, hk.1, fun k hkB => hk.2 k (by omega) (by omega) (by simp)⟩, fun k o hko hkg _ => hall k o hko hkg, fun _ s1 a1 v1 E1 h1 => ?_⟩⟩
  · have hne := ho.ne_block hb (by decide)
    obtain ⟨inner, hi, _⟩ := ho
    have hlt := own_lt hi k hv
    exact hk.2 k hlt (fun e => hne (by rw [hv, e])) (by simp)
  · rw [hb] at h1
    cases h1
    exact ⟨at', E', hb'⟩
theorem string_reads (w : World) (b : Nat) (zs : List ByteArray) (hb : w.heap[b]? = some (.cells (zs.map Value.string).toArray 9 (0, 0))) (hn : zs.length ≤ 1000) : Kd.C Kd.string w (some ⟨b, 0, none⟩) zs.length zs := by
  refine ⟨rfl, by omega, fun _ => ⟨_, rfl, fun j p hj => ⟨[.string p], rfl, rfl, fun i u hu => ?_⟩⟩⟩
  rcases i with _ | i
  · obtain rfl : Value.string p = u := by simpa using hu
    have : (Addr.add ⟨b, 0, none⟩ (j * Kd.string.sz + 0)) = ⟨b, j, none⟩ := by
      show Addr.add ⟨b, 0, none⟩ (j * 1 + 0) = _
      rw [Nat.mul_one, Nat.add_zero, add_plain]
    rw [this, blk_cell hb]
    simp [hj]
  · simp at hu
theorem text_rf (B g : Nat) (s : ByteArray) (x : St) (most : Nat) (l : List Nd) (w : World) (h : RfAt B g s x l w) (hm : most ≤ 65536) :
    Calls Tryd.prog 65 #[.pointer (some ⟨g, 0, none⟩), .int .i64 most] w fun e w' => e = .returned (.string (bsB (txtOf (onSt x (textP most))))) ∧ RfS B g s l w (stOf (onSt x (textP most))) w' := by
  obtain ⟨at_, E, v, hb, hx, ho⟩ := h.blk
  obtain ⟨at', E', h1, h2⟩ := text_any s at_ most E x v hx h.small hm 100000 (by decide)
  refine (rr_text.calls 100000 g s at_ v E most _ _ _ _ (bare w) w ⟨none, 0, hb, Nat.zero_le _, trivial⟩ (below_bare w) h1).mono ?_
  rintro e w' ⟨he, hI, hbl, hk⟩
  exact ⟨he, rf_of B g s l w w' at_ E v at' E' _ h.base h.small hb ho hI hbl hk h2⟩
theorem one_rf (B g : Nat) (s : ByteArray) (x : St) (l : List Nd) (w : World) (h : RfAt B g s x l w) (b c : Nat) (zs : List ByteArray) (hbz : w.heap[b]? = some (.cells (zs.map Value.string).toArray 9 (0, 0))) (hn2 : zs.length ≤ 1000) (hz : ∀ z ∈ zs, z.size ≤ 4096) (hc : zs.length ≤ c) :
    Calls Tryd.prog 43 #[.pointer (some ⟨g, 0, none⟩), .slice (some ⟨b, 0, none⟩) zs.length c] w fun e w' => e = .returned (.string (bsB (txtOf (onSt x (oneP (bys zs)))))) ∧ RfS B g s l w (stOf (onSt x (oneP (bys zs)))) w' := by
  obtain ⟨at_, E, v, hb, hx, ho⟩ := h.blk
  obtain ⟨at', E', h1, h2⟩ := one_any s at_ E x v hx h.small zs hn2 hz 100000 (by decide)
  refine (rr_one.calls 100000 g s at_ v E (some ⟨b, 0, none⟩) c zs _ _ _ _ (bare w) w ⟨none, 0, hb, Nat.zero_le _, trivial⟩ (below_bare w) (string_reads w b zs hbz hn2) hc ?_ h1).mono ?_
  · rintro ad rfl' _
    cases rfl'
    exact blk_ne hbz hb (by decide)
  · rintro e w' ⟨he, hI, hbl, hk⟩
    exact ⟨he, rf_of B g s l w w' at_ E v at' E' _ h.base h.small hb ho hI hbl hk h2⟩
def wrongS (b : Bool) (x : St) : St := match x with | .ok r => if b = true then .error 4 else .ok r | .error c => .error c
theorem wrong_rf (B g : Nat) (s : ByteArray) (x : St) (l : List Nd) (w : World) (h : RfAt B g s x l w) (b : Bool) :
    Calls Tryd.prog 45 #[.pointer (some ⟨g, 0, none⟩), .bool b] w fun e w' => e = .returned (.tuple #[]) ∧ RfS B g s l w (wrongS b x) w' := by
  obtain ⟨at_, E, v, hb, hx, ho⟩ := h.blk
  refine (rr_wrong.calls g s at_ v E b _ _ _ (bare w) w ⟨none, 0, hb, Nat.zero_le _, trivial⟩ (below_bare w) (wrong_plain s at_ v E b)).mono ?_
  rintro e w' ⟨he, hI, hbl, hk⟩
  refine ⟨he, rf_of B g s l w w' at_ E v at_ _ _ h.base h.small hb ho hI hbl hk ⟨hx.1, ?_⟩⟩
  cases x with
  | error c =>
    obtain ⟨_, rfl, hc⟩ := hx
    show _ = E ∧ E ≠ 0
    rw [if_neg (fun e => hc e.2)]
    exact ⟨rfl, hc⟩
  | ok r =>
    obtain ⟨_, rfl, rfl⟩ := hx
    cases b with
    | true => exact ⟨rfl, by decide⟩
    | false => exact ⟨rfl, rfl⟩
end Go.Proofs.YtncokgdfkbgflaaDoor

namespace Go.Proofs.YtncokgdfkbgflaaDoor
set_option linter.unusedVariables false
open Go.RowKit Go.Proofs.YtncokgdfkbgflaaDoorW.PrintWords Go.Proofs.YtncokgdfkbgflaaDoorW.PrintMore P
def bs (l : List UInt8) : ByteArray := ⟨l.toArray⟩
def strsOf (ss : List ByteArray) : List (List UInt8) := ss.map fun s => s.data.toList
def nd (x : S68) : Nd := ⟨x.f0.data.toList, x.f1, x.f2.data.toList⟩
def nds (l : List S68) : List Nd := l.map nd
theorem toList_data (s : ByteArray) : s.toList = s.data.toList := Lib.toList_data s
theorem bs_size (l : List UInt8) : (bs l).size = l.length := by simp [bs, ByteArray.size]
theorem bs_toList (l : List UInt8) : (bs l).data.toList = l := by simp [bs]
theorem bs_append (a b : List UInt8) : bs a ++ bs b = bs (a ++ b) := by
  apply ByteArray.ext; simp [bs]
theorem bs_data (s : ByteArray) : bs s.data.toList = s := by cases s; simp [bs]
theorem rd68_at (xs : List S68) (k : Nat) (h : k < xs.length) : rd_T68 xs (k : Int) = xs[k] := by
  simp [rd_T68, List.getD_eq_getElem?_getD, List.getElem?_eq_getElem h]
end Go.Proofs.YtncokgdfkbgflaaDoor

namespace Go.Proofs.YtncokgdfkbgflaaDoor
set_option linter.unusedVariables false
set_option linter.unusedSimpArgs false
open Go.RowKit Go.Proofs.YtncokgdfkbgflaaDoorW.PrintWords Go.Proofs.YtncokgdfkbgflaaDoorW.PrintMore P
theorem bt_is (s : ByteArray) (i : Nat) (h : i < s.data.toList.length) : bt s (i : Int) = ((s.data.toList[i]).toNat : Int) := by
  have h2 : (i : Int).toNat < s.size := by rw [Int.toNat_natCast, Lib.size_eq]; exact h
  rw [← bt_at s (i : Int) h2]
  rfl
theorem wrap_up (j : Nat) (h : j < 4611686018427387904) : wrap64 ((j : Int) + 1) = ((j + 1 : Nat) : Int) := by unfold wrap64; omega
theorem has_rounds (s : ByteArray) (c : UInt8) (hs : s.size < 4611686018427387904) : ∀ (m k i : Nat), s.data.toList.length - i ≤ m → i ≤ s.data.toList.length → m + 1 ≤ k → shelfmarkref10_has.l0 k s (c.toNat : Int) (i : Int) = some ((s.data.toList.drop i).contains c) := by
  have hz : s.size = s.data.toList.length := Lib.size_eq s
  intro m
  induction m with
  | zero =>
    intro k i h1 h2 h3
    obtain ⟨k, rfl⟩ : ∃ g, k = g + 1 := ⟨k - 1, by omega⟩
    rw [shelfmarkref10_has.l0, if_neg (by omega), List.drop_eq_nil_of_le (by omega)]
    rfl
  | succ m ih =>
    intro k i h1 h2 h3
    obtain ⟨k, rfl⟩ : ∃ g, k = g + 1 := ⟨k - 1, by omega⟩
    by_cases hi : i < s.data.toList.length
    · rw [shelfmarkref10_has.l0, if_pos (by omega), if_pos (by omega), bt_is s i hi, List.drop_eq_getElem_cons hi]
      by_cases hc : s.data.toList[i] = c
      · rw [if_pos (by rw [hc]), hc]
        simp
      · rw [if_neg (by
          intro e
          apply hc
          apply UInt8.toNat_inj.mp
          omega), wrap_up i (by omega), ih k (i + 1) (by omega) (by omega) (by omega)]
        congr 1
        rw [List.contains_cons, beq_eq_false_iff_ne.2 (fun e => hc e.symm), Bool.false_or]
    · rw [shelfmarkref10_has.l0, if_neg (by omega), List.drop_eq_nil_of_le (by omega)]
      rfl
theorem has_f (s : ByteArray) (c : UInt8) (hs : s.size < 4611686018427387904) (k : Nat) (hk : s.size + 1 ≤ k) : shelfmarkref10_has.f k s (c.toNat : Int) = some (s.data.toList.contains c) := by
  have hz : s.size = s.data.toList.length := Lib.size_eq s
  have := has_rounds s c hs s.data.toList.length k 0 (by omega) (by omega) (by omega)
  rw [List.drop_zero] at this
  exact this
theorem hasSep_is (l : List UInt8) : hasSep l = (l.contains 0 || l.contains 47) := by
  induction l with
  | nil => rfl
  | cons b l ih =>
    show ((b == 0 || b == 47) || hasSep l) = _
    rw [ih, List.contains_cons, List.contains_cons]
    have e1 : (b == 0) = ((0 : UInt8) == b) := by rw [Bool.eq_iff_iff, beq_iff_eq, beq_iff_eq]; exact ⟨Eq.symm, Eq.symm⟩
    have e2 : (b == 47) = ((47 : UInt8) == b) := by rw [Bool.eq_iff_iff, beq_iff_eq, beq_iff_eq]; exact ⟨Eq.symm, Eq.symm⟩
    rw [e1, e2]
    cases ((0 : UInt8) == b) <;> cases ((47 : UInt8) == b) <;> simp
theorem hasZero_is (l : List UInt8) : hasZero l = l.contains 0 := by
  induction l with
  | nil => rfl
  | cons b l ih =>
    show ((b == 0) || hasZero l) = _
    rw [ih, List.contains_cons]
    have e1 : (b == 0) = ((0 : UInt8) == b) := by rw [Bool.eq_iff_iff, beq_iff_eq, beq_iff_eq]; exact ⟨Eq.symm, Eq.symm⟩
    rw [e1]
theorem refMayName_f (s : ByteArray) (k : Nat) (hk : 300 ≤ k) : shelfmarkref10_MayName.f k s = some (mayName s.data.toList) := by
  have hz : s.size = s.data.toList.length := Lib.size_eq s
  unfold shelfmarkref10_MayName.f mayName
  by_cases h0 : s.data.toList = []
  · rw [h0] at hz ⊢
    rw [if_neg (by rw [List.length_nil] at hz; omega)]
    rfl
  · have h0' : (s.data.toList == []) = false := beq_eq_false_iff_ne.2 h0
    have hpos : 0 < s.data.toList.length := Nat.pos_of_ne_zero (fun e => h0 (List.length_eq_zero_iff.1 e))
    rw [if_pos (by omega), h0']
    by_cases h1 : s.data.toList.length ≤ 255
    · rw [if_pos (by omega), decide_eq_true h1, hasSep_is]
      have e0 : shelfmarkref10_has.f k s 0 = some (s.data.toList.contains 0) := has_f s 0 (by omega) k (by omega)
      have e47 : shelfmarkref10_has.f k s 47 = some (s.data.toList.contains 47) := has_f s 47 (by omega) k (by omega)
      rw [e0, e47]
      simp only [Option.bind_some]
      rw [toList_data]
      cases s.data.toList.contains 0 with
      | true => simp
      | false =>
        cases s.data.toList.contains 47 with
        | true => simp
        | false =>
          by_cases h5 : s.data.toList = [46]
          · simp [h5]
          · simp [h5, bne]
    · rw [if_neg (by omega), decide_eq_false h1]
      simp
end Go.Proofs.YtncokgdfkbgflaaDoor

namespace Go.Proofs.YtncokgdfkbgflaaDoor
set_option linter.unusedVariables false
set_option linter.unusedSimpArgs false
open Go.RowKit Go.Proofs.YtncokgdfkbgflaaDoorW.PrintWords Go.Proofs.YtncokgdfkbgflaaDoorW.PrintMore P
theorem deep_rounds (s : ByteArray) (hs : s.size < 4611686018427387904) : ∀ (m k i c : Nat), s.data.toList.length - i ≤ m → i ≤ s.data.toList.length → c ≤ i + 1 → m + 1 ≤ k → shelfmarkref10_deep.l0 k s (c : Int) (i : Int) = some (((c + (s.data.toList.drop i).count 47 : Nat)) : Int) := by
  have hz : s.size = s.data.toList.length := Lib.size_eq s
  intro m
  induction m with
  | zero =>
    intro k i c h1 h2 h4 h3
    obtain ⟨k, rfl⟩ : ∃ g, k = g + 1 := ⟨k - 1, by omega⟩
    rw [shelfmarkref10_deep.l0, if_neg (by omega), List.drop_eq_nil_of_le (by omega)]
    rfl
  | succ m ih =>
    intro k i c h1 h2 h4 h3
    obtain ⟨k, rfl⟩ : ∃ g, k = g + 1 := ⟨k - 1, by omega⟩
    by_cases hi : i < s.data.toList.length
    · rw [shelfmarkref10_deep.l0, if_pos (by omega), if_pos (by omega), bt_is s i hi, List.drop_eq_getElem_cons hi]
      by_cases hc : s.data.toList[i] = 47
      · rw [if_pos (by rw [hc]; rfl), wrap_up i (by omega), wrap_up c (by omega), ih k (i + 1) (c + 1) (by omega) (by omega) (by omega) (by omega), hc, List.count_cons_self]
        congr 2
        omega
      · rw [if_neg (by
          intro e
          apply hc
          apply UInt8.toNat_inj.mp
          show _ = 47
          omega), wrap_up i (by omega), ih k (i + 1) c (by omega) (by omega) (by omega) (by omega), List.count_cons_of_ne (fun e => hc e)]
    · rw [shelfmarkref10_deep.l0, if_neg (by omega), List.drop_eq_nil_of_le (by omega)]
      rfl
theorem deep_f (s : ByteArray) (hs : s.size < 4611686018427387904) (k : Nat) (hk : s.size + 1 ≤ k) : shelfmarkref10_deep.f k s = some (((1 + slashes s.data.toList : Nat)) : Int) := by
  have hz : s.size = s.data.toList.length := Lib.size_eq s
  have := deep_rounds s hs s.data.toList.length k 0 1 (by omega) (by omega) (by omega) (by omega)
  rw [List.drop_zero] at this
  exact this
theorem mayData_f (x : S68) (k : Nat) (hk : 5000 ≤ k) : shelfmarkref10_mayData.f k x.f0 x.f1 x.f2 = some (okNd (nd x)) := by
  have hz : x.f2.size = x.f2.data.toList.length := Lib.size_eq x.f2
  obtain ⟨k, rfl⟩ : ∃ g, k = g + 1 := ⟨k - 1, by omega⟩
  have hkd : (nd x).kind = x.f1 := rfl
  have hdt : (nd x).data = x.f2.data.toList := rfl
  unfold shelfmarkref10_mayData.f okNd
  rw [hkd, hdt]
  by_cases h1 : x.f1 = 1
  · rw [if_pos h1, if_pos (.inl h1), h1, shelfmarkref10_mayData.j0, if_pos (by rfl)]
    congr 1
    rw [Bool.eq_iff_iff]; simp only [decide_eq_true_eq]; omega
  · rw [if_neg h1]
    by_cases h2 : x.f1 = 2
    · rw [if_pos (.inr h2), h2, shelfmarkref10_mayData.j0, if_pos (by rfl)]
      congr 1
      rw [Bool.eq_iff_iff]; simp only [decide_eq_true_eq]; omega
    · rw [if_neg (by omega), shelfmarkref10_mayData.j0, if_neg (by simpa using h2)]
      by_cases h3 : x.f1 = 3
      · rw [if_pos h3, if_pos h3]
        by_cases h4 : x.f2.data.toList = []
        · rw [h4] at hz ⊢
          rw [if_neg (by rw [List.length_nil] at hz; omega)]
          rfl
        · have hpos : 0 < x.f2.data.toList.length := Nat.pos_of_ne_zero (fun e => h4 (List.length_eq_zero_iff.1 e))
          rw [if_pos (by omega), beq_eq_false_iff_ne.2 h4]
          by_cases h5 : x.f2.data.toList.length ≤ 4096
          · have e0 : shelfmarkref10_has.f k x.f2 0 = some (x.f2.data.toList.contains 0) := has_f x.f2 0 (by omega) k (by omega)
            rw [if_pos (by omega), e0, decide_eq_true h5, hasZero_is]
            simp
          · rw [if_neg (by omega), decide_eq_false h5]
            simp
      · rw [if_neg h3, if_neg h3]
        by_cases h4 : x.f1 = 4
        · rw [if_pos h4, if_pos h4, toList_data]
        · rw [if_neg h4, if_neg h4]
theorem cut_rounds (s : ByteArray) (hs : s.size < 4611686018427387904) : ∀ (i k : Nat), i ≤ s.data.toList.length → (∀ j (h : j < s.data.toList.length), i ≤ j → s.data.toList[j] ≠ 47) → i + 1 ≤ k →
    ∃ a nm, shelfmarkref10_cut.l0 k s ((i : Int) - 1) = some (a, nm) ∧ nm.data.toList = (match cutSlash s.data.toList with | none => s.data.toList | some (_, x) => x) := by
  have hz : s.size = s.data.toList.length := Lib.size_eq s
  intro i
  induction i with
  | zero =>
    intro k h1 h2 h3
    obtain ⟨k, rfl⟩ : ∃ g, k = g + 1 := ⟨k - 1, by omega⟩
    rw [shelfmarkref10_cut.l0, if_neg (by omega)]
    refine ⟨_, _, rfl, ?_⟩
    rw [cutSlash_none _ (fun hm => by
      obtain ⟨j, hj, e⟩ := List.getElem_of_mem hm
      exact h2 j hj (by omega) e)]
  | succ i ih =>
    intro k h1 h2 h3
    obtain ⟨k, rfl⟩ : ∃ g, k = g + 1 := ⟨k - 1, by omega⟩
    have hi : i < s.data.toList.length := by omega
    rw [show (((i + 1 : Nat) : Int) - 1) = (i : Int) by omega, shelfmarkref10_cut.l0, if_pos (by omega), if_pos (by omega), if_pos (by omega), bt_is s i hi]
    by_cases hc : s.data.toList[i] = 47
    · rw [if_pos (by rw [hc]; rfl), if_pos (by omega), wrap_up i (by omega), if_pos (by omega), if_pos (by omega)]
      refine ⟨_, _, rfl, ?_⟩
      have hn : 47 ∉ s.data.toList.drop (i + 1) := by
        intro hm
        obtain ⟨j, hj, e⟩ := List.getElem_of_mem hm
        rw [List.length_drop] at hj
        rw [List.getElem_drop] at e
        exact h2 (i + 1 + j) (by omega) (by omega) e
      have hcut : cutSlash s.data.toList = some (s.data.toList.take i, s.data.toList.drop (i + 1)) := by
        have h5 := cutSlash_some (s.data.toList.take i) _ hn
        rw [← h5]
        congr 1
        conv => lhs; rw [← List.take_append_drop i s.data.toList]
        rw [List.drop_eq_getElem_cons hi, hc]
      rw [hcut, Int.toNat_natCast]
      simp only
      rw [ByteArray.data_extract, Array.toList_extract, List.extract_eq_take_drop]
      exact List.take_of_length_le (by rw [List.length_drop]; omega)
    · rw [if_neg (by
        intro e
        apply hc
        apply UInt8.toNat_inj.mp
        show _ = 47
        omega), show wrap64 ((i : Int) - 1) = (i : Int) - 1 by unfold wrap64; omega]
      exact ih k (by omega) (fun j hj hij => by
        by_cases e : j = i
        · subst e; exact hc
        · exact h2 j hj (by omega)) (by omega)
theorem cut_f (s : ByteArray) (hs : s.size < 4611686018427387904) (k : Nat) (hk : s.size + 2 ≤ k) : ∃ a nm, shelfmarkref10_cut.f k s = some (a, nm) ∧ nm.data.toList = (match cutSlash s.data.toList with | none => s.data.toList | some (_, x) => x) := by
  have hz : s.size = s.data.toList.length := Lib.size_eq s
  unfold shelfmarkref10_cut.f
  rw [show wrap64 ((s.size : Int) - 1) = (s.data.toList.length : Int) - 1 by unfold wrap64; omega]
  exact cut_rounds s hs s.data.toList.length k (Nat.le_refl _) (fun j hj h => by omega) (by omega)
end Go.Proofs.YtncokgdfkbgflaaDoor

namespace Go.Proofs.YtncokgdfkbgflaaDoor
open Go.RowKit Go.Proofs.YtncokgdfkbgflaaDoorW.PrintWords
set_option linter.unusedVariables false
set_option linter.unusedSimpArgs false
def headY (r : List UInt8) : Rd (List UInt8) := onSt (stOf (onSt (stOf (onSt (.ok r) (oneP [wOpen]))) (oneP [wType]))) (oneP [wRegular, wSymlink, wDir])
theorem must_two (a b : List UInt8) (r : List UInt8) : mustP [a, b] r = (oneP [a] r).then fun _ r => (oneP [b] r).then fun _ r => .ok ((), r) := rfl
theorem must_one (a : List UInt8) (r : List UInt8) : mustP [a] r = (oneP [a] r).then fun _ r => .ok ((), r) := rfl
theorem headY_is (r : List UInt8) : headY r = (mustP [wOpen, wType] r).then fun _ r => oneP [wRegular, wSymlink, wDir] r := by
  rw [must_two, headY]
  show onSt (stOf (onSt (stOf (oneP [wOpen] r)) (oneP [wType]))) _ = _
  cases oneP [wOpen] r with
  | error c => rfl
  | ok y =>
    obtain ⟨t, r1⟩ := y
    show onSt (stOf (oneP [wType] r1)) _ = ((oneP [wType] r1).then fun _ r => .ok ((), r)).then _
    cases oneP [wType] r1 with
    | error c => rfl
    | ok y => rfl
theorem nodeP_head (f : Nat) (path : List UInt8) (deep : Nat) (l : List Nd) (r : List UInt8) : nodeP (f + 1) path deep l r = (headY r).then fun t r => if t = wDir then dirP f path deep [] (l ++ [⟨path, 4, []⟩]) r
      else (if t = wRegular then fileP r else linkP r).then fun x r => (mustP [wShut] r).then fun _ r => .ok (l ++ [⟨path, x.1, x.2⟩], r) := by
  rw [headY_is, nodeP, Rd.then_then]
theorem longest_swap (a b : List UInt8) : longest [a, b] = longest [b, a] := by simp only [longest]; omega
theorem one_swap (a b : List UInt8) (r : List UInt8) : oneP [a, b] r = oneP [b, a] r := by
  rw [oneP, oneP, longest_swap]
  congr 1
  funext t r
  have : [a, b].contains t = [b, a].contains t := by simp [Bool.or_comm]
  rw [this]
def execY (y4 : Rd (List UInt8)) : Rd (List UInt8) := onSt (stOf (onSt (stOf (onSt (stOf y4) (oneP [[]]))) (oneP [wContents]))) (textP 65536)
theorem file_exec (r : List UInt8) (h : txtOf (oneP [wContents, wExec] r) = wExec) : fileP r = (execY (oneP [wContents, wExec] r)).then fun d r => .ok ((2, d), r) := by
  rw [fileP, one_swap wExec wContents]
  cases hy : oneP [wContents, wExec] r with
  | error c => rfl
  | ok y =>
    obtain ⟨t, r1⟩ := y
    rw [hy] at h
    have h' : t = wExec := h
    rw [Rd.then_ok, if_pos h', must_two]
    show _ = (onSt (stOf (onSt (stOf (oneP [[]] r1)) (oneP [wContents]))) (textP 65536)).then _
    cases oneP [[]] r1 with
    | error c => rfl
    | ok y =>
      obtain ⟨t2, r2⟩ := y
      show (((oneP [wContents] r2).then fun _ r => .ok ((), r)) : Rd Unit).then _ = (onSt (stOf (oneP [wContents] r2)) (textP 65536)).then _
      cases oneP [wContents] r2 with
      | error c => rfl
      | ok y => rfl
theorem file_plain (r : List UInt8) (h : txtOf (oneP [wContents, wExec] r) ≠ wExec) : fileP r = (onSt (stOf (oneP [wContents, wExec] r)) (textP 65536)).then fun d r => .ok ((1, d), r) := by
  rw [fileP, one_swap wExec wContents]
  cases hy : oneP [wContents, wExec] r with
  | error c => rfl
  | ok y =>
    obtain ⟨t, r1⟩ := y
    rw [hy] at h
    have h' : t ≠ wExec := h
    rw [Rd.then_ok, if_neg h']
    rfl
def linkY (r : List UInt8) : Rd (List UInt8) := onSt (stOf (onSt (.ok r) (oneP [wTarget]))) (textP 4096)
def goodY (y : Rd (List UInt8)) : Rd (List UInt8) := y.then fun d r => if okNd ⟨[], 3, d⟩ = true then .ok (d, r) else .error 4
theorem okNd_link (d : List UInt8) (h : d.length ≤ 4096) : okNd ⟨[], 3, d⟩ = true ↔ ¬ (d = [] ∨ hasZero d = true) := by
  have hk : okNd ⟨[], 3, d⟩ = (decide (1 ≤ d.length) && (decide (d.length ≤ 4096) && !hasZero d)) := by
    cases d with
    | nil => rfl
    | cons a d => simp [okNd]
  rw [hk, decide_eq_true h, Bool.true_and, Bool.and_eq_true, decide_eq_true_eq, Bool.not_eq_true']
  constructor
  · rintro ⟨h1, h2⟩ (e | e)
    · rw [e] at h1; simp at h1
    · rw [h2] at e; cases e
  · intro h2
    refine ⟨?_, ?_⟩
    · cases d with
      | nil => exact absurd (.inl rfl) h2
      | cons _ _ => simp
    · cases hz : hasZero d with
      | true => exact absurd (.inr hz) h2
      | false => rfl
theorem link_is (r : List UInt8) : linkP r = (goodY (linkY r)).then fun d r => .ok ((3, d), r) := by
  rw [linkP, must_one, linkY]
  show _ = (goodY (onSt (stOf (oneP [wTarget] r)) (textP 4096))).then _
  cases oneP [wTarget] r with
  | error c => rfl
  | ok y =>
    obtain ⟨t, r1⟩ := y
    show (textP 4096 r1).then _ = (goodY (textP 4096 r1)).then _
    cases hy : textP 4096 r1 with
    | error c => rfl
    | ok y =>
      obtain ⟨d, r2⟩ := y
      have hd := (text_sound hy).2
      rw [Rd.then_ok, goodY, Rd.then_ok]
      by_cases h : d = [] ∨ hasZero d = true
      · rw [if_pos h, if_neg (fun e => ((okNd_link d hd).1 e) h)]
        rfl
      · rw [if_neg h, if_pos ((okNd_link d hd).2 h)]
        rfl
theorem good_st (y : Rd (List UInt8)) : stOf (goodY y) = wrongS (!okNd ⟨[], 3, txtOf y⟩) (stOf y) := by
  cases y with
  | error c => rfl
  | ok y =>
    obtain ⟨d, r⟩ := y
    rw [goodY, Rd.then_ok]
    show _ = wrongS (!okNd ⟨[], 3, d⟩) (.ok r)
    cases okNd ⟨[], 3, d⟩ with
    | true => rfl
    | false => rfl
theorem fin_st (y : Rd (List UInt8)) (k : Int) (l : List Nd) (path : List UInt8) (X : Rd (List Nd)) (hX : X = (y.then fun d r => .ok ((k, d), r)).then fun (x : Int × List UInt8) r => (mustP [wShut] r).then fun _ r => .ok (l ++ [⟨path, x.1, x.2⟩], r)) :
    stOf (onSt (stOf y) (oneP [wShut])) = stOf X ∧ (∀ l1 r1, X = .ok (l1, r1) → l ++ [⟨path, k, txtOf y⟩] = l1) := by
  subst hX
  cases y with
  | error c => exact ⟨rfl, fun _ _ h => by cases h⟩
  | ok y =>
    obtain ⟨d, r⟩ := y
    show stOf (oneP [wShut] r) = stOf (((oneP [wShut] r).then fun _ r => .ok ((), r)).then fun _ r => .ok (l ++ [⟨path, k, d⟩], r)) ∧ (∀ l1 r1, (((oneP [wShut] r).then fun _ r => .ok ((), r)).then fun _ r => .ok (l ++ [⟨path, k, d⟩], r)) = .ok (l1, r1) → l ++ [⟨path, k, d⟩] = l1)
    cases oneP [wShut] r with
    | error c => exact ⟨rfl, fun _ _ h => by cases h⟩
    | ok y => exact ⟨rfl, fun _ _ h => by cases h; rfl⟩
theorem good_txt (y : Rd (List UInt8)) (k : Int) (l : List Nd) (path : List UInt8) (X : Rd (List Nd)) (hX : X = ((goodY y).then fun d r => .ok ((k, d), r)).then fun (x : Int × List UInt8) r => (mustP [wShut] r).then fun _ r => .ok (l ++ [⟨path, x.1, x.2⟩], r)) :
    (∀ l1 r1, X = .ok (l1, r1) → l ++ [⟨path, k, txtOf y⟩] = l1) := by
  intro l1 r1 h1
  have h2 := (fin_st (goodY y) k l path X hX).2 l1 r1 h1
  rw [← h2]
  cases y with
  | error c => rw [hX] at h1; cases h1
  | ok y =>
    obtain ⟨d, r⟩ := y
    rw [goodY, Rd.then_ok]
    cases ho : okNd ⟨[], 3, d⟩ with
    | true => rfl
    | false =>
      rw [hX, goodY, Rd.then_ok, ho] at h1
      cases h1
theorem txt_ok {y : Rd (List UInt8)} {t : List UInt8} (h : txtOf y = t) (ht : t ≠ []) : ∃ r, y = .ok (t, r) := by
  cases y with
  | error c => exact absurd h.symm ht
  | ok y => obtain ⟨t1, r⟩ := y; exact ⟨r, by rw [show t1 = t from h]⟩
end Go.Proofs.YtncokgdfkbgflaaDoor

namespace Go.Proofs.YtncokgdfkbgflaaDoor
open Go.RowKit Go.Shelf Go.Lib Go.Proofs.YtncokgdfkbgflaaDoorW.PrintWords Go.Proofs.YtncokgdfkbgflaaDoorW.PrintMore P
set_option linter.unusedVariables false
set_option linter.unusedSimpArgs false
def NfS (B g : Nat) (s : ByteArray) (w : World) (X : Rd (List Nd)) (e : Ending) (w' : World) : Prop :=
  e = .returned (.tuple #[]) ∧ ∃ l', RfAt B g s (stOf X) l' w' ∧ RfStep (some 68) B g w w' ∧ (∀ l1 r1, X = .ok (l1, r1) → l' = l1)
def NodeRF (f : Nat) : Prop := ∀ (B g : Nat) (s : ByteArray) (r : List UInt8) (l : List Nd) (w : World) (path : List UInt8) (deep : Nat), RfAt B g s (.ok r) l w → B ≤ w.heap.size → l.length < 256 → slashes (headOf path) = deep → deep ≤ 64 → path.length ≤ 256 * deep → r.length < f →
  Calls Tryd.prog 44 #[.pointer (some ⟨g, 0, none⟩), .string (bsB path)] w (NfS B g s w (nodeP f path deep l r))
def DirRF (f : Nat) : Prop := ∀ (B g : Nat) (s : ByteArray) (r : List UInt8) (l : List Nd) (w : World) (path : List UInt8) (deep : Nat), RfAt B g s (.ok r) l w → B ≤ w.heap.size → l.length ≤ 256 → slashes (headOf path) = deep → deep ≤ 64 → path.length ≤ 256 * deep → r.length < f →
  Calls Tryd.prog 67 #[.pointer (some ⟨g, 0, none⟩), .string (bsB path)] w (NfS B g s w (dirP f path deep [] l r))
theorem one_new (B g : Nat) (s : ByteArray) (x : St) (l : List Nd) (w : World) (h : RfAt B g s x l w) (hB : B ≤ w.heap.size) (zs : List (List UInt8)) (hn : zs.length ≤ 1000) (hz : ∀ z ∈ zs, z.length ≤ 4096) (cs : Array Value) (hcs : cs = (zs.map fun z => Value.string (bsB z)).toArray) (n : Nat) (hN : n = zs.length) :
    Calls Tryd.prog 43 #[.pointer (some ⟨g, 0, none⟩), .slice (some ⟨w.heap.size, 0, none⟩) n n] (w.alloc (.cells cs 9)) fun e w' => e = .returned (.string (bsB (txtOf (onSt x (oneP zs))))) ∧ RfAt B g s (stOf (onSt x (oneP zs))) l w' ∧ RfStep none B g w w' := by
  have hby : bys (zs.map bsB) = zs := by
    rw [bys, List.map_map]
    conv => rhs; rw [← List.map_id zs]
    apply List.map_congr_left
    intro a _
    simp [bsB]
  have := one_rf B g s x l (w.alloc (.cells cs 9)) (h.alloc _) w.heap.size n (zs.map bsB) (by rw [blk_new, hcs, List.map_map]; rfl) (by rw [List.length_map]; exact hn) (fun z hz2 => by
    obtain ⟨z2, h2, rfl⟩ := List.mem_map.1 hz2
    have := hz z2 h2
    simpa [bsB, ByteArray.size] using this) (by rw [List.length_map, hN]; exact Nat.le_refl _)
  rw [hby, List.length_map, ← hN] at this
  exact this.mono fun e w' ⟨h1, h2, h3⟩ => ⟨h1, h2, ((RfStep.refl none B g w).alloc hB _).trans h3⟩
theorem RfAt.appended {B g at_ : Nat} {E : Int} {s : ByteArray} {x : St} {l l1 : List Nd} {w w1 : World} {v v1 : Value} (hb : w.heap[g]? = some (.cells (rfC s at_ v E) 76 (0, 0))) (hB : B ≤ g) (hx : RfSt s at_ E x) (hsm : s.size < 1000000000)
    (ho : OwnRow NdR 68 3 w B v l) (h1 : OwnRow NdR 68 3 w1 B v1 l1) (hbl : Below B w w1) (hg : w.grownBy w1 v.ownBlock) (hn : v1.ownBlock = v.ownBlock ∨ ∃ b, v1.ownBlock = some b ∧ w.heap.size ≤ b) :
    RfAt B g s x l1 (w1.setCell ⟨g, 2, none⟩ v1) ∧ RfStep (some 68) B g w (w1.setCell ⟨g, 2, none⟩ v1) := by
  have hne := ho.ne_block hb (by decide)
  have hb1 : w1.heap[g]? = some (.cells (rfC s at_ v E) 76 (0, 0)) := blk_grown hb hg hne
  have hgl := blk_lt hb
  have hne1 : v1.ownBlock ≠ some g := by
    rcases hn with hn | ⟨b, hn, hbb⟩
    · rw [hn]; exact fun e => hne e.symm
    · rw [hn]; intro e; injection e with e; omega
  refine ⟨⟨hB, hsm, at_, E, v1, blk_put hb1 2 v1 rfl, hx, own_cong h1 fun k hk => Below.heap_setCell _ _ _ _ (fun e => hne1 (by rw [hk, e]))⟩, ⟨hbl.setCell (p := ⟨g, 2, none⟩) hB v1, fun k o hk hkg he => ?_, fun e => by cases e⟩⟩
  refine (Below.heap_setCell w1 ⟨g, 2, none⟩ v1 k hkg).trans (blk_grown hk hg fun e => ?_)
  obtain ⟨inner, hi, _⟩ := ho
  obtain ⟨cs, hc⟩ := own_typed hi k e.symm
  rw [hc] at hk
  cases hk
  exact he _ _ _ rfl rfl
theorem RfStep.belowOf {B g : Nat} {w w' : World} (h : Below w.heap.size w w') (hB : B ≤ w.heap.size) (hg : g < w.heap.size) : RfStep none B g w w' :=
  ⟨h.mono hB, fun k o hk _ _ => blk_below hk h, fun _ s a v E hv => ⟨a, E, blk_below hv h⟩⟩
theorem RfAt.belowOf {B g : Nat} {s : ByteArray} {x : St} {l : List Nd} {w w' : World} (hr : RfAt B g s x l w) (h : Below w.heap.size w w') : RfAt B g s x l w' := hr.cong fun _ _ _ _ hk _ => blk_below hk h
set_option maxRecDepth 100000 in
set_option maxHeartbeats 8000000 in
theorem nodef_rd (f : Nat) (hdir : DirRF f) : NodeRF (f + 1) := by
  intro B g s r l w path deep h hB hl hsl hd hp hf
  have H1 := Aside0.mk (one_new B g s _ l w h hB [wOpen] (by decide) (by decide) #[.string ⟨#[40]⟩] rfl 1 rfl)
  have HBB := Aside0.mk hB
  have HDIR := Aside0.mk hdir
  have HF := Aside0.mk hf
  have HSL := Aside0.mk hsl
  clear h hB hdir hf hsl
  go_enter Tryd.func44, Tryd.ntmps44
  go_wp2_with (go_at_call 43; refine H1.out.mono ?_)
  rintro e w1 ⟨rfl, hr1, hst1⟩
  have hB1 : B ≤ w1.heap.size := Nat.le_trans HBB.out hst1.below.size
  have H2 := Aside0.mk (one_new B g s _ l w1 hr1 hB1 [wType] (by decide) (by decide) #[.string ⟨#[116, 121, 112, 101]⟩] rfl 1 rfl)
  have HST1 := Aside0.mk hst1
  clear hr1 hst1 hB1
  go_wp2_with (go_at_call 43; refine H2.out.mono ?_)
  rintro e w2 ⟨rfl, hr2, hst2⟩
  have hB2 : B ≤ w2.heap.size := Nat.le_trans HBB.out (HST1.out.trans hst2).below.size
  have H3 := Aside0.mk (one_new B g s _ l w2 hr2 hB2 [wRegular, wSymlink, wDir] (by decide) (by decide) #[.string ⟨#[114, 101, 103, 117, 108, 97, 114]⟩, .string ⟨#[115, 121, 109, 108, 105, 110, 107]⟩, .string ⟨#[100, 105, 114, 101, 99, 116, 111, 114, 121]⟩] rfl 3 rfl)
  have HST2 := Aside0.mk (HST1.out.trans hst2)
  clear hr2 hst2 hB2
  go_wp2_with (go_at_call 43; refine H3.out.mono ?_)
  change ∀ (e : Ending) (w3 : World), (e = .returned (.string (bsB (txtOf (headY r)))) ∧ RfAt B g s (stOf (headY r)) l w3 ∧ RfStep none B g w2 w3) → _
  rintro e w3 ⟨rfl, hr3, hst3⟩
  have hst3' := HST2.out.trans hst3
  have hB3 : B ≤ w3.heap.size := Nat.le_trans HBB.out hst3'.below.size
  have HB3 := Aside0.mk hB3
  have HR3 := Aside0.mk hr3
  have HST3 := Aside0.mk hst3'
  clear hr3 hst3 hst3' hB3 H1 H2 H3
  obtain ⟨y, hy⟩ : ∃ y, y = headY r := ⟨_, rfl⟩
  rw [← hy] at HR3 ⊢
  have HY := Aside0.mk hy
  clear hy
  have hmix : Tryd.prog.follows .mixedOrders = true := by kernel_rfl
  by_cases hA : txtOf y = wRegular
  · have a1 : ((bsB (txtOf y)).toList == [114, 101, 103, 117, 108, 97, 114]) = true := by rw [toList_data]; show (txtOf y == wRegular) = true; rw [hA]; rfl
    have a3 : (bsB (txtOf y)).toList = [114, 101, 103, 117, 108, 97, 114] := by rw [toList_data]; exact hA
    have d1 : ((bsB (txtOf y)).toList == [100, 105, 114, 101, 99, 116, 111, 114, 121]) = false := by rw [toList_data]; show (txtOf y == wDir) = false; rw [hA]; decide
    have d3 : ¬ (bsB (txtOf y)).toList = [100, 105, 114, 101, 99, 116, 111, 114, 121] := by rw [toList_data]; show ¬ txtOf y = wDir; rw [hA]; decide
    obtain ⟨r3, hy3⟩ := txt_ok hA (by decide)
    have HY3 := Aside0.mk hy3
    have HA := Aside0.mk hA
    clear hA hy3
    have HNP : Aside0 (nodeP (f + 1) path deep l r = (fileP r3).then fun x r => (mustP [wShut] r).then fun _ r => .ok (l ++ [⟨path, x.1, x.2⟩], r)) := ⟨by rw [nodeP_head, ← HY.out, HY3.out, Rd.then_ok, if_neg (by decide), if_pos rfl]⟩
    obtain ⟨wa, hwa⟩ : ∃ wa, wa = w3.alloc (.cells #[.string (bsB path), .int .i64 1, .string (bsB [])] 68) := ⟨_, rfl⟩
    have hna := NodeAf.new HR3.out HB3.out ⟨path, 1, []⟩
    have hra := HR3.out.alloc (.cells #[.string (bsB path), .int .i64 1, .string (bsB [])] 68)
    have hsta := HST3.out.alloc HB3.out (.cells #[.string (bsB path), .int .i64 1, .string (bsB [])] 68)
    rw [← hwa] at hna hra hsta
    have hBa : B ≤ wa.heap.size := Nat.le_trans HBB.out hsta.below.size
    rw [HY3.out] at hra
    have hone := one_new B g s _ l wa hra hBa [wContents, wExec] (by decide) (by decide) #[.string ⟨#[99, 111, 110, 116, 101, 110, 116, 115]⟩, .string ⟨#[101, 120, 101, 99, 117, 116, 97, 98, 108, 101]⟩] rfl 2 rfl
    have HRA := Aside0.mk hra
    have HNA := Aside0.mk hna
    have HSTA := Aside0.mk hsta
    rw [hwa] at hone
    have hsz : (w3.alloc (.cells #[.string (bsB path), .int .i64 1, .string (bsB [])] 68)).heap.size = w3.heap.size + 1 := by simp
    rw [hsz] at hone
    have HONE := Aside0.mk hone
    clear hna hra hsta hone hsz
    go_wp2_with (go_at_call 43; refine HONE.out.mono ?_)
    rw [← hwa]
    change ∀ (e : Ending) (w5 : World), (e = .returned (.string (bsB (txtOf (oneP [wContents, wExec] r3)))) ∧ RfAt B g s (stOf (oneP [wContents, wExec] r3)) l w5 ∧ RfStep none B g wa w5) → _
    rintro e w5 ⟨rfl, hr5, hst5⟩
    obtain ⟨y4, hy4⟩ : ∃ y4, y4 = oneP [wContents, wExec] r3 := ⟨_, rfl⟩
    rw [← hy4] at hr5 ⊢
    have HY4 := Aside0.mk hy4
    have hn5 := HNA.out.step HRA.out hst5
    have HR5 := Aside0.mk hr5
    have HN5 := Aside0.mk hn5
    have HST5 := Aside0.mk (HSTA.out.trans hst5)
    have HK : Aside0 (w.heap.size ≤ w3.heap.size) := ⟨HST3.out.below.size⟩
    have fk1 := blk_frozen hn5.blk 1
    have ck1 : w5.cell? ⟨w3.heap.size, 1, none⟩ = some (.int .i64 1) := by rw [blk_cell hn5.blk]; rfl
    clear hr5 hst5 hn5 hy4 hwa HONE
    by_cases hE : txtOf y4 = wExec
    · have e1 : ((bsB (txtOf y4)).toList == [101, 120, 101, 99, 117, 116, 97, 98, 108, 101]) = true := by rw [toList_data]; show (txtOf y4 == wExec) = true; rw [hE]; rfl
      have e3 : (bsB (txtOf y4)).toList = [101, 120, 101, 99, 117, 116, 97, 98, 108, 101] := by rw [toList_data]; exact hE
      have HE := Aside0.mk hE
      clear hE
      have hnb := HN5.out.set (i := 1) (n' := ⟨path, 2, []⟩) (.int .i64 2) rfl
      have hrb := HR5.out.node (i := 1) HN5.out (.int .i64 2)
      have hstb := HST5.out.setOwn HBB.out (p := ⟨w3.heap.size, 1, none⟩) HK.out (.int .i64 2)
      have hszb : (w5.setCell ⟨w3.heap.size, 1, none⟩ (.int .i64 2)).heap.size = w5.heap.size := by simp [World.setCell]
      have hBb : B ≤ (w5.setCell ⟨w3.heap.size, 1, none⟩ (.int .i64 2)).heap.size := Nat.le_trans HBB.out hstb.below.size
      have hone := one_new B g s _ l _ hrb hBb [[]] (by decide) (by decide) #[.string ⟨#[]⟩] rfl 1 rfl
      rw [hszb] at hone
      have HONE := Aside0.mk hone
      have HNB := Aside0.mk hnb
      have HRB := Aside0.mk hrb
      have HSTB := Aside0.mk hstb
      clear hnb hrb hstb hszb hBb hone
      go_wp2_with (go_at_call 43; refine HONE.out.mono ?_)
      rintro e w6 ⟨rfl, hr6, hst6⟩
      have hn6 := HNB.out.step HRB.out hst6
      have hB6 : B ≤ w6.heap.size := Nat.le_trans HBB.out (HSTB.out.trans hst6).below.size
      have HONE2 := Aside0.mk (one_new B g s _ l w6 hr6 hB6 [wContents] (by decide) (by decide) #[.string ⟨#[99, 111, 110, 116, 101, 110, 116, 115]⟩] rfl 1 rfl)
      have HN6 := Aside0.mk hn6
      have HR6 := Aside0.mk hr6
      have HST6 := Aside0.mk (HSTB.out.trans hst6)
      clear hr6 hst6 hn6 hB6 HONE
      go_wp2_with (go_at_call 43; refine HONE2.out.mono ?_)
      rintro e w7 ⟨rfl, hr7, hst7⟩
      have hn7 := HN6.out.step HR6.out hst7
      have HT := Aside0.mk (text_rf B g s _ 65536 l w7 hr7 (by decide))
      have HN7 := Aside0.mk hn7
      have HR7 := Aside0.mk hr7
      have HST7 := Aside0.mk (HST6.out.trans hst7)
      clear hr7 hst7 hn7 HONE2
      go_wp2_with (go_at_call 65; refine HT.out.mono ?_)
      change ∀ (e : Ending) (w8 : World), (e = .returned (.string (bsB (txtOf (execY y4)))) ∧ RfAt B g s (stOf (execY y4)) l w8 ∧ RfStep none B g w7 w8) → _
      rintro e w8 ⟨rfl, hr8, hst8⟩
      obtain ⟨y8, hy8⟩ : ∃ y8, y8 = execY y4 := ⟨_, rfl⟩
      rw [← hy8] at hr8 ⊢
      have HFI : Aside0 (nodeP (f + 1) path deep l r = (y8.then fun d r => .ok ((2, d), r)).then fun (x : Int × List UInt8) r => (mustP [wShut] r).then fun _ r => .ok (l ++ [⟨path, x.1, x.2⟩], r)) := ⟨by rw [HNP.out, file_exec r3 (by rw [← HY4.out]; exact HE.out), ← HY4.out, hy8]⟩
      have hn8 := HN7.out.step HR7.out hst8
      have fk2 := blk_frozen hn8.blk 2
      have ck2 : w8.cell? ⟨w3.heap.size, 2, none⟩ = some (.string (bsB [])) := by rw [blk_cell hn8.blk]; rfl
      have hn4 := hn8.set (i := 2) (n' := ⟨path, 2, txtOf y8⟩) (.string (bsB (txtOf y8))) rfl
      have hr4 := hr8.node (i := 2) hn8 (.string (bsB (txtOf y8)))
      have hst4 := (HST7.out.trans hst8).setOwn HBB.out (p := ⟨w3.heap.size, 2, none⟩) HK.out (.string (bsB (txtOf y8)))
      obtain ⟨w4, hw4⟩ : ∃ w4, w4 = w8.setCell ⟨w3.heap.size, 2, none⟩ (.string (bsB (txtOf y8))) := ⟨_, rfl⟩
      rw [← hw4] at hn4 hr4 hst4
      have HN4 := Aside0.mk hn4
      have HR4 := Aside0.mk hr4
      have HST4 := Aside0.mk hst4
      clear hr8 hst8 hn8 hn4 hr4 hst4 hy8 HT
      go_wp2
      rw [← hw4]
      clear hw4
      obtain ⟨at4, E4, v4, hb4, hx4, ho4⟩ := HR4.out.blk
      obtain ⟨A4, c4, rfl, hc4⟩ := ho4.slice_
      have g2 : w4.cell? ⟨g, 2, none⟩ = some (.slice A4 l.length c4) := by rw [blk_cell hb4]; rfl
      have g3 : ∀ o, (w4.drew.alloc o).cell? ⟨g, 2, none⟩ = some (.slice A4 l.length c4) := fun o => by rw [blk_cell (blk_alloc (show w4.drew.heap[g]? = _ from hb4) o)]; rfl
      have g4 : ∀ o, (w4.alloc o).drew.cell? ⟨g, 2, none⟩ = some (.slice A4 l.length c4) := g3
      have n0 : w4.cell? ⟨w3.heap.size, 0, none⟩ = some (.string (bsB path)) := by rw [blk_cell HN4.out.blk]; rfl
      have n1 : w4.cell? ⟨w3.heap.size, 1, none⟩ = some (.int .i64 2) := by rw [blk_cell HN4.out.blk]; rfl
      have n2 : w4.cell? ⟨w3.heap.size, 2, none⟩ = some (.string (bsB (txtOf y8))) := by rw [blk_cell HN4.out.blk]; rfl
      have HB4 : Aside0 (B ≤ w4.heap.size) := ⟨Nat.le_trans HBB.out HST4.out.below.size⟩
      have HBK4 := Aside0.mk hb4
      have HX4 := Aside0.mk hx4
      have HO4d : Aside0 (OwnRow NdR 68 3 w4.drew B (.slice A4 l.length c4) l) := ⟨own_cong ho4 fun _ _ => rfl⟩
      have HB4d : Aside0 (B ≤ w4.drew.heap.size) := ⟨HB4.out⟩
      clear hb4 hx4 ho4
      go_region_law (first | (refine OwnRow.append_step (w0 := w4.drew) (W := w4.drew) B rfl (.tmp 54) (.tmp 56) 23 68 (.agg #[(.string ⟨#[]⟩), (.int .i64 0), (.string ⟨#[]⟩)]) 3 40 rfl Tryd.underlying23 info68 rfl (by decide) (by decide) (.slice A4 l.length c4) l ⟨path, 2, txtOf y8⟩ [.string (bsB path), .int .i64 2, .string (bsB (txtOf y8))] rfl rfl rfl rfl ?aH HO4d.out (Below.refl _ _) HB4d.out ?aL ?_; (case aH => intro u hu; simp only [List.mem_cons, List.not_mem_nil, or_false] at hu; rcases hu with rfl | rfl | rfl; all_goals rfl); (case aL => omega); intro v5 wz ho5 hb5 hg5 hn5; obtain ⟨A5, c5, hv5, hc5⟩ := ho5.slice_; rw [List.length_append, List.length_singleton] at hv5; subst hv5; have gg5 := blk_frozen (blk_grown (show w4.drew.heap[g]? = _ from HBK4.out) hg5 (HO4d.out.ne_block (show w4.drew.heap[g]? = _ from HBK4.out) (by decide))) 2; have gc5 : wz.cell? ⟨g, 2, none⟩ = some (.slice A4 l.length c4) := (blk_cell (blk_grown (show w4.drew.heap[g]? = _ from HBK4.out) hg5 (HO4d.out.ne_block (show w4.drew.heap[g]? = _ from HBK4.out) (by decide))) 2).trans rfl; have HQ5 := Aside0.mk (And.intro ho5 (And.intro hb5 (And.intro hg5 hn5))); clear ho5 hb5 hg5 hn5))
      all_goals
        obtain ⟨ho5, hb5, hg5, hn5⟩ := HQ5.out
        obtain ⟨hr6, hst6⟩ := RfAt.appended (w := w4.drew) (show w4.drew.heap[g]? = _ from HBK4.out) HR4.out.base HX4.out HR4.out.small HO4d.out ho5 hb5 hg5 hn5
        obtain ⟨w6, hw6⟩ : ∃ w6, w6 = wz.setCell ⟨g, 2, none⟩ (.slice A5 (l.length + 1) c5) := ⟨_, rfl⟩
        rw [← hw6] at hr6 hst6 ⊢
        have HR6 := Aside0.mk hr6
        have HST6 := Aside0.mk (((HST4.out.drew).weak).trans hst6)
        have HB6 : Aside0 (B ≤ w6.heap.size) := ⟨Nat.le_trans HBB.out HST6.out.below.size⟩
        clear hr6 hst6 hw6 ho5 hb5 hg5 hn5 g2 g3 g4 n0 n1 n2 gg5 gc5
        have H7 := Aside0.mk (one_new B g s _ _ w6 HR6.out HB6.out [wShut] (by decide) (by decide) #[.string ⟨#[41]⟩] rfl 1 rfl)
        go_wp2_with (go_at_call 43; refine H7.out.mono ?_)
        rintro e w7 ⟨rfl, hr7, hst7⟩
        have HR7 := Aside0.mk hr7
        have HST7 := Aside0.mk (HST6.out.trans hst7.weak)
        clear hr7 hst7 H7
        go_wp2
        first | go_end0 | ((try simp only [Exit.inBlock, Exit.then]); refine bodyPost_ret (results_none rfl _ _ _) rfl ?_)
        obtain ⟨f1, f2⟩ := fin_st y8 2 l path _ HFI.out
        exact ⟨rfl, _, by rw [← f1]; exact HR7.out, HST7.out, f2⟩
    · have e1 : ((bsB (txtOf y4)).toList == [101, 120, 101, 99, 117, 116, 97, 98, 108, 101]) = false := by rw [toList_data]; exact beq_eq_false_iff_ne.2 hE
      have e3 : ¬ (bsB (txtOf y4)).toList = [101, 120, 101, 99, 117, 116, 97, 98, 108, 101] := by rw [toList_data]; exact hE
      have HE := Aside0.mk hE
      clear hE
      have HN7 := HN5
      have HR7 := HR5
      have HST7 := HST5
      obtain ⟨w7, hw7⟩ : ∃ w7, w7 = w5 := ⟨_, rfl⟩
      have HT := Aside0.mk (text_rf B g s _ 65536 l w5 HR5.out (by decide))
      go_wp2_with (go_at_call 65; refine HT.out.mono ?_)
      rintro e w8 ⟨rfl, hr8, hst8⟩
      obtain ⟨y8, hy8⟩ : ∃ y8, y8 = onSt (stOf y4) (textP 65536) := ⟨_, rfl⟩
      rw [← hy8] at hr8 ⊢
      have HFI : Aside0 (nodeP (f + 1) path deep l r = (y8.then fun d r => .ok ((1, d), r)).then fun (x : Int × List UInt8) r => (mustP [wShut] r).then fun _ r => .ok (l ++ [⟨path, x.1, x.2⟩], r)) := ⟨by rw [HNP.out, file_plain r3 (by rw [← HY4.out]; exact HE.out), ← HY4.out, hy8]⟩
      have hn8 := HN7.out.step HR7.out hst8
      have fk2 := blk_frozen hn8.blk 2
      have ck2 : w8.cell? ⟨w3.heap.size, 2, none⟩ = some (.string (bsB [])) := by rw [blk_cell hn8.blk]; rfl
      have hn4 := hn8.set (i := 2) (n' := ⟨path, 1, txtOf y8⟩) (.string (bsB (txtOf y8))) rfl
      have hr4 := hr8.node (i := 2) hn8 (.string (bsB (txtOf y8)))
      have hst4 := (HST7.out.trans hst8).setOwn HBB.out (p := ⟨w3.heap.size, 2, none⟩) HK.out (.string (bsB (txtOf y8)))
      obtain ⟨w4, hw4⟩ : ∃ w4, w4 = w8.setCell ⟨w3.heap.size, 2, none⟩ (.string (bsB (txtOf y8))) := ⟨_, rfl⟩
      rw [← hw4] at hn4 hr4 hst4
      have HN4 := Aside0.mk hn4
      have HR4 := Aside0.mk hr4
      have HST4 := Aside0.mk hst4
      clear hr8 hst8 hn8 hn4 hr4 hst4 hy8 HT
      go_wp2
      rw [← hw4]
      clear hw4
      obtain ⟨at4, E4, v4, hb4, hx4, ho4⟩ := HR4.out.blk
      obtain ⟨A4, c4, rfl, hc4⟩ := ho4.slice_
      have g2 : w4.cell? ⟨g, 2, none⟩ = some (.slice A4 l.length c4) := by rw [blk_cell hb4]; rfl
      have g3 : ∀ o, (w4.drew.alloc o).cell? ⟨g, 2, none⟩ = some (.slice A4 l.length c4) := fun o => by rw [blk_cell (blk_alloc (show w4.drew.heap[g]? = _ from hb4) o)]; rfl
      have g4 : ∀ o, (w4.alloc o).drew.cell? ⟨g, 2, none⟩ = some (.slice A4 l.length c4) := g3
      have n0 : w4.cell? ⟨w3.heap.size, 0, none⟩ = some (.string (bsB path)) := by rw [blk_cell HN4.out.blk]; rfl
      have n1 : w4.cell? ⟨w3.heap.size, 1, none⟩ = some (.int .i64 1) := by rw [blk_cell HN4.out.blk]; rfl
      have n2 : w4.cell? ⟨w3.heap.size, 2, none⟩ = some (.string (bsB (txtOf y8))) := by rw [blk_cell HN4.out.blk]; rfl
      have HB4 : Aside0 (B ≤ w4.heap.size) := ⟨Nat.le_trans HBB.out HST4.out.below.size⟩
      have HBK4 := Aside0.mk hb4
      have HX4 := Aside0.mk hx4
      have HO4d : Aside0 (OwnRow NdR 68 3 w4.drew B (.slice A4 l.length c4) l) := ⟨own_cong ho4 fun _ _ => rfl⟩
      have HB4d : Aside0 (B ≤ w4.drew.heap.size) := ⟨HB4.out⟩
      clear hb4 hx4 ho4
      go_region_law (first | (refine OwnRow.append_step (w0 := w4.drew) (W := w4.drew) B rfl (.tmp 54) (.tmp 56) 23 68 (.agg #[(.string ⟨#[]⟩), (.int .i64 0), (.string ⟨#[]⟩)]) 3 40 rfl Tryd.underlying23 info68 rfl (by decide) (by decide) (.slice A4 l.length c4) l ⟨path, 1, txtOf y8⟩ [.string (bsB path), .int .i64 1, .string (bsB (txtOf y8))] rfl rfl rfl rfl ?aH HO4d.out (Below.refl _ _) HB4d.out ?aL ?_; (case aH => intro u hu; simp only [List.mem_cons, List.not_mem_nil, or_false] at hu; rcases hu with rfl | rfl | rfl; all_goals rfl); (case aL => omega); intro v5 wz ho5 hb5 hg5 hn5; obtain ⟨A5, c5, hv5, hc5⟩ := ho5.slice_; rw [List.length_append, List.length_singleton] at hv5; subst hv5; have gg5 := blk_frozen (blk_grown (show w4.drew.heap[g]? = _ from HBK4.out) hg5 (HO4d.out.ne_block (show w4.drew.heap[g]? = _ from HBK4.out) (by decide))) 2; have gc5 : wz.cell? ⟨g, 2, none⟩ = some (.slice A4 l.length c4) := (blk_cell (blk_grown (show w4.drew.heap[g]? = _ from HBK4.out) hg5 (HO4d.out.ne_block (show w4.drew.heap[g]? = _ from HBK4.out) (by decide))) 2).trans rfl; have HQ5 := Aside0.mk (And.intro ho5 (And.intro hb5 (And.intro hg5 hn5))); clear ho5 hb5 hg5 hn5))
      all_goals
        obtain ⟨ho5, hb5, hg5, hn5⟩ := HQ5.out
        obtain ⟨hr6, hst6⟩ := RfAt.appended (w := w4.drew) (show w4.drew.heap[g]? = _ from HBK4.out) HR4.out.base HX4.out HR4.out.small HO4d.out ho5 hb5 hg5 hn5
        obtain ⟨w6, hw6⟩ : ∃ w6, w6 = wz.setCell ⟨g, 2, none⟩ (.slice A5 (l.length + 1) c5) := ⟨_, rfl⟩
        rw [← hw6] at hr6 hst6 ⊢
        have HR6 := Aside0.mk hr6
        have HST6 := Aside0.mk (((HST4.out.drew).weak).trans hst6)
        have HB6 : Aside0 (B ≤ w6.heap.size) := ⟨Nat.le_trans HBB.out HST6.out.below.size⟩
        clear hr6 hst6 hw6 ho5 hb5 hg5 hn5 g2 g3 g4 n0 n1 n2 gg5 gc5
        have H7 := Aside0.mk (one_new B g s _ _ w6 HR6.out HB6.out [wShut] (by decide) (by decide) #[.string ⟨#[41]⟩] rfl 1 rfl)
        go_wp2_with (go_at_call 43; refine H7.out.mono ?_)
        rintro e w7 ⟨rfl, hr7, hst7⟩
        have HR7 := Aside0.mk hr7
        have HST7 := Aside0.mk (HST6.out.trans hst7.weak)
        clear hr7 hst7 H7
        go_wp2
        first | go_end0 | ((try simp only [Exit.inBlock, Exit.then]); refine bodyPost_ret (results_none rfl _ _ _) rfl ?_)
        obtain ⟨f1, f2⟩ := fin_st y8 1 l path _ HFI.out
        exact ⟨rfl, _, by rw [← f1]; exact HR7.out, HST7.out, f2⟩
  have a1 : ((bsB (txtOf y)).toList == [114, 101, 103, 117, 108, 97, 114]) = false := by rw [toList_data]; exact beq_eq_false_iff_ne.2 hA
  have a3 : ¬ (bsB (txtOf y)).toList = [114, 101, 103, 117, 108, 97, 114] := by rw [toList_data]; exact hA
  have HA := Aside0.mk hA
  clear hA
  by_cases hS : txtOf y = wSymlink
  · have b1 : ((bsB (txtOf y)).toList == [115, 121, 109, 108, 105, 110, 107]) = true := by rw [toList_data]; show (txtOf y == wSymlink) = true; rw [hS]; rfl
    have b3 : (bsB (txtOf y)).toList = [115, 121, 109, 108, 105, 110, 107] := by rw [toList_data]; exact hS
    have d1 : ((bsB (txtOf y)).toList == [100, 105, 114, 101, 99, 116, 111, 114, 121]) = false := by rw [toList_data]; show (txtOf y == wDir) = false; rw [hS]; decide
    have d3 : ¬ (bsB (txtOf y)).toList = [100, 105, 114, 101, 99, 116, 111, 114, 121] := by rw [toList_data]; show ¬ txtOf y = wDir; rw [hS]; decide
    obtain ⟨r3, hy3⟩ := txt_ok hS (by decide)
    have HY3 := Aside0.mk hy3
    clear hS hy3
    have HNP : Aside0 (nodeP (f + 1) path deep l r = (linkP r3).then fun x r => (mustP [wShut] r).then fun _ r => .ok (l ++ [⟨path, x.1, x.2⟩], r)) := ⟨by rw [nodeP_head, ← HY.out, HY3.out, Rd.then_ok, if_neg (by decide), if_neg (by decide)]⟩
    obtain ⟨wa, hwa⟩ : ∃ wa, wa = w3.alloc (.cells #[.string (bsB path), .int .i64 3, .string (bsB [])] 68) := ⟨_, rfl⟩
    have hna := NodeAf.new HR3.out HB3.out ⟨path, 3, []⟩
    have hra := HR3.out.alloc (.cells #[.string (bsB path), .int .i64 3, .string (bsB [])] 68)
    have hsta := HST3.out.alloc HB3.out (.cells #[.string (bsB path), .int .i64 3, .string (bsB [])] 68)
    rw [← hwa] at hna hra hsta
    have hBa : B ≤ wa.heap.size := Nat.le_trans HBB.out hsta.below.size
    rw [HY3.out] at hra
    have hone := one_new B g s _ l wa hra hBa [wTarget] (by decide) (by decide) #[.string ⟨#[116, 97, 114, 103, 101, 116]⟩] rfl 1 rfl
    have HRA := Aside0.mk hra
    have HNA := Aside0.mk hna
    have HSTA := Aside0.mk hsta
    rw [hwa] at hone
    have hsz : (w3.alloc (.cells #[.string (bsB path), .int .i64 3, .string (bsB [])] 68)).heap.size = w3.heap.size + 1 := by simp
    rw [hsz] at hone
    have HONE := Aside0.mk hone
    clear hna hra hsta hone hsz
    go_wp2_with (go_at_call 43; refine HONE.out.mono ?_)
    rw [← hwa]
    rintro e w5 ⟨rfl, hr5, hst5⟩
    have hn5 := HNA.out.step HRA.out hst5
    have HT := Aside0.mk (text_rf B g s _ 4096 l w5 hr5 (by decide))
    have HR5 := Aside0.mk hr5
    have HN5 := Aside0.mk hn5
    have HST5 := Aside0.mk (HSTA.out.trans hst5)
    have HK : Aside0 (w.heap.size ≤ w3.heap.size) := ⟨HST3.out.below.size⟩
    clear hr5 hst5 hn5 hwa HONE
    go_wp2_with (go_at_call 65; refine HT.out.mono ?_)
    change ∀ (e : Ending) (w8 : World), (e = .returned (.string (bsB (txtOf (linkY r3)))) ∧ RfAt B g s (stOf (linkY r3)) l w8 ∧ RfStep none B g w5 w8) → _
    rintro e w8 ⟨rfl, hr8, hst8⟩
    obtain ⟨y8, hy8⟩ : ∃ y8, y8 = linkY r3 := ⟨_, rfl⟩
    rw [← hy8] at hr8 ⊢
    have HFI : Aside0 (nodeP (f + 1) path deep l r = ((goodY y8).then fun d r => .ok ((3, d), r)).then fun (x : Int × List UInt8) r => (mustP [wShut] r).then fun _ r => .ok (l ++ [⟨path, x.1, x.2⟩], r)) := ⟨by rw [HNP.out, link_is, hy8]⟩
    have hn8 := HN5.out.step HR5.out hst8
    have fk2 := blk_frozen hn8.blk 2
    have ck2 : w8.cell? ⟨w3.heap.size, 2, none⟩ = some (.string (bsB [])) := by rw [blk_cell hn8.blk]; rfl
    have hn9 := hn8.set (i := 2) (n' := ⟨path, 3, txtOf y8⟩) (.string (bsB (txtOf y8))) rfl
    have hr9 := hr8.node (i := 2) hn8 (.string (bsB (txtOf y8)))
    have hst9 := (HST5.out.trans hst8).setOwn HBB.out (p := ⟨w3.heap.size, 2, none⟩) HK.out (.string (bsB (txtOf y8)))
    obtain ⟨w9, hw9⟩ : ∃ w9, w9 = w8.setCell ⟨w3.heap.size, 2, none⟩ (.string (bsB (txtOf y8))) := ⟨_, rfl⟩
    rw [← hw9] at hn9 hr9 hst9
    have m0 : w9.cell? ⟨w3.heap.size, 0, none⟩ = some (.string (bsB path)) := by rw [blk_cell hn9.blk]; rfl
    have m1 : w9.cell? ⟨w3.heap.size, 1, none⟩ = some (.int .i64 3) := by rw [blk_cell hn9.blk]; rfl
    have m2 : w9.cell? ⟨w3.heap.size, 2, none⟩ = some (.string (bsB (txtOf y8))) := by rw [blk_cell hn9.blk]; rfl
    have hmd := shelfmarkref10_mayData.calls 5000 (bsB path) 3 (bsB (txtOf y8)) _ w9 (mayData_f ⟨bsB path, 3, bsB (txtOf y8)⟩ 5000 (by decide))
    have hok : okNd (nd ⟨bsB path, 3, bsB (txtOf y8)⟩) = okNd ⟨[], 3, txtOf y8⟩ := rfl
    rw [hok] at hmd
    have HMD := Aside0.mk hmd
    have HN9 := Aside0.mk hn9
    have HR9 := Aside0.mk hr9
    have HST9 := Aside0.mk hst9
    rw [hw9] at hmd
    have HMD2 := Aside0.mk hmd
    clear hr8 hst8 hn8 hn9 hr9 hst9 hy8 HT hmd hok
    have m0' : (w8.setCell ⟨w3.heap.size, 2, none⟩ (.string (bsB (txtOf y8)))).cell? ⟨w3.heap.size, 0, none⟩ = some (.string (bsB path)) := by rw [← hw9]; exact m0
    have m1' : (w8.setCell ⟨w3.heap.size, 2, none⟩ (.string (bsB (txtOf y8)))).cell? ⟨w3.heap.size, 1, none⟩ = some (.int .i64 3) := by rw [← hw9]; exact m1
    have m2' : (w8.setCell ⟨w3.heap.size, 2, none⟩ (.string (bsB (txtOf y8)))).cell? ⟨w3.heap.size, 2, none⟩ = some (.string (bsB (txtOf y8))) := by rw [← hw9]; exact m2
    go_wp2_with (go_at_call 66; refine HMD2.out.mono ?_)
    rw [← hw9]
    rintro e w10 ⟨rfl, hb10⟩
    have hst10 := RfStep.belowOf hb10 (Nat.le_trans HBB.out HST9.out.below.size) HR9.out.lt
    have hr10 := HR9.out.belowOf hb10
    have hn10 := HN9.out.step HR9.out hst10
    have HWR := Aside0.mk (wrong_rf B g s _ l w10 hr10 (!okNd ⟨[], 3, txtOf y8⟩))
    have HR10 := Aside0.mk hr10
    have HN10 := Aside0.mk hn10
    have HST10 := Aside0.mk (HST9.out.trans hst10)
    clear hst10 hr10 hn10 hb10 m0 m1 m2 m0' m1' m2' HMD HMD2 hw9
    go_wp2_with (go_at_call 45; refine HWR.out.mono ?_)
    rintro e w4 ⟨rfl, hr4, hst4⟩
    rw [← good_st] at hr4
    have hn4 := HN10.out.step HR10.out hst4
    have HR4 := Aside0.mk hr4
    have HN4 := Aside0.mk hn4
    have HST4 := Aside0.mk (HST10.out.trans hst4)
    clear hr4 hst4 hn4 HWR
    go_wp2
    obtain ⟨at4, E4, v4, hb4, hx4, ho4⟩ := HR4.out.blk
    obtain ⟨A4, c4, rfl, hc4⟩ := ho4.slice_
    have g2 : w4.cell? ⟨g, 2, none⟩ = some (.slice A4 l.length c4) := by rw [blk_cell hb4]; rfl
    have g3 : ∀ o, (w4.drew.alloc o).cell? ⟨g, 2, none⟩ = some (.slice A4 l.length c4) := fun o => by rw [blk_cell (blk_alloc (show w4.drew.heap[g]? = _ from hb4) o)]; rfl
    have g4 : ∀ o, (w4.alloc o).drew.cell? ⟨g, 2, none⟩ = some (.slice A4 l.length c4) := g3
    have n0 : w4.cell? ⟨w3.heap.size, 0, none⟩ = some (.string (bsB path)) := by rw [blk_cell HN4.out.blk]; rfl
    have n1 : w4.cell? ⟨w3.heap.size, 1, none⟩ = some (.int .i64 3) := by rw [blk_cell HN4.out.blk]; rfl
    have n2 : w4.cell? ⟨w3.heap.size, 2, none⟩ = some (.string (bsB (txtOf y8))) := by rw [blk_cell HN4.out.blk]; rfl
    have HB4 : Aside0 (B ≤ w4.heap.size) := ⟨Nat.le_trans HBB.out HST4.out.below.size⟩
    have HBK4 := Aside0.mk hb4
    have HX4 := Aside0.mk hx4
    have HO4d : Aside0 (OwnRow NdR 68 3 w4.drew B (.slice A4 l.length c4) l) := ⟨own_cong ho4 fun _ _ => rfl⟩
    have HB4d : Aside0 (B ≤ w4.drew.heap.size) := ⟨HB4.out⟩
    clear hb4 hx4 ho4
    go_region_law (first | (refine OwnRow.append_step (w0 := w4.drew) (W := w4.drew) B rfl (.tmp 54) (.tmp 56) 23 68 (.agg #[(.string ⟨#[]⟩), (.int .i64 0), (.string ⟨#[]⟩)]) 3 40 rfl Tryd.underlying23 info68 rfl (by decide) (by decide) (.slice A4 l.length c4) l ⟨path, 3, txtOf y8⟩ [.string (bsB path), .int .i64 3, .string (bsB (txtOf y8))] rfl rfl rfl rfl ?aH HO4d.out (Below.refl _ _) HB4d.out ?aL ?_; (case aH => intro u hu; simp only [List.mem_cons, List.not_mem_nil, or_false] at hu; rcases hu with rfl | rfl | rfl; all_goals rfl); (case aL => omega); intro v5 wz ho5 hb5 hg5 hn5; obtain ⟨A5, c5, hv5, hc5⟩ := ho5.slice_; rw [List.length_append, List.length_singleton] at hv5; subst hv5; have gg5 := blk_frozen (blk_grown (show w4.drew.heap[g]? = _ from HBK4.out) hg5 (HO4d.out.ne_block (show w4.drew.heap[g]? = _ from HBK4.out) (by decide))) 2; have gc5 : wz.cell? ⟨g, 2, none⟩ = some (.slice A4 l.length c4) := (blk_cell (blk_grown (show w4.drew.heap[g]? = _ from HBK4.out) hg5 (HO4d.out.ne_block (show w4.drew.heap[g]? = _ from HBK4.out) (by decide))) 2).trans rfl; have HQ5 := Aside0.mk (And.intro ho5 (And.intro hb5 (And.intro hg5 hn5))); clear ho5 hb5 hg5 hn5))
    all_goals
      obtain ⟨ho5, hb5, hg5, hn5⟩ := HQ5.out
      obtain ⟨hr6, hst6⟩ := RfAt.appended (w := w4.drew) (show w4.drew.heap[g]? = _ from HBK4.out) HR4.out.base HX4.out HR4.out.small HO4d.out ho5 hb5 hg5 hn5
      obtain ⟨w6, hw6⟩ : ∃ w6, w6 = wz.setCell ⟨g, 2, none⟩ (.slice A5 (l.length + 1) c5) := ⟨_, rfl⟩
      rw [← hw6] at hr6 hst6 ⊢
      have HR6 := Aside0.mk hr6
      have HST6 := Aside0.mk (((HST4.out.drew).weak).trans hst6)
      have HB6 : Aside0 (B ≤ w6.heap.size) := ⟨Nat.le_trans HBB.out HST6.out.below.size⟩
      clear hr6 hst6 hw6 ho5 hb5 hg5 hn5 g2 g3 g4 n0 n1 n2 gg5 gc5
      have H7 := Aside0.mk (one_new B g s _ _ w6 HR6.out HB6.out [wShut] (by decide) (by decide) #[.string ⟨#[41]⟩] rfl 1 rfl)
      go_wp2_with (go_at_call 43; refine H7.out.mono ?_)
      rintro e w7 ⟨rfl, hr7, hst7⟩
      have HR7 := Aside0.mk hr7
      have HST7 := Aside0.mk (HST6.out.trans hst7.weak)
      clear hr7 hst7 H7
      go_wp2
      first | go_end0 | ((try simp only [Exit.inBlock, Exit.then]); refine bodyPost_ret (results_none rfl _ _ _) rfl ?_)
      obtain ⟨f1, _⟩ := fin_st (goodY y8) 3 l path _ HFI.out
      exact ⟨rfl, _, by rw [← f1]; exact HR7.out, HST7.out, good_txt y8 3 l path _ HFI.out⟩
  have b1 : ((bsB (txtOf y)).toList == [115, 121, 109, 108, 105, 110, 107]) = false := by rw [toList_data]; exact beq_eq_false_iff_ne.2 hS
  have b3 : ¬ (bsB (txtOf y)).toList = [115, 121, 109, 108, 105, 110, 107] := by rw [toList_data]; exact hS
  have HS := Aside0.mk hS
  clear hS
  have hn4 := NodeAf.new HR3.out HB3.out ⟨path, 4, []⟩
  have hr4 := HR3.out.alloc (.cells #[.string (bsB path), .int .i64 4, .string (bsB [])] 68)
  have hst4 := HST3.out.alloc HB3.out (.cells #[.string (bsB path), .int .i64 4, .string (bsB [])] 68)
  obtain ⟨w4, hw4⟩ : ∃ w4, w4 = w3.alloc (.cells #[.string (bsB path), .int .i64 4, .string (bsB [])] 68) := ⟨_, rfl⟩
  rw [← hw4] at hn4 hr4 hst4
  have HN4 := Aside0.mk hn4
  have HR4 := Aside0.mk hr4
  have HST4 := Aside0.mk hst4
  have HW4 := Aside0.mk hw4
  clear hn4 hr4 hst4 hw4
  go_wp2
  change Code.wp _ _ _ _ (w3.alloc (.cells #[.string (bsB path), .int .i64 4, .string (bsB [])] 68))
  rw [← HW4.out]
  clear HW4
  obtain ⟨at4, E4, v4, hb4, hx4, ho4⟩ := HR4.out.blk
  obtain ⟨A4, c4, rfl, hc4⟩ := ho4.slice_
  have g2 : w4.cell? ⟨g, 2, none⟩ = some (.slice A4 l.length c4) := by rw [blk_cell hb4]; rfl
  have g3 : ∀ o, (w4.drew.alloc o).cell? ⟨g, 2, none⟩ = some (.slice A4 l.length c4) := fun o => by rw [blk_cell (blk_alloc (show w4.drew.heap[g]? = _ from hb4) o)]; rfl
  have g4 : ∀ o, (w4.alloc o).drew.cell? ⟨g, 2, none⟩ = some (.slice A4 l.length c4) := g3
  have n0 : w4.cell? ⟨w3.heap.size, 0, none⟩ = some (.string (bsB path)) := by rw [blk_cell HN4.out.blk]; rfl
  have n1 : w4.cell? ⟨w3.heap.size, 1, none⟩ = some (.int .i64 4) := by rw [blk_cell HN4.out.blk]; rfl
  have n2 : w4.cell? ⟨w3.heap.size, 2, none⟩ = some (.string (bsB [])) := by rw [blk_cell HN4.out.blk]; rfl
  have HB4 : Aside0 (B ≤ w4.heap.size) := ⟨Nat.le_trans HBB.out HST4.out.below.size⟩
  have HBK4 := Aside0.mk hb4
  have HX4 := Aside0.mk hx4
  have HO4d : Aside0 (OwnRow NdR 68 3 w4.drew B (.slice A4 l.length c4) l) := ⟨own_cong ho4 fun _ _ => rfl⟩
  have HB4d : Aside0 (B ≤ w4.drew.heap.size) := ⟨HB4.out⟩
  clear hb4 hx4 ho4
  go_region_law (first | (refine OwnRow.append_step (w0 := w4.drew) (W := w4.drew) B rfl (.tmp 54) (.tmp 56) 23 68 (.agg #[(.string ⟨#[]⟩), (.int .i64 0), (.string ⟨#[]⟩)]) 3 40 rfl Tryd.underlying23 info68 rfl (by decide) (by decide) (.slice A4 l.length c4) l ⟨path, 4, []⟩ [.string (bsB path), .int .i64 4, .string (bsB [])] rfl rfl rfl rfl ?aH HO4d.out (Below.refl _ _) HB4d.out ?aL ?_; (case aH => intro u hu; simp only [List.mem_cons, List.not_mem_nil, or_false] at hu; rcases hu with rfl | rfl | rfl; all_goals rfl); (case aL => omega); intro v5 wz ho5 hb5 hg5 hn5; obtain ⟨A5, c5, hv5, hc5⟩ := ho5.slice_; rw [List.length_append, List.length_singleton] at hv5; subst hv5; have gg5 := blk_frozen (blk_grown (show w4.drew.heap[g]? = _ from HBK4.out) hg5 (HO4d.out.ne_block (show w4.drew.heap[g]? = _ from HBK4.out) (by decide))) 2; have gc5 : wz.cell? ⟨g, 2, none⟩ = some (.slice A4 l.length c4) := (blk_cell (blk_grown (show w4.drew.heap[g]? = _ from HBK4.out) hg5 (HO4d.out.ne_block (show w4.drew.heap[g]? = _ from HBK4.out) (by decide))) 2).trans rfl; have HQ5 := Aside0.mk (And.intro ho5 (And.intro hb5 (And.intro hg5 hn5))); clear ho5 hb5 hg5 hn5))
  all_goals
    obtain ⟨ho5, hb5, hg5, hn5⟩ := HQ5.out
    obtain ⟨hr6, hst6⟩ := RfAt.appended (w := w4.drew) (show w4.drew.heap[g]? = _ from HBK4.out) HR4.out.base HX4.out HR4.out.small HO4d.out ho5 hb5 hg5 hn5
    obtain ⟨w6, hw6⟩ : ∃ w6, w6 = wz.setCell ⟨g, 2, none⟩ (.slice A5 (l.length + 1) c5) := ⟨_, rfl⟩
    rw [← hw6] at hr6 hst6 ⊢
    have HR6 := Aside0.mk hr6
    have HST6 := Aside0.mk (((HST4.out.drew).weak).trans hst6)
    have HB6 : Aside0 (B ≤ w6.heap.size) := ⟨Nat.le_trans HBB.out HST6.out.below.size⟩
    clear hr6 hst6 hw6 ho5 hb5 hg5 hn5 g2 g3 g4 n0 n1 n2 gg5 gc5
    by_cases hD : txtOf y = wDir
    · have d1 : ((bsB (txtOf y)).toList == [100, 105, 114, 101, 99, 116, 111, 114, 121]) = true := by rw [toList_data]; show (txtOf y == wDir) = true; rw [hD]; rfl
      have d3 : (bsB (txtOf y)).toList = [100, 105, 114, 101, 99, 116, 111, 114, 121] := by rw [toList_data]; exact hD
      obtain ⟨r3, hy3⟩ := txt_ok hD (by decide)
      have hr6 : RfAt B g s (.ok r3) (l ++ [(⟨path, 4, []⟩ : Nd)]) w6 := by
        have h6 := HR6.out
        rw [hy3] at h6
        exact h6
      have hnp : nodeP (f + 1) path deep l r = dirP f path deep [] (l ++ [⟨path, 4, []⟩]) r3 := by rw [nodeP_head, ← HY.out, hy3, Rd.then_ok, if_pos rfl]
      have hlt : r3.length < f := by
        have h1 := HY.out
        rw [hy3, headY_is] at h1
        obtain ⟨_, r2, h2, h3⟩ := Rd.then_is h1.symm
        have h4 := must_less1 h2
        have h5 := one_less h3
        have := HF.out
        omega
      have hd7 := HDIR.out B g s r3 (l ++ [(⟨path, 4, []⟩ : Nd)]) w6 path deep hr6 HB6.out (by rw [List.length_append, List.length_singleton]; omega) HSL.out hd hp hlt
      rw [← hnp] at hd7
      have HD7 := Aside0.mk hd7
      clear hD hr6 hnp hlt hd7 hy3
      go_wp2_with (go_at_call 67; refine HD7.out.mono ?_)
      rintro e w7 ⟨rfl, l7, hr7, hst7, hl7⟩
      have HR7 := Aside0.mk hr7
      have HST7 := Aside0.mk (HST6.out.trans hst7)
      have HL7 := Aside0.mk hl7
      clear hr7 hst7 hl7
      go_wp2
      first | go_end0 | ((try simp only [Exit.inBlock, Exit.then]); refine bodyPost_ret (results_none rfl _ _ _) rfl ?_)
      exact ⟨rfl, l7, HR7.out, HST7.out, HL7.out⟩
    · have d1 : ((bsB (txtOf y)).toList == [100, 105, 114, 101, 99, 116, 111, 114, 121]) = false := by rw [toList_data]; exact beq_eq_false_iff_ne.2 hD
      have d3 : ¬ (bsB (txtOf y)).toList = [100, 105, 114, 101, 99, 116, 111, 114, 121] := by rw [toList_data]; exact hD
      have hye : ∃ c, y = .error c := by
        have h1 := HY.out
        cases y with
        | error c => exact ⟨c, rfl⟩
        | ok y =>
          obtain ⟨t, r3⟩ := y
          rw [headY_is] at h1
          obtain ⟨_, r2, h2, h3⟩ := Rd.then_is h1.symm
          have h4 := (one_sound h3).1
          simp only [List.mem_cons, List.not_mem_nil, or_false] at h4
          rcases h4 with h4 | h4 | h4
          · exact absurd h4 HA.out
          · exact absurd h4 HS.out
          · exact absurd h4 hD
      obtain ⟨c, hye⟩ := hye
      have hnp : nodeP (f + 1) path deep l r = .error c := by rw [nodeP_head, ← HY.out, hye]; rfl
      have HNP := Aside0.mk hnp
      have HYE := Aside0.mk hye
      clear hD hnp hye
      have H7 := Aside0.mk (one_new B g s _ _ w6 HR6.out HB6.out [wShut] (by decide) (by decide) #[.string ⟨#[41]⟩] rfl 1 rfl)
      go_wp2_with (go_at_call 43; refine H7.out.mono ?_)
      rintro e w7 ⟨rfl, hr7, hst7⟩
      have HR7 := Aside0.mk hr7
      have HST7 := Aside0.mk (HST6.out.trans hst7.weak)
      clear hr7 hst7 H7
      go_wp2
      first | go_end0 | ((try simp only [Exit.inBlock, Exit.then]); refine bodyPost_ret (results_none rfl _ _ _) rfl ?_)
      refine ⟨rfl, l ++ [(⟨path, 4, []⟩ : Nd)], ?_, HST7.out, fun l1 r1 h1 => by rw [HNP.out] at h1; cases h1⟩
      rw [HNP.out]
      have hr7 := HR7.out
      rw [HYE.out] at hr7
      exact hr7
end Go.Proofs.YtncokgdfkbgflaaDoor

namespace Go.Proofs.YtncokgdfkbgflaaDoor
open Go.RowKit Go.Proofs.YtncokgdfkbgflaaDoorW.PrintWords
set_option linter.unusedVariables false
set_option linter.unusedSimpArgs false
def nameB (last path : List UInt8) (cnt : Nat) (t : List UInt8) : Bool := !mayName t || ((Op.bytesLess t last || t == last) || (decide (256 ≤ cnt) || decide (64 < 1 + slashes (headOf path ++ t))))
theorem nameB_is (last path : List UInt8) (deep cnt : Nat) (t : List UInt8) (h : slashes (headOf path) = deep) : nameB last path cnt t = true ↔ (mayName t = false ∨ (Op.bytesLess t last || t == last) = true ∨ 256 ≤ cnt ∨ 64 ≤ deep) := by
  unfold nameB
  cases hm : mayName t with
  | false => simp
  | true =>
    have h47 := (mayName_ne hm).2
    have hs : slashes (headOf path ++ t) = deep := by
      unfold slashes at h ⊢
      rw [List.count_append, h, List.count_eq_zero.2 h47]
      omega
    rw [hs]
    simp only [Bool.not_true, Bool.false_or, Bool.or_eq_true, decide_eq_true_eq]
    constructor
    · rintro (h1 | h1 | h1)
      · exact .inr (.inl h1)
      · exact .inr (.inr (.inl h1))
      · exact .inr (.inr (.inr (by omega)))
    · rintro (h1 | h1 | h1 | h1)
      · cases h1
      · exact .inl h1
      · exact .inr (.inl h1)
      · exact .inr (.inr (by omega))
def textY (r : List UInt8) : Rd (List UInt8) := onSt (stOf (onSt (stOf (onSt (.ok r) (oneP [wOpen]))) (oneP [wName]))) (textP 255)
def entY (last path : List UInt8) (cnt : Nat) (r : List UInt8) : Rd (List UInt8) := onSt (wrongS (nameB last path cnt (txtOf (textY r))) (stOf (textY r))) (oneP [wNode])
def entP (last : List UInt8) (deep cnt : Nat) (r : List UInt8) : Rd (List UInt8) := (mustP [wOpen, wName] r).then fun _ r => (nameP last deep cnt r).then fun nm r => (mustP [wNode] r).then fun _ r => .ok (nm, r)
theorem entP_is (f : Nat) (path : List UInt8) (deep : Nat) (last : List UInt8) (l : List Nd) (r : List UInt8) : entryP f path deep last l r = (entP last deep l.length r).then fun nm r => (nodeP f (headOf path ++ nm) (deep + 1) l r).then fun l r => (mustP [wShut] r).then fun _ r => .ok ((nm, l), r) := by
  rw [entryP, entP]
  simp only [Rd.then_then]
  rfl
theorem ent_is (last path : List UInt8) (deep cnt : Nat) (r : List UInt8) (h : slashes (headOf path) = deep) : stOf (entY last path cnt r) = stOf (entP last deep cnt r) ∧ ∀ nm r1, entP last deep cnt r = .ok (nm, r1) → txtOf (textY r) = nm := by
  cases h1 : oneP [wOpen] r with
  | error c => simp only [entY, textY, entP, must_two, onSt, stOf, Rd.then, h1, wrongS]; exact ⟨trivial, fun _ _ h => by cases h⟩
  | ok y1 =>
    obtain ⟨t1, r1⟩ := y1
    cases h2 : oneP [wName] r1 with
    | error c => simp only [entY, textY, entP, must_two, onSt, stOf, Rd.then, h1, h2, wrongS]; exact ⟨trivial, fun _ _ h => by cases h⟩
    | ok y2 =>
      obtain ⟨t2, r2⟩ := y2
      cases h3 : textP 255 r2 with
      | error c => simp only [entY, textY, entP, must_two, nameP, onSt, stOf, Rd.then, h1, h2, h3, wrongS]; exact ⟨trivial, fun _ _ h => by cases h⟩
      | ok y3 =>
        obtain ⟨t, r3⟩ := y3
        by_cases hb : nameB last path cnt t = true
        · have hc := (nameB_is last path deep cnt t h).1 hb
          simp only [entY, textY, entP, must_two, nameP, onSt, stOf, Rd.then, h1, h2, h3, wrongS, txtOf, hb, if_pos hc, if_true]
          exact ⟨trivial, fun _ _ h => by cases h⟩
        · have hc : ¬ _ := fun e => hb ((nameB_is last path deep cnt t h).2 e)
          have hb2 := Bool.eq_false_iff.2 hb
          cases h4 : oneP [wNode] r3 with
          | error c => simp only [entY, textY, entP, must_two, must_one, nameP, onSt, stOf, Rd.then, h1, h2, h3, h4, wrongS, txtOf, hb2, if_neg hc, Bool.false_eq_true, if_false]; exact ⟨trivial, fun _ _ h => by cases h⟩
          | ok y4 => simp only [entY, textY, entP, must_two, must_one, nameP, onSt, stOf, Rd.then, h1, h2, h3, h4, wrongS, txtOf, hb2, if_neg hc, Bool.false_eq_true, if_false]; exact ⟨trivial, fun _ _ h => by cases h; rfl⟩
theorem slash_head (path nm : List UInt8) (h : mayName nm = true) : slashes (headOf (headOf path ++ nm)) = slashes (headOf path) + 1 := by
  have h1 := mayName_ne h
  rw [headOf_ne (show headOf path ++ nm ≠ [] from fun e => h1.1 (List.append_eq_nil_iff.1 e).2)]
  unfold slashes
  rw [List.count_append, List.count_append, List.count_eq_zero.2 h1.2]
  rfl
theorem entP_sound {last : List UInt8} {deep cnt : Nat} {r nm r1 : List UInt8} (h : entP last deep cnt r = .ok (nm, r1)) : mayName nm = true ∧ cnt < 256 ∧ deep < 64 ∧ r1.length + 24 ≤ r.length := by
  rw [entP] at h
  obtain ⟨_, r2, h2, h⟩ := Rd.then_is h
  obtain ⟨nm2, r3, h3, h⟩ := Rd.then_is h
  obtain ⟨_, r4, h4, h⟩ := Rd.then_is h
  cases h
  have e2 := must_less1 h2
  have e3 := name_less h3
  have e4 := must_less1 h4
  have e5 := name_sound h3
  exact ⟨e5.1, e5.2.2.1, e5.2.2.2.1, by omega⟩
end Go.Proofs.YtncokgdfkbgflaaDoor

namespace Go.Proofs.YtncokgdfkbgflaaDoor
open Go.RowKit Go.Shelf Go.Lib Go.Proofs.YtncokgdfkbgflaaDoorW.PrintWords Go.Proofs.YtncokgdfkbgflaaDoorW.PrintMore P
set_option linter.unusedVariables false
set_option linter.unusedSimpArgs false
theorem RfStep.drewN {e : Option TypeId} {B g : Nat} {a w : World} (h : RfStep e B g a w) (n : Nat) : RfStep e B g a (w.drewN n) := ⟨pw_below_drewN h.below n, h.kept, h.third⟩
theorem RfAt.drewN {B g : Nat} {s : ByteArray} {x : St} {l : List Nd} {w : World} (h : RfAt B g s x l w) (n : Nat) : RfAt B g s x l (w.drewN n) := h.cong fun _ _ _ _ hk _ => hk
theorem mayf_calls (t : List UInt8) (w : World) : Calls Tryd.prog 70 #[.string (bsB t)] w fun e w' => e = .returned (.bool (mayName t)) ∧ Drawn0 w w' :=
  shelfmarkref10_MayName.calls 300 (bsB t) _ w (refMayName_f (bsB t) 300 (by decide))
theorem deepf_calls (t : List UInt8) (ht : t.length < 1000000) (w : World) : Calls Tryd.prog 71 #[.string (bsB t)] w fun e w' => e = .returned (.int .i64 ((1 + slashes t : Nat) : Int)) ∧ Drawn0 w w' := by
  have hs : (bsB t).size = t.length := by simp [bsB, ByteArray.size]
  exact shelfmarkref10_deep.calls (t.length + 1) (bsB t) _ w (deep_f (bsB t) (by omega) (t.length + 1) (by omega))
theorem txt_le (most : Nat) (x : St) : (txtOf (onSt x (textP most))).length ≤ most := by
  cases x with
  | error c => exact Nat.zero_le _
  | ok r =>
    show (txtOf (textP most r)).length ≤ most
    cases h : textP most r with
    | error c => exact Nat.zero_le _
    | ok y => obtain ⟨t, r1⟩ := y; exact (text_sound h).2
def DirAt (f gk : Nat) (path : List UInt8) (deep : Nat) (last : List UInt8) (x : St) (l : List Nd) (X : Rd (List Nd)) : Prop :=
  (∃ r, x = .ok r ∧ l.length ≤ 256 ∧ r.length < gk ∧ gk ≤ f ∧ X = dirP gk path deep last l r) ∨ (∃ c, x = .error c ∧ c ≠ 0 ∧ X = .error c)
theorem dir_next {f gk : Nat} {path : List UInt8} {deep : Nat} {last : List UInt8} {l l' : List Nd} {r1 r2 : List UInt8} {X : Rd (List Nd)} (hX : X = dirP (gk + 1) path deep last l r1) (h1 : oneP [wEntry, wShut] r1 = .ok (wEntry, r2)) (hr1 : r1.length < gk + 1) (hgf : gk + 1 ≤ f)
    (nm r6 : List UInt8) (he : entP last deep l.length r2 = .ok (nm, r6)) (hl' : ∀ l2 r7, nodeP gk (headOf path ++ nm) (deep + 1) l r6 = .ok (l2, r7) → l' = l2)
    (y8 : Rd (List UInt8)) (hy8 : y8 = onSt (stOf (nodeP gk (headOf path ++ nm) (deep + 1) l r6)) (oneP [wShut])) (hnz : ∀ c, y8 = .error c → c ≠ 0) : DirAt f gk path deep nm (stOf y8) l' X := by
  have hX2 : X = (entryP gk path deep last l r2).then fun x r => dirP gk path deep x.1 x.2 r := by rw [hX, dirP_is, h1, Rd.then_ok, if_neg (by decide)]
  have hen : entryP gk path deep last l r2 = (nodeP gk (headOf path ++ nm) (deep + 1) l r6).then fun l r => (mustP [wShut] r).then fun _ r => .ok ((nm, l), r) := by rw [entP_is, he, Rd.then_ok]
  cases hn : nodeP gk (headOf path ++ nm) (deep + 1) l r6 with
  | error c =>
    rw [hn] at hy8
    have hy : y8 = .error c := hy8
    refine .inr ⟨c, by rw [hy]; rfl, hnz c hy, ?_⟩
    rw [hX2, hen, hn]
    rfl
  | ok y =>
    obtain ⟨l2, r7⟩ := y
    obtain rfl := hl' l2 r7 hn
    rw [hn] at hy8
    have hy : y8 = oneP [wShut] r7 := hy8
    cases h8 : oneP [wShut] r7 with
    | error c =>
      rw [h8] at hy
      refine .inr ⟨c, by rw [hy]; rfl, hnz c hy, ?_⟩
      rw [hX2, hen, hn, Rd.then_ok, must_one, h8]
      rfl
    | ok y =>
      obtain ⟨t8, r8⟩ := y
      rw [h8] at hy
      have hent : entryP gk path deep last l r2 = .ok ((nm, l'), r8) := by rw [hen, hn, Rd.then_ok, must_one, h8]; rfl
      have hls := entry_less hent
      have hl1 := one_less h1
      refine .inl ⟨r8, by rw [hy]; rfl, hls.2, by omega, by omega, ?_⟩
      rw [hX2, hent]
      rfl
theorem dir_stop {f gk : Nat} {path : List UInt8} {deep : Nat} {last : List UInt8} {l l' : List Nd} {r1 r2 : List UInt8} {X : Rd (List Nd)} (hX : X = dirP (gk + 1) path deep last l r1) (h1 : oneP [wEntry, wShut] r1 = .ok (wEntry, r2))
    (c : Int) (he : entP last deep l.length r2 = .error c) (hc : c ≠ 0) (nm : List UInt8) : DirAt f gk path deep nm (stOf (onSt (.error c) (oneP [wShut]))) l' X := by
  refine .inr ⟨c, rfl, hc, ?_⟩
  rw [hX, dirP_is, h1, Rd.then_ok, if_neg (by decide), entP_is, he]
  rfl
theorem RfAt.nz {B g : Nat} {s : ByteArray} {c : Int} {l : List Nd} {w : World} (h : RfAt B g s (.error c) l w) : c ≠ 0 := by
  obtain ⟨_, E, _, _, hx, _⟩ := h.blk
  exact hx.2.2
theorem stOf_error {α : Type} {y : Rd α} {c : Int} (h : y = .error c) : stOf y = .error c := by rw [h]; rfl
set_option maxRecDepth 100000 in
set_option maxHeartbeats 8000000 in
theorem dirf_rd (f : Nat) (hN : ∀ f', f' < f → NodeRF f') : DirRF f := by
  intro B g s r l w path deep h hB hl hsl hd hp hf
  have HR := Aside0.mk h
  have HBB := Aside0.mk hB
  have HNN := Aside0.mk hN
  have HF := Aside0.mk hf
  have HSL := Aside0.mk hsl
  clear h hB hN hf hsl
  obtain ⟨X, hX⟩ : ∃ X, X = dirP f path deep [] l r := ⟨_, rfl⟩
  rw [← hX]
  have HX := Aside0.mk hX
  clear hX
  go_enter Tryd.func67, Tryd.ntmps67
  go_wp2
  go_loopg [4, 5, 6] f (fun gk v4 _ _ wx => ∃ (last : List UInt8) (x1 : St) (l1 : List Nd), v4 = .string (bsB last) ∧ Aside0 (RfAt B g s x1 l1 wx) ∧ Aside0 (RfStep (some 68) B g w wx) ∧ Aside0 (DirAt f gk path deep last x1 l1 X))
  case atStart => exact ⟨[], .ok r, l, rfl, HR, ⟨RfStep.refl _ _ _ _⟩, ⟨.inl ⟨r, rfl, hl, HF.out, Nat.le_refl _, HX.out⟩⟩⟩
  case round =>
    obtain ⟨last, x1, l1, rfl, HR1, HST1, HD1⟩ := hrel
    obtain ⟨at1, E1, vv1, hb1, hx1, ho1⟩ := HR1.out.blk
    rcases HD1.out with ⟨r1, rfl, hl1, hr1, hgf, hXX⟩ | ⟨c, rfl, hc, hXX⟩
    · obtain ⟨_, rfl, hre⟩ := hx1
      have c3 : wr.cell? ⟨g, 3, none⟩ = some (.int .i64 0) := by rw [blk_cell hb1]; rfl
      cases gk with
      | zero => exact absurd hr1 (by omega)
      | succ gk =>
        have hB1 : B ≤ wr.heap.size := Nat.le_trans HBB.out HST1.out.below.size
        have HO := Aside0.mk (one_new B g s _ l1 wr HR1.out hB1 [wEntry, wShut] (by decide) (by decide) #[.string ⟨#[101, 110, 116, 114, 121]⟩, .string ⟨#[41]⟩] rfl 2 rfl)
        have HL1 := Aside0.mk hl1
        have HRL := Aside0.mk hr1
        have HGF := Aside0.mk hgf
        have HXX := Aside0.mk hXX
        clear hl1 hr1 hgf hXX hB1 hb1 hre ho1 HD1
        go_wp2_with (go_at_call 43; refine HO.out.mono ?_)
        change ∀ (e : Ending) (w1 : World), (e = .returned (.string (bsB (txtOf (oneP [wEntry, wShut] r1)))) ∧ RfAt B g s (stOf (oneP [wEntry, wShut] r1)) l1 w1 ∧ RfStep none B g wr w1) → _
        rintro e w1 ⟨rfl, hr2, hst2⟩
        obtain ⟨y1, hy1⟩ : ∃ y1, y1 = oneP [wEntry, wShut] r1 := ⟨_, rfl⟩
        rw [← hy1] at hr2 ⊢
        have HY1 := Aside0.mk hy1
        have HR2 := Aside0.mk hr2
        have HST2 := Aside0.mk (HST1.out.trans hst2.weak)
        clear hr2 hst2 hy1 HO
        by_cases hE : txtOf y1 = wEntry
        · have e1 : ((bsB (txtOf y1)).toList == [101, 110, 116, 114, 121]) = true := by rw [toList_data]; show (txtOf y1 == wEntry) = true; rw [hE]; rfl
          have e2 : ((bsB (txtOf y1)).toList != [101, 110, 116, 114, 121]) = false := by rw [bne, e1]; rfl
          have e3 : (bsB (txtOf y1)).toList = [101, 110, 116, 114, 121] := by rw [toList_data]; exact hE
          obtain ⟨r2, hy2⟩ := txt_ok hE (by decide)
          have hr2 : RfAt B g s (.ok r2) l1 w1 := by
            have h2 := HR2.out
            rw [hy2] at h2
            exact h2
          have hB2 : B ≤ w1.heap.size := Nat.le_trans HBB.out HST2.out.below.size
          have HO := Aside0.mk (one_new B g s _ l1 w1 hr2 hB2 [wOpen] (by decide) (by decide) #[.string ⟨#[40]⟩] rfl 1 rfl)
          have HY2 := Aside0.mk hy2
          clear hE hy2 hr2 hB2
          go_wp2_with (go_at_call 43; refine HO.out.mono ?_)
          rintro e w2 ⟨rfl, hr3, hst3⟩
          have HST3 := Aside0.mk (HST2.out.trans hst3.weak)
          have hB3 : B ≤ w2.heap.size := Nat.le_trans HBB.out HST3.out.below.size
          have HO3 := Aside0.mk (one_new B g s _ l1 w2 hr3 hB3 [wName] (by decide) (by decide) #[.string ⟨#[110, 97, 109, 101]⟩] rfl 1 rfl)
          clear hr3 hst3 hB3 HO
          go_wp2_with (go_at_call 43; refine HO3.out.mono ?_)
          rintro e w3 ⟨rfl, hr4, hst4⟩
          have HST4' := Aside0.mk (HST3.out.trans hst4.weak)
          have HT := Aside0.mk (text_rf B g s _ 255 l1 w3 hr4 (by decide))
          clear hr4 hst4 HO3
          go_wp2_with (go_at_call 65; refine HT.out.mono ?_)
          change ∀ (e : Ending) (w4 : World), (e = .returned (.string (bsB (txtOf (textY r2)))) ∧ RfAt B g s (stOf (textY r2)) l1 w4 ∧ RfStep none B g w3 w4) → _
          rintro e w4 ⟨rfl, hr5, hst5⟩
          have hnl : (txtOf (textY r2)).length ≤ 255 := txt_le 255 _
          obtain ⟨nm, hnm⟩ : ∃ nm, nm = txtOf (textY r2) := ⟨_, rfl⟩
          rw [← hnm] at hnl ⊢
          have HNM := Aside0.mk hnm
          have HR4 := Aside0.mk hr5
          have HST4 := Aside0.mk (HST4'.out.trans hst5.weak)
          have sz1 : (bsB path).size = path.length := by simp [bsB, ByteArray.size]
          have sz2 : (bsB nm).size = nm.length := by simp [bsB, ByteArray.size]
          have sz4 : (9223372036854775807 < (bsB path).size + 1) = False := eq_false (by rw [sz1]; omega)
          have sz5 : (9223372036854775807 < (bsB path).size + 1 + (bsB nm).size) = False := eq_false (by rw [sz1, sz2]; omega)
          have hpl : (headOf path ++ nm).length < 1000000 := by
            rw [List.length_append]
            have h1 : (headOf path).length ≤ path.length + 1 := by unfold headOf; split <;> simp
            omega
          have HPL := Aside0.mk hpl
          clear hr5 hst5 hnm HT sz1 sz2 hnl hpl
          go_upto_if 26 with (fail)
          go_cut [6] (fun v6 wc => v6 = .string (bsB (headOf path ++ nm)) ∧ wc = w4)
          case first =>
            by_cases hpe : path = []
            · have v1 : ((bsB path).toList == ([] : List UInt8)) = true := by rw [toList_data, hpe]; rfl
              have v2 : (bsB path).toList.isEmpty = true := by rw [toList_data, hpe]; rfl
              have v3 : (bsB path).toList = [] := by rw [toList_data, hpe]; rfl
              have HPE := Aside0.mk hpe
              clear hpe
              simp only [v2, Bool.not_true]
              go_wp2
              go_meet
              case rel => exact ⟨by rw [headOf, if_pos HPE.out]; rfl, rfl⟩
            · have v1 : ((bsB path).toList == ([] : List UInt8)) = false := by rw [toList_data]; exact beq_eq_false_iff_ne.2 hpe
              have v2 : (bsB path).toList.isEmpty = false := by rw [toList_data]; show path.isEmpty = false; cases path with | nil => exact absurd rfl hpe | cons _ _ => rfl
              have v3 : ¬ (bsB path).toList = [] := by rw [toList_data]; exact hpe
              have HPE := Aside0.mk hpe
              clear hpe
              simp only [v2, Bool.not_false]
              go_wp2
              go_meet
              case rel => exact ⟨by rw [headOf, if_neg HPE.out, ← bsB_add, ← bsB_add]; rfl, rfl⟩
          case rest =>
            obtain ⟨rfl, rfl⟩ := hcut
            have DEEP := Aside0.mk (fun w => deepf_calls (headOf path ++ nm) HPL.out w)
            go_upto_region 9 with (fail)
            go_cut [5] (fun v5 wc => v5 = .string (bsB nm) ∧ Aside0 (RfAt B g s (wrongS (nameB last path l1.length nm) (stOf (textY r2))) l1 wc) ∧ Aside0 (RfStep (some 68) B g w wc))
            case first =>
              go_wp2_with (go_at_call 70; refine (mayf_calls nm _).mono ?_)
              rintro _ w5 ⟨rfl, hdr⟩
              obtain ⟨n5, hw5⟩ := hdr.out
              have hr5 : RfAt B g s (stOf (textY r2)) l1 w5 := by rw [hw5]; exact HR4.out.drewN n5
              have HST5 : Aside0 (RfStep (some 68) B g w w5) := ⟨by rw [hw5]; exact HST4.out.drewN n5⟩
              have HR5 := Aside0.mk hr5
              obtain ⟨at5, E5, v5, hb5, _, ho5⟩ := hr5.blk
              obtain ⟨A5, cp5, rfl, _⟩ := ho5.slice_
              have c5 : w5.cell? ⟨g, 2, none⟩ = some (.slice A5 l1.length cp5) := by rw [blk_cell hb5]; rfl
              have key : ∀ b w6, (∃ n, w6 = w5.drewN n) → b = nameB last path l1.length nm → Calls Tryd.prog 45 #[.pointer (some ⟨g, 0, none⟩), .bool b] w6 fun e w' => e = .returned (.tuple #[]) ∧ RfAt B g s (wrongS (nameB last path l1.length nm) (stOf (textY r2))) l1 w' ∧ RfStep none B g w5 w' := by
                rintro b w6 ⟨n, rfl⟩ rfl
                exact (wrong_rf B g s _ l1 _ (HR5.out.drewN n) _).mono fun e w' ⟨h1, h2, h3⟩ => ⟨h1, h2, ((RfStep.refl none B g w5).drewN n).trans h3⟩
              have KEY := Aside0.mk key
              clear hdr hw5 hr5 hb5 ho5 key
              obtain ⟨m, hm⟩ : ∃ m, mayName nm = m := ⟨_, rfl⟩
              obtain ⟨q, hq⟩ : ∃ q, (Op.bytesLess nm last || nm == last) = q := ⟨_, rfl⟩
              have hq1 : (Op.bytesLess (bsB nm).toList (bsB last).toList || (bsB nm).toList == (bsB last).toList) = q := by rw [← hq, toList_data, toList_data]; rfl
              have hnb : ∀ b : Bool, (m = false → b = true) → (m = true → q = true → b = true) → (m = true → q = false → 256 ≤ l1.length → b = true) → (m = true → q = false → ¬ 256 ≤ l1.length → b = decide (64 < 1 + slashes (headOf path ++ nm))) → b = nameB last path l1.length nm := by
                intro b h1 h2 h3 h4
                unfold nameB
                rw [hm, hq]
                cases m with
                | false => rw [h1 rfl]; rfl
                | true =>
                  cases q with
                  | true => rw [h2 rfl rfl]; rfl
                  | false =>
                    by_cases h256 : 256 ≤ l1.length
                    · rw [h3 rfl rfl h256, decide_eq_true h256]; rfl
                    · rw [h4 rfl rfl h256, decide_eq_false h256]; rfl
              have HNB := Aside0.mk hnb
              have HM := Aside0.mk hm
              have HQ := Aside0.mk hq
              clear hnb hm hq
              rw [HM.out]
              cases m with
              | false =>
                have HK6 := Aside0.mk (KEY.out true _ ⟨0, rfl⟩ (HNB.out true (fun _ => rfl) (fun h => by cases h) (fun h => by cases h) (fun h => by cases h)))
                go_wp2_with (go_at_call 45; refine HK6.out.mono ?_)
                rintro e w6 ⟨rfl, hr6, hst6⟩
                have HR6 := Aside0.mk hr6
                have HST6 := Aside0.mk (HST5.out.trans hst6.weak)
                clear hr6 hst6 KEY HK6
                go_wp2
                go_meet
                case rel => exact ⟨rfl, HR6, HST6⟩
              | true =>
                cases q with
                | true =>
                  have HK6 := Aside0.mk (KEY.out true _ ⟨0, rfl⟩ (HNB.out true (fun _ => rfl) (fun _ _ => rfl) (fun _ h => by cases h) (fun _ h => by cases h)))
                  go_wp2_with (go_at_call 45; refine HK6.out.mono ?_)
                  rintro e w6 ⟨rfl, hr6, hst6⟩
                  have HR6 := Aside0.mk hr6
                  have HST6 := Aside0.mk (HST5.out.trans hst6.weak)
                  clear hr6 hst6 KEY HK6
                  go_wp2
                  go_meet
                  case rel => exact ⟨rfl, HR6, HST6⟩
                | false =>
                  by_cases h256 : 256 ≤ l1.length
                  · have i256 : (256 : Int) ≤ (l1.length : Int) := by omega
                    have j256 : decide ((256 : Int) ≤ (l1.length : Int)) = true := decide_eq_true i256
                    have HK6 := Aside0.mk (KEY.out true _ ⟨0, rfl⟩ (HNB.out true (fun _ => rfl) (fun _ _ => rfl) (fun _ _ _ => rfl) (fun _ _ h => absurd h256 h)))
                    go_wp2_with (go_at_call 45; refine HK6.out.mono ?_)
                    rintro e w6 ⟨rfl, hr6, hst6⟩
                    have HR6 := Aside0.mk hr6
                    have HST6 := Aside0.mk (HST5.out.trans hst6.weak)
                    clear hr6 hst6 KEY HK6
                    go_wp2
                    go_meet
                    case rel => exact ⟨rfl, HR6, HST6⟩
                  · have i256 : ¬ (256 : Int) ≤ (l1.length : Int) := by omega
                    have j256 : decide ((256 : Int) ≤ (l1.length : Int)) = false := decide_eq_false i256
                    have hdp : ∀ b, decide (64 < 1 + slashes (headOf path ++ nm)) = b → ∀ w51, (∃ n, w51 = w5.drewN n) → Calls Tryd.prog 45 #[.pointer (some ⟨g, 0, none⟩), .bool b] w51 fun e w' => e = .returned (.tuple #[]) ∧ RfAt B g s (wrongS (nameB last path l1.length nm) (stOf (textY r2))) l1 w' ∧ RfStep none B g w5 w' := by
                      intro b hb w51 hw
                      exact KEY.out b w51 hw (HNB.out b (fun h => by cases h) (fun _ h => by cases h) (fun _ _ h => absurd h h256) (fun _ _ _ => hb.symm))
                    obtain ⟨dp, hdpe⟩ : ∃ dp, dp = 1 + slashes (headOf path ++ nm) := ⟨_, rfl⟩
                    have hde := DEEP.out
                    rw [← hdpe] at hdp hde
                    have HDE := Aside0.mk hde
                    have HDP := Aside0.mk hdp
                    clear hdp hdpe hde
                    by_cases h64 : 64 < dp
                    · have i64a : (64 : Int) < (dp : Int) := by omega
                      have i64b : decide ((64 : Int) < (dp : Int)) = true := decide_eq_true i64a
                      have HK7 := Aside0.mk (HDP.out true (decide_eq_true h64))
                      clear h64
                      go_wp2_with (go_at_call 71; refine (HDE.out _).mono ?_)
                      rintro _ w51 ⟨rfl, hdr⟩
                      obtain ⟨n51, hw51⟩ := hdr.out
                      have HK6 := Aside0.mk (HK7.out w51 ⟨n51, hw51⟩)
                      clear hdr hw51
                      go_wp2_with (go_at_call 45; refine HK6.out.mono ?_)
                      rintro e w6 ⟨rfl, hr6, hst6⟩
                      have HR6 := Aside0.mk hr6
                      have HST6 := Aside0.mk (HST5.out.trans hst6.weak)
                      clear hr6 hst6 KEY HK6
                      go_wp2
                      go_meet
                      case rel => exact ⟨rfl, HR6, HST6⟩
                    · have i64a : ¬ (64 : Int) < (dp : Int) := by omega
                      have i64b : decide ((64 : Int) < (dp : Int)) = false := decide_eq_false i64a
                      have HK7 := Aside0.mk (HDP.out false (decide_eq_false h64))
                      clear h64
                      go_wp2_with (go_at_call 71; refine (HDE.out _).mono ?_)
                      rintro _ w51 ⟨rfl, hdr⟩
                      obtain ⟨n51, hw51⟩ := hdr.out
                      have HK6 := Aside0.mk (HK7.out w51 ⟨n51, hw51⟩)
                      clear hdr hw51
                      go_wp2_with (go_at_call 45; refine HK6.out.mono ?_)
                      rintro e w6 ⟨rfl, hr6, hst6⟩
                      have HR6 := Aside0.mk hr6
                      have HST6 := Aside0.mk (HST5.out.trans hst6.weak)
                      clear hr6 hst6 KEY HK6
                      go_wp2
                      go_meet
                      case rel => exact ⟨rfl, HR6, HST6⟩
            case rest =>
              obtain ⟨rfl, HR6, HST6⟩ := hcut
              have hB6 : B ≤ wc.heap.size := Nat.le_trans HBB.out HST6.out.below.size
              have HO6 := Aside0.mk (one_new B g s _ l1 wc HR6.out hB6 [wNode] (by decide) (by decide) #[.string ⟨#[110, 111, 100, 101]⟩] rfl 1 rfl)
              clear hB6
              go_wp2_with (go_at_call 43; refine HO6.out.mono ?_)
              rintro e w7 ⟨rfl, hr7, hst7⟩
              have hey : onSt (wrongS (nameB last path l1.length nm) (stOf (textY r2))) (oneP [wNode]) = entY last path l1.length r2 := by rw [entY, HNM.out]
              rw [hey, (ent_is last path deep l1.length r2 HSL.out).1] at hr7
              have HST7 := Aside0.mk (HST6.out.trans hst7.weak)
              have hB7 : B ≤ w7.heap.size := Nat.le_trans HBB.out HST7.out.below.size
              clear hey hst7 HO6
              cases hent : entP last deep l1.length r2 with
              | error c =>
                rw [hent] at hr7
                have hr7 : RfAt B g s (.error c) l1 w7 := hr7
                have hc := hr7.nz
                obtain ⟨at7, E7, v7, hb7, hx7, _⟩ := hr7.blk
                obtain ⟨_, rfl, _⟩ := hx7
                have c3' : w7.cell? ⟨g, 3, none⟩ = some (.int .i64 E7) := by rw [blk_cell hb7]; rfl
                have u1 : (E7 == 0) = false := beq_eq_false_iff_ne.2 hc
                have u2 : decide (E7 = 0) = false := decide_eq_false hc
                have HO7 := Aside0.mk (one_new B g s _ l1 w7 hr7 hB7 [wShut] (by decide) (by decide) #[.string ⟨#[41]⟩] rfl 1 rfl)
                have HC := Aside0.mk hc
                have HENT := Aside0.mk hent
                clear hc hb7 hr7 hent hB7
                go_wp2_with (go_at_call 43; refine HO7.out.mono ?_)
                rintro e w8 ⟨rfl, hr8, hst8⟩
                have HR8 := Aside0.mk hr8
                have HST8 := Aside0.mk (HST7.out.trans hst8.weak)
                clear hr8 hst8 HO7
                go_wp2
                go_roundg gk
                case measure => omega
                case rel => exact ⟨nm, _, l1, rfl, HR8, HST8, ⟨dir_stop HXX.out (by rw [← HY1.out]; exact HY2.out) E7 HENT.out HC.out nm⟩⟩
              | ok y =>
                obtain ⟨nm', r6⟩ := y
                obtain rfl : nm = nm' := by rw [HNM.out]; exact (ent_is last path deep l1.length r2 HSL.out).2 _ _ hent
                rw [hent] at hr7
                have hr7 : RfAt B g s (.ok r6) l1 w7 := hr7
                obtain ⟨at7, E7, v7, hb7, hx7, _⟩ := hr7.blk
                obtain ⟨_, rfl, _⟩ := hx7
                have c3' : w7.cell? ⟨g, 3, none⟩ = some (.int .i64 0) := by rw [blk_cell hb7]; rfl
                have hes := entP_sound hent
                have hl1 := one_less (show oneP [wEntry, wShut] r1 = .ok (wEntry, r2) by rw [← HY1.out]; exact HY2.out)
                have hno := HNN.out gk (by have := HGF.out; omega) B g s r6 l1 w7 (headOf path ++ nm) (deep + 1) hr7 hB7 hes.2.1 (by rw [slash_head path nm hes.1, HSL.out]) (by have := hes.2.2.1; omega) (by
                  rw [List.length_append]
                  have h1 : (headOf path).length ≤ path.length + 1 := by unfold headOf; split <;> simp
                  have h2 := mayName_le hes.1
                  omega) (by have := hes.2.2.2; have := HRL.out; omega)
                have HNO := Aside0.mk hno
                have HENT := Aside0.mk hent
                clear hb7 hr7 hent hB7 hes hl1 hno
                go_wp2_with (go_at_call 44; refine HNO.out.mono ?_)
                rintro e w8 ⟨rfl, l8, hr8, hst8, hl8⟩
                have HST8 := Aside0.mk (HST7.out.trans hst8)
                have hB8 : B ≤ w8.heap.size := Nat.le_trans HBB.out HST8.out.below.size
                have HO8 := Aside0.mk (one_new B g s _ l8 w8 hr8 hB8 [wShut] (by decide) (by decide) #[.string ⟨#[41]⟩] rfl 1 rfl)
                have HL8 := Aside0.mk hl8
                clear hr8 hst8 hl8 hB8 HNO
                go_wp2_with (go_at_call 43; refine HO8.out.mono ?_)
                rintro e w9 ⟨rfl, hr9, hst9⟩
                have HR9 := Aside0.mk hr9
                have HST9 := Aside0.mk (HST8.out.trans hst9.weak)
                clear hr9 hst9 HO8
                go_wp2
                go_roundg gk
                case measure => omega
                case rel => exact ⟨nm, _, l8, rfl, HR9, HST9, ⟨dir_next HXX.out (by rw [← HY1.out]; exact HY2.out) HRL.out HGF.out nm r6 HENT.out HL8.out _ rfl (fun c hc => by have h9 := HR9.out; rw [stOf_error hc] at h9; exact h9.nz)⟩⟩
        · have e1 : ((bsB (txtOf y1)).toList == [101, 110, 116, 114, 121]) = false := by rw [toList_data]; exact beq_eq_false_iff_ne.2 hE
          have e2 : ((bsB (txtOf y1)).toList != [101, 110, 116, 114, 121]) = true := by rw [bne, e1]; rfl
          have e3 : ¬ (bsB (txtOf y1)).toList = [101, 110, 116, 114, 121] := by rw [toList_data]; exact hE
          have HE := Aside0.mk hE
          clear hE
          go_wp2
          first | go_end0 | ((try simp only [Exit.inBlock, Exit.then]); refine bodyPost_ret (results_none rfl _ _ _) rfl ?_)
          refine ⟨rfl, l1, ?_, HST2.out, ?_⟩
          · have hst : stOf y1 = stOf X := by
              rw [HXX.out, dirP]
              have h1 := HY1.out
              cases y1 with
              | error c => rw [← h1]; rfl
              | ok y =>
                obtain ⟨t, r2⟩ := y
                have ht := (one_sound h1.symm).1
                simp only [List.mem_cons, List.not_mem_nil, or_false] at ht
                rcases ht with ht | ht
                · exact absurd ht HE.out
                · rw [← h1, Rd.then_ok, if_pos ht]; rfl
            rw [← hst]
            exact HR2.out
          · intro l2 r3 h2
            rw [HXX.out, dirP] at h2
            have h1 := HY1.out
            cases y1 with
            | error c => rw [← h1] at h2; cases h2
            | ok y =>
              obtain ⟨t, r2⟩ := y
              have ht := (one_sound h1.symm).1
              simp only [List.mem_cons, List.not_mem_nil, or_false] at ht
              rcases ht with ht | ht
              · exact absurd ht HE.out
              · rw [← h1, Rd.then_ok, if_pos ht] at h2; cases h2; rfl
    · obtain ⟨_, rfl, hc0⟩ := hx1
      have c3 : wr.cell? ⟨g, 3, none⟩ = some (.int .i64 E1) := by rw [blk_cell hb1]; rfl
      have u1 : (E1 == 0) = false := beq_eq_false_iff_ne.2 hc0
      have u2 : decide (E1 = 0) = false := decide_eq_false hc0
      have HC := Aside0.mk hXX
      clear hXX hb1 hc hc0 ho1 HD1
      go_wp2
      first | go_end0 | ((try simp only [Exit.inBlock, Exit.then]); refine bodyPost_ret (results_none rfl _ _ _) rfl ?_)
      exact ⟨rfl, l1, by rw [HC.out]; exact HR1.out, HST1.out, fun l2 r2 h2 => by rw [HC.out] at h2; cases h2⟩
end Go.Proofs.YtncokgdfkbgflaaDoor

namespace Go.Proofs.YtncokgdfkbgflaaDoor
open Go.RowKit Go.Shelf Go.Lib Go.Proofs.YtncokgdfkbgflaaDoorW.PrintWords Go.Proofs.YtncokgdfkbgflaaDoorW.PrintMore P
set_option linter.unusedVariables false
set_option linter.unusedSimpArgs false
theorem allf_rd : ∀ f, NodeRF f ∧ DirRF f := by
  have key : ∀ f, (∀ f', f' ≤ f → NodeRF f') ∧ DirRF f := by
    intro f
    induction f with
    | zero =>
      have h0 : ∀ f', f' ≤ 0 → NodeRF f' := fun f' h B g s r l w path deep _ _ _ _ _ _ hf => absurd hf (by omega)
      exact ⟨h0, dirf_rd 0 (fun f' h => h0 f' (by omega))⟩
    | succ f ih =>
      have hn : ∀ f', f' ≤ f + 1 → NodeRF f' := fun f' h => by
        rcases Nat.lt_or_ge f' (f + 1) with h1 | h1
        · exact ih.1 f' (by omega)
        · obtain rfl : f' = f + 1 := by omega
          exact nodef_rd f ih.2
      exact ⟨hn, dirf_rd (f + 1) (fun f' h => hn f' (by omega))⟩
  exact fun f => ⟨(key f).1 f (Nat.le_refl _), (key f).2⟩
theorem results_cell_tree {fn : Func} {p : Tmp} (h : fn.results = #[.cell p 28]) (tmps : Array Value) (w : World) (b : Nat) (v : Value) (c : Int) (hv1 : v.oneCell' = true) (hp : tmps.getD p undef = .pointer (some ⟨b, 0, none⟩)) (hb : w.heap[b]? = some (.cells #[v, .int .i64 c] 28 (0, 0))) :
    (results fn tmps).run Tryd.prog w = .ok (.agg #[v, .int .i64 c]) w := by
  have c0 : w.cell? ⟨b, 0, none⟩ = some v := by rw [blk_cell hb]; rfl
  have c1 : w.cell? ⟨b, 1, none⟩ = some (.int .i64 c) := by rw [blk_cell hb]; rfl
  have hu := Tryd.underlying28
  rw [Array.getD_eq_getD_getElem?] at hp
  simp only [results, h]
  simp [Sem.run_bind, Result.andThen, hp, go_sem, hu, c0, c1]
def GetRS (w : World) (x : Except Int (List Nd)) (e : Ending) (w' : World) : Prop :=
  Below w.heap.size w w' ∧ ((∃ c, x = .error c ∧ c ≠ 0 ∧ e = .returned (.agg #[.slice none 0 0, .int .i64 c])) ∨ (∃ l v, x = .ok l ∧ OwnRow NdR 68 3 w' w.heap.size v l ∧ e = .returned (.agg #[v, .int .i64 0])))
def finP (X : Rd (List Nd)) : Except Int (List Nd) := match X with | .error e => .error e | .ok (l, r) => if r = [] then .ok l else .error 4
theorem getP_def (s : List UInt8) (y : Rd (List UInt8)) (hy : y = oneP [wMark] s) : getP s = finP (y.then fun _ r => nodeP (s.length + 1) [] 0 [] r) := by
  subst hy
  rw [getP, must_one, Rd.then_then]
  rfl
def GetIs (gp : Except Int (List Nd)) (x : St) (l : List Nd) : Prop := match x with | .error c => gp = .error c | .ok _ => gp = .ok l
theorem Below.heap_setCell_same1 {w : World} {b : Nat} {v : Value} {c : Int} (h : w.heap[b]? = some (.cells #[.slice none 0 0, .int .i64 0] 28 (0, 0))) : ((w.setCell ⟨b, 0, none⟩ v).setCell ⟨b, 1, none⟩ (.int .i64 c)).heap[b]? = some (.cells #[v, .int .i64 c] 28 (0, 0)) :=
  blk_put (blk_put h 0 v rfl) 1 _ rfl
set_option maxRecDepth 100000 in
set_option maxHeartbeats 8000000 in
theorem getf_calls (s : ByteArray) (hs : s.size < 1000000000) (w : World) : Calls Tryd.prog 15 #[.string s] w (GetRS w (getP s.data.toList)) := by
  obtain ⟨w0, hw0⟩ : ∃ w0, w0 = (w.alloc (.cells #[.slice none 0 0, .int .i64 0] 28)).alloc (.cells (rfC s 0 (.slice none 0 0) 0) 76) := ⟨_, rfl⟩
  have hb0 : Below w.heap.size w w0 := by rw [hw0]; exact below_alloc (below_alloc (Below.refl _ _) _) _
  have hT0 : w0.heap[w.heap.size]? = some (.cells #[.slice none 0 0, .int .i64 0] 28 (0, 0)) := by rw [hw0]; exact blk_alloc (blk_new w _) _
  have hblk := blk_new (w.alloc (.cells #[.slice none 0 0, .int .i64 0] 28)) (.cells (rfC s 0 (.slice none 0 0) 0) 76)
  rw [World.size_alloc, ← hw0] at hblk
  have hrest : restB s 0 = s.data.toList := by simp [restB]
  have hr0 : RfAt w.heap.size (w.heap.size + 1) s (.ok s.data.toList) [] w0 := ⟨by omega, hs, 0, 0, .slice none 0 0, hblk, ⟨Nat.zero_le _, rfl, hrest.symm⟩, OwnRow.none_ _ _ _ _ _⟩
  have hon := one_new w.heap.size (w.heap.size + 1) s _ [] w0 hr0 hb0.size [wMark] (by decide) (by decide) #[.string ⟨#[110, 105, 120, 45, 97, 114, 99, 104, 105, 118, 101, 45, 49]⟩] rfl 1 rfl
  have hsz : w0.heap.size = w.heap.size + 2 := by rw [hw0]; simp
  rw [hsz, hw0] at hon
  have HON := Aside0.mk hon
  have HB0 := Aside0.mk hb0
  have HT0 := Aside0.mk hT0
  have HS := Aside0.mk hs
  clear hb0 hT0 hblk hrest hr0 hon hsz hs
  go_enter Tryd.func15, Tryd.ntmps15
  go_wp2_with (go_at_call 43; refine HON.out.mono ?_)
  rw [← hw0]
  change ∀ (e : Ending) (w1 : World), (e = .returned (.string (bsB (txtOf (oneP [wMark] s.data.toList)))) ∧ RfAt w.heap.size (w.heap.size + 1) s (stOf (oneP [wMark] s.data.toList)) [] w1 ∧ RfStep none w.heap.size (w.heap.size + 1) w0 w1) → _
  rintro e w1 ⟨rfl, hr1, hst1⟩
  obtain ⟨y, hy⟩ : ∃ y, y = oneP [wMark] s.data.toList := ⟨_, rfl⟩
  rw [← hy] at hr1 ⊢
  have HY := Aside0.mk hy
  have HT1 : Aside0 (w1.heap[w.heap.size]? = some (.cells #[.slice none 0 0, .int .i64 0] 28 (0, 0))) := ⟨hst1.all HT0.out (by omega)⟩
  have HST1 := Aside0.mk hst1
  clear hst1 hy hw0 HON
  cases y with
  | error c =>
    obtain ⟨l2, hl2⟩ : ∃ l2 : List Nd, l2 = [] := ⟨_, rfl⟩
    rw [← hl2] at hr1
    have HR2 : Aside0 (RfAt w.heap.size (w.heap.size + 1) s (.error c) l2 w1) := ⟨hr1⟩
    have hc := HR2.out.nz
    obtain ⟨at1, E1, v1, hb1, hx1, _⟩ := HR2.out.blk
    obtain ⟨_, rfl, _⟩ := hx1
    have c3 : w1.cell? ⟨w.heap.size + 1, 3, none⟩ = some (.int .i64 E1) := by rw [blk_cell hb1]; rfl
    have u1 : (E1 == 0) = false := beq_eq_false_iff_ne.2 hc
    have u2 : decide (E1 = 0) = false := decide_eq_false hc
    have HT2 := HT1
    have HST2 : Aside0 (RfStep (some 68) w.heap.size (w.heap.size + 1) w0 w1) := ⟨HST1.out.weak⟩
    clear hc hb1 hr1 hl2
    obtain ⟨at2, E2, v2, hb2, hx2, ho2⟩ := HR2.out.blk
    have c1 : w1.cell? ⟨w.heap.size + 1, 1, none⟩ = some (.int .i64 at2) := by rw [blk_cell hb2]; rfl
    have HWR := Aside0.mk (wrong_rf w.heap.size (w.heap.size + 1) s _ l2 w1 HR2.out (decide (at2 < s.size)))
    have HX2 := Aside0.mk hx2
    clear hb2 hx2 ho2
    go_wp2_with (go_at_call 45; refine HWR.out.mono ?_)
    rintro e w3 ⟨rfl, hr3, hst3⟩
    have HT3 : Aside0 (w3.heap[w.heap.size]? = some (.cells #[.slice none 0 0, .int .i64 0] 28 (0, 0))) := ⟨hst3.all HT2.out (by omega)⟩
    have HST3 := Aside0.mk (HST2.out.trans hst3.weak)
    have t0 : w3.cell? ⟨w.heap.size, 0, none⟩ = some (.slice none 0 0) := by rw [blk_cell HT3.out]; rfl
    have t1 : w3.cell? ⟨w.heap.size, 1, none⟩ = some (.int .i64 0) := by rw [blk_cell HT3.out]; rfl
    have z0 := blk_frozen HT3.out 0
    have z1 := blk_frozen HT3.out 1
    obtain ⟨at3, E3, v3, hb3, hx3, ho3⟩ := hr3.blk
    have cc3 : w3.cell? ⟨w.heap.size + 1, 3, none⟩ = some (.int .i64 E3) := by rw [blk_cell hb3]; rfl
    have c2 : w3.cell? ⟨w.heap.size + 1, 2, none⟩ = some v3 := by rw [blk_cell hb3]; rfl
    have hgr : GetIs (getP s.data.toList) (wrongS (decide (at2 < s.size)) (.error E1)) l2 := by rw [getP_def _ (.error E1) HY.out]; exact rfl
    obtain ⟨xx, hxx⟩ : ∃ xx, xx = wrongS (decide (at2 < s.size)) (.error E1) := ⟨_, rfl⟩
    rw [← hxx] at hx3 hgr
    have hbl : Below w.heap.size w w3 := HB0.out.trans HST3.out.below
    cases xx with
    | error c =>
      obtain ⟨_, rfl, hc⟩ := hx3
      have uu1 : (E3 == 0) = false := beq_eq_false_iff_ne.2 hc
      have uu2 : decide (E3 = 0) = false := decide_eq_false hc
      have u3 : (E3 != 0) = true := bne_iff_ne.2 hc
      have HC := Aside0.mk hc
      have HBL := Aside0.mk hbl
      have HGR := Aside0.mk hgr
      clear hc hbl hgr hxx hb3 ho3 hr3 hst3
      go_wp2
      refine bodyPost_ret (results_cell_tree rfl _ _ w.heap.size (.slice none 0 0) E3 rfl rfl ?_) rfl ?_
      · rw [Below.heap_setCell_same1 HT3.out]
      · exact ⟨(HBL.out.setCell (p := ⟨w.heap.size, 0, none⟩) (Nat.le_refl _) _).setCell (p := ⟨w.heap.size, 1, none⟩) (Nat.le_refl _) _, .inl ⟨E3, HGR.out, HC.out, rfl⟩⟩
    | ok r3 =>
      obtain ⟨_, rfl, _⟩ := hx3
      obtain ⟨A3, c3', rfl, _⟩ := ho3.slice_
      have HBL := Aside0.mk hbl
      have HGR := Aside0.mk hgr
      have HO3 := Aside0.mk ho3
      clear hbl hgr hxx hr3 hst3 ho3 hb3
      go_wp2
      refine bodyPost_ret (results_cell_tree rfl _ _ w.heap.size (.slice A3 l2.length c3') 0 rfl rfl ?_) rfl ?_
      · rw [Below.heap_setCell_same1 HT3.out]
      · refine ⟨(HBL.out.setCell (p := ⟨w.heap.size, 0, none⟩) (Nat.le_refl _) _).setCell (p := ⟨w.heap.size, 1, none⟩) (Nat.le_refl _) _, .inr ⟨l2, _, HGR.out, ?_, rfl⟩⟩
        exact own_cong HO3.out fun k hk => (Below.heap_setCell _ _ _ _ (fun e => (HO3.out.ne_block HT3.out (by decide)) (by rw [hk, e]))).trans (Below.heap_setCell _ _ _ _ (fun e => (HO3.out.ne_block HT3.out (by decide)) (by rw [hk, e])))
  | ok y =>
    obtain ⟨t, r1⟩ := y
    have hr1 : RfAt w.heap.size (w.heap.size + 1) s (.ok r1) [] w1 := hr1
    obtain ⟨at1, E1, v1, hb1, hx1, _⟩ := hr1.blk
    obtain ⟨_, rfl, _⟩ := hx1
    have c3 : w1.cell? ⟨w.heap.size + 1, 3, none⟩ = some (.int .i64 0) := by rw [blk_cell hb1]; rfl
    have hls := one_less HY.out.symm
    have hno := (allf_rd (s.data.toList.length + 1)).1 w.heap.size (w.heap.size + 1) s r1 [] w1 [] 0 hr1 (Nat.le_trans HB0.out.size HST1.out.below.size) (by decide) rfl (by decide) (by simp) (by omega)
    have HNO := Aside0.mk hno
    clear hb1 hr1 hls hno
    go_wp2_with (go_at_call 44; refine HNO.out.mono ?_)
    rintro e w2 ⟨rfl, l2, hr2, hst2, hl2⟩
    have HT2 : Aside0 (w2.heap[w.heap.size]? = some (.cells #[.slice none 0 0, .int .i64 0] 28 (0, 0))) := ⟨hst2.kept _ _ HT1.out (by omega) (fun c t fz e h => by cases e; cases h)⟩
    have HST2 : Aside0 (RfStep (some 68) w.heap.size (w.heap.size + 1) w0 w2) := ⟨HST1.out.weak.trans hst2⟩
    obtain ⟨X, hX⟩ : ∃ X, X = nodeP (s.data.toList.length + 1) [] 0 [] r1 := ⟨_, rfl⟩
    rw [← hX] at hr2 hl2
    have HR2 := Aside0.mk hr2
    have HL2 := Aside0.mk hl2
    have HGP : Aside0 (getP s.data.toList = finP X) := ⟨by rw [getP_def _ _ HY.out, hX]; rfl⟩
    clear hr2 hst2 hl2 hX HNO
    obtain ⟨at2, E2, v2, hb2, hx2, ho2⟩ := HR2.out.blk
    have c1 : w2.cell? ⟨w.heap.size + 1, 1, none⟩ = some (.int .i64 at2) := by rw [blk_cell hb2]; rfl
    have HWR := Aside0.mk (wrong_rf w.heap.size (w.heap.size + 1) s _ l2 w2 HR2.out (decide (at2 < s.size)))
    have HX2 := Aside0.mk hx2
    clear hb2 hx2 ho2
    go_wp2_with (go_at_call 45; refine HWR.out.mono ?_)
    rintro e w3 ⟨rfl, hr3, hst3⟩
    have HT3 : Aside0 (w3.heap[w.heap.size]? = some (.cells #[.slice none 0 0, .int .i64 0] 28 (0, 0))) := ⟨hst3.all HT2.out (by omega)⟩
    have HST3 := Aside0.mk (HST2.out.trans hst3.weak)
    have t0 : w3.cell? ⟨w.heap.size, 0, none⟩ = some (.slice none 0 0) := by rw [blk_cell HT3.out]; rfl
    have t1 : w3.cell? ⟨w.heap.size, 1, none⟩ = some (.int .i64 0) := by rw [blk_cell HT3.out]; rfl
    have z0 := blk_frozen HT3.out 0
    have z1 := blk_frozen HT3.out 1
    obtain ⟨at3, E3, v3, hb3, hx3, ho3⟩ := hr3.blk
    have cc3 : w3.cell? ⟨w.heap.size + 1, 3, none⟩ = some (.int .i64 E3) := by rw [blk_cell hb3]; rfl
    have c2 : w3.cell? ⟨w.heap.size + 1, 2, none⟩ = some v3 := by rw [blk_cell hb3]; rfl
    have hgr : GetIs (getP s.data.toList) (wrongS (decide (at2 < s.size)) (stOf X)) l2 := by
      rw [HGP.out]
      cases X with
      | error c => exact rfl
      | ok y =>
        obtain ⟨l, r⟩ := y
        obtain rfl := HL2.out l r rfl
        obtain ⟨hle, _, hr⟩ := HX2.out
        have hn := restB_nil hle
        show GetIs (if r = [] then .ok l2 else .error 4) (wrongS _ (.ok r)) l2
        by_cases hlt : at2 < s.size
        · rw [decide_eq_true hlt, if_neg (by rw [hr]; exact fun e => (hn.1 e) hlt)]
          exact rfl
        · rw [decide_eq_false hlt, if_pos (by rw [hr]; exact hn.2 hlt)]
          exact rfl
    obtain ⟨xx, hxx⟩ : ∃ xx, xx = wrongS (decide (at2 < s.size)) (stOf X) := ⟨_, rfl⟩
    rw [← hxx] at hx3 hgr
    have hbl : Below w.heap.size w w3 := HB0.out.trans HST3.out.below
    cases xx with
    | error c =>
      obtain ⟨_, rfl, hc⟩ := hx3
      have u1 : (E3 == 0) = false := beq_eq_false_iff_ne.2 hc
      have u2 : decide (E3 = 0) = false := decide_eq_false hc
      have u3 : (E3 != 0) = true := bne_iff_ne.2 hc
      have HC := Aside0.mk hc
      have HBL := Aside0.mk hbl
      have HGR := Aside0.mk hgr
      clear hc hbl hgr hxx hb3 ho3 hr3 hst3
      go_wp2
      refine bodyPost_ret (results_cell_tree rfl _ _ w.heap.size (.slice none 0 0) E3 rfl rfl ?_) rfl ?_
      · rw [Below.heap_setCell_same1 HT3.out]
      · exact ⟨(HBL.out.setCell (p := ⟨w.heap.size, 0, none⟩) (Nat.le_refl _) _).setCell (p := ⟨w.heap.size, 1, none⟩) (Nat.le_refl _) _, .inl ⟨E3, HGR.out, HC.out, rfl⟩⟩
    | ok r3 =>
      obtain ⟨_, rfl, _⟩ := hx3
      obtain ⟨A3, c3', rfl, _⟩ := ho3.slice_
      have HBL := Aside0.mk hbl
      have HGR := Aside0.mk hgr
      have HO3 := Aside0.mk ho3
      clear hbl hgr hxx hr3 hst3 ho3 hb3
      go_wp2
      refine bodyPost_ret (results_cell_tree rfl _ _ w.heap.size (.slice A3 l2.length c3') 0 rfl rfl ?_) rfl ?_
      · rw [Below.heap_setCell_same1 HT3.out]
      · refine ⟨(HBL.out.setCell (p := ⟨w.heap.size, 0, none⟩) (Nat.le_refl _) _).setCell (p := ⟨w.heap.size, 1, none⟩) (Nat.le_refl _) _, .inr ⟨l2, _, HGR.out, ?_, rfl⟩⟩
        exact own_cong HO3.out fun k hk => (Below.heap_setCell _ _ _ _ (fun e => (HO3.out.ne_block HT3.out (by decide)) (by rw [hk, e]))).trans (Below.heap_setCell _ _ _ _ (fun e => (HO3.out.ne_block HT3.out (by decide)) (by rw [hk, e])))
end Go.Proofs.YtncokgdfkbgflaaDoor

namespace Go.Proofs.YtncokgdfkbgflaaDoor
set_option linter.unusedVariables false
open Go.RowKit Go.Proofs.YtncokgdfkbgflaaDoorW.PrintWords Go.Proofs.YtncokgdfkbgflaaDoorW.PrintMore P
def toS (n : Nd) : S68 := ⟨bsB n.path, n.kind, bsB n.data⟩
theorem row_toS {w : World} {B : Nat} {v : Value} {l : List Nd} (h : OwnRow NdR 68 3 w B v l) : Kd.R k68 68 w B (fun _ => True) v (l.map toS) := by
  obtain ⟨inner, ho, hl, hr⟩ := h
  refine ⟨fun _ _ => trivial, inner, by rw [List.length_map]; exact ho, by rw [List.length_map]; exact hl, fun j p hj => ?_⟩
  rw [List.getElem?_map] at hj
  cases hx : l[j]? with
  | none => rw [hx] at hj; cases hj
  | some n =>
    rw [hx] at hj
    obtain rfl := Option.some.inj hj
    have := hr j n hx
    rw [NdR] at this
    show k68.M w B _ (toS n) ((inner.drop (j * 3)).take 3)
    rw [this]
    exact k68_mkM w B _ (toS n)
def getT (x : Except Int (List Nd)) : List S68 × Int := match x with | .ok l => (l.map toS, 0) | .error e => ([], e)
def parse_Get.f (a0 : ByteArray) : Option (List S68 × Int) := if a0.size < 1000000000 then some (getT (getP a0.data.toList)) else none
theorem parse_Get.calls (a0 : ByteArray) (r1 : List (S68)) (r2 : Int) (w : World) (h : parse_Get.f a0 = some (r1, r2)) :
    Calls Tryd.prog 14 #[.string a0] w fun e w' => ∃ v0_ : Value, e = .returned (.tuple #[v0_, .int .i64 r2]) ∧ Kd.R k68 68 w' w.heap.size (fun _ => True) v0_ r1 ∧ Below w.heap.size w w' := by
  unfold parse_Get.f at h
  split at h
  · rename_i hs
    have h := Option.some.inj h
    refine (get_calls may_ok a0 hs w).mono ?_
    rintro e w' ⟨hb, ⟨c, hx, hc, rfl⟩ | ⟨l, v, hx, ho, rfl⟩⟩
    · rw [hx] at h
      cases h
      exact ⟨_, rfl, Kd.R_nil _ _ _ _ _, hb⟩
    · rw [hx] at h
      cases h
      exact ⟨v, rfl, row_toS ho, hb⟩
  · cases h
def shelfmarkref10_Get.f (a0 : ByteArray) : Option (List S68 × Int) := if a0.size < 1000000000 then some (getT (getP a0.data.toList)) else none
theorem shelfmarkref10_Get.calls (a0 : ByteArray) (r1 : List (S68)) (r2 : Int) (w : World) (h : shelfmarkref10_Get.f a0 = some (r1, r2)) :
    Calls Tryd.prog 15 #[.string a0] w fun e w' => ∃ v0_ : Value, e = .returned (.agg #[v0_, .int .i64 r2]) ∧ Kd.R k68 68 w' w.heap.size (fun _ => True) v0_ r1 ∧ Below w.heap.size w w' := by
  unfold shelfmarkref10_Get.f at h
  split at h
  · rename_i hs
    have h := Option.some.inj h
    refine (getf_calls a0 hs w).mono ?_
    rintro e w' ⟨hb, ⟨c, hx, hc, rfl⟩ | ⟨l, v, hx, ho, rfl⟩⟩
    · rw [hx] at h
      cases h
      exact ⟨_, rfl, Kd.R_nil _ _ _ _ _, hb⟩
    · rw [hx] at h
      cases h
      exact ⟨v, rfl, row_toS ho, hb⟩
  · cases h
end Go.Proofs.YtncokgdfkbgflaaDoor

namespace Go.Proofs.YtncokgdfkbgflaaDoor.P
open Go.RowKit Go.Proofs.YtncokgdfkbgflaaDoorW.PrintWords Go.Proofs.YtncokgdfkbgflaaDoorW.PrintLast Go.Proofs.YtncokgdfkbgflaaDoorW.PrintMore
attribute [local go_sem] max2_int min2_int max_two min_two max_three min_three max_four min_four   -- for this text's walks alone
set_option linter.unusedVariables false
set_option linter.unusedSimpArgs false
def shelfmarklaw11_awake.f (k : Nat)  : Option (Bool) := (parse_Get.f (⟨#[]⟩ : ByteArray)).bind fun bt193 => ((shelfmarkref10_Pack.f k (([(⟨(⟨#[]⟩ : ByteArray), 2, (⟨#[120]⟩ : ByteArray)⟩ : S68)] : List (S68)))).bind fun bt200 => ((parse_Get.f bt200.1).bind fun bt202 => ((shelfmarklaw1_Err.f bt193.2).bind fun t206 => (if t206 = 5 then ((shelfmarklaw1_Err.f bt202.2).bind fun t207 => (if t207 = 0 then (if (bt202.1.length : Int) = 1 then (if 0 < (bt202.1.length : Int) then (if ((rd_T68 bt202.1 0).f1) = 2 then (some (((rd_T68 bt202.1 0).f2).toList == ([120] : List UInt8))) else (some false)) else (none)) else (some false)) else (some false))) else (some false)))))
set_option maxHeartbeats 8000000 in
set_option maxRecDepth 100000 in
theorem shelfmarklaw11_awake.calls (k : Nat)  (r : Bool) (w : World) (h : shelfmarklaw11_awake.f k  = some r) :
    Calls Tryd.prog 13 #[] w fun e w' => e = .returned (.bool r) ∧ Below w.heap.size w w' := by
  have hfd39_0 : ∀ (w : World) (fa0 : ByteArray) (fa1 : Int), (Instr.field 39 (.agg #[.string fa0, .int .i64 fa1]) 0).run Tryd.prog w = .ok (.string fa0) w := fun _ _ _ => by kernel_rfl
  have hfd39_1 : ∀ (w : World) (fa0 : ByteArray) (fa1 : Int), (Instr.field 39 (.agg #[.string fa0, .int .i64 fa1]) 1).run Tryd.prog w = .ok (.int .i64 fa1) w := fun _ _ _ => by kernel_rfl
  have hu68 := Tryd.underlying68
  have HB := Aside0.mk (Below.refl w.heap.size w)
  have H : ((parse_Get.f (⟨#[]⟩ : ByteArray)).bind fun bt193 => ((shelfmarkref10_Pack.f k (([(⟨(⟨#[]⟩ : ByteArray), 2, (⟨#[120]⟩ : ByteArray)⟩ : S68)] : List (S68)))).bind fun bt200 => ((parse_Get.f bt200.1).bind fun bt202 => ((shelfmarklaw1_Err.f bt193.2).bind fun t206 => (if t206 = 5 then ((shelfmarklaw1_Err.f bt202.2).bind fun t207 => (if t207 = 0 then (if (bt202.1.length : Int) = 1 then (if 0 < (bt202.1.length : Int) then (if ((rd_T68 bt202.1 0).f1) = 2 then (some (((rd_T68 bt202.1 0).f2).toList == ([120] : List UInt8))) else (some false)) else (none)) else (some false)) else (some false))) else (some false)))))) = some r := h
  clear h
  replace H := Option.bind_eq_some_iff.mp H
  obtain ⟨⟨t193, t194⟩, A10, H⟩ := H
  replace H : ((shelfmarkref10_Pack.f k (([(⟨(⟨#[]⟩ : ByteArray), 2, (⟨#[120]⟩ : ByteArray)⟩ : S68)] : List (S68)))).bind fun bt200 => ((parse_Get.f bt200.1).bind fun bt202 => ((shelfmarklaw1_Err.f t194).bind fun t206 => (if t206 = 5 then ((shelfmarklaw1_Err.f bt202.2).bind fun t207 => (if t207 = 0 then (if (bt202.1.length : Int) = 1 then (if 0 < (bt202.1.length : Int) then (if ((rd_T68 bt202.1 0).f1) = 2 then (some (((rd_T68 bt202.1 0).f2).toList == ([120] : List UInt8))) else (some false)) else (none)) else (some false)) else (some false))) else (some false))))) = some r := H
  have A1 := Aside0.mk A10
  clear A10
  obtain ⟨y197, hy197⟩ : ∃ y_ : List (S68), y_ = (([(⟨(⟨#[]⟩ : ByteArray), 2, (⟨#[120]⟩ : ByteArray)⟩ : S68)] : List (S68))) := ⟨_, rfl⟩
  replace H : ((shelfmarkref10_Pack.f k y197).bind fun bt200 => ((parse_Get.f bt200.1).bind fun bt202 => ((shelfmarklaw1_Err.f t194).bind fun t206 => (if t206 = 5 then ((shelfmarklaw1_Err.f bt202.2).bind fun t207 => (if t207 = 0 then (if (bt202.1.length : Int) = 1 then (if 0 < (bt202.1.length : Int) then (if ((rd_T68 bt202.1 0).f1) = 2 then (some (((rd_T68 bt202.1 0).f2).toList == ([120] : List UInt8))) else (some false)) else (none)) else (some false)) else (some false))) else (some false))))) = some r := by first | (rw [hy197]; with_reducible exact H) | (have H2_ := (Option.bind_some _ _).symm.trans H; rw [hy197]; with_reducible exact H2_) | (have H2_ := (Option.bind_some _ _).symm.trans H; with_reducible exact H2_) | with_reducible exact H | (rw [hy197]; exact H) | exact H
  have Ny197 := Aside0.mk hy197
  clear hy197
  replace H := Option.bind_eq_some_iff.mp H
  obtain ⟨⟨t200, t201⟩, A20, H⟩ := H
  replace H : ((parse_Get.f t200).bind fun bt202 => ((shelfmarklaw1_Err.f t194).bind fun t206 => (if t206 = 5 then ((shelfmarklaw1_Err.f bt202.2).bind fun t207 => (if t207 = 0 then (if (bt202.1.length : Int) = 1 then (if 0 < (bt202.1.length : Int) then (if ((rd_T68 bt202.1 0).f1) = 2 then (some (((rd_T68 bt202.1 0).f2).toList == ([120] : List UInt8))) else (some false)) else (none)) else (some false)) else (some false))) else (some false)))) = some r := H
  have A2 := Aside0.mk A20
  clear A20
  replace H := Option.bind_eq_some_iff.mp H
  obtain ⟨⟨t202, t203⟩, A30, H⟩ := H
  replace H : ((shelfmarklaw1_Err.f t194).bind fun t206 => (if t206 = 5 then ((shelfmarklaw1_Err.f t203).bind fun t207 => (if t207 = 0 then (if (t202.length : Int) = 1 then (if 0 < (t202.length : Int) then (if ((rd_T68 t202 0).f1) = 2 then (some (((rd_T68 t202 0).f2).toList == ([120] : List UInt8))) else (some false)) else (none)) else (some false)) else (some false))) else (some false))) = some r := H
  have A3 := Aside0.mk A30
  clear A30
  replace H := Option.bind_eq_some_iff.mp H
  obtain ⟨t206, A40, H⟩ := H
  replace H : (if t206 = 5 then ((shelfmarklaw1_Err.f t203).bind fun t207 => (if t207 = 0 then (if (t202.length : Int) = 1 then (if 0 < (t202.length : Int) then (if ((rd_T68 t202 0).f1) = 2 then (some (((rd_T68 t202 0).f2).toList == ([120] : List UInt8))) else (some false)) else (none)) else (some false)) else (some false))) else (some false)) = some r := H
  have A4 := Aside0.mk A40
  clear A40
  by_cases c5 : t206 = 5
  · rw [if_pos c5] at H
    have c5b0 : (t206 == 5) = true := beq_iff_eq.mpr c5
    have c5b1 : (t206 != 5) = false := bne_eq_false_iff_eq.mpr c5
    clear c5
    replace H := Option.bind_eq_some_iff.mp H
    obtain ⟨t207, A60, H⟩ := H
    replace H : (if t207 = 0 then (if (t202.length : Int) = 1 then (if 0 < (t202.length : Int) then (if ((rd_T68 t202 0).f1) = 2 then (some (((rd_T68 t202 0).f2).toList == ([120] : List UInt8))) else (some false)) else (none)) else (some false)) else (some false)) = some r := H
    have A6 := Aside0.mk A60
    clear A60
    by_cases c7 : t207 = 0
    · rw [if_pos c7] at H
      have c7b0 : (t207 == 0) = true := beq_iff_eq.mpr c7
      have c7b1 : (t207 != 0) = false := bne_eq_false_iff_eq.mpr c7
      clear c7
      by_cases c8 : (t202.length : Int) = 1
      · rw [if_pos c8] at H
        have c8b0 : ((t202.length : Int) == 1) = true := beq_iff_eq.mpr c8
        have c8b1 : ((t202.length : Int) != 1) = false := bne_eq_false_iff_eq.mpr c8
        clear c8
        by_cases c9 : 0 < (t202.length : Int)
        · rw [if_pos c9] at H
          have c9b0 : decide (0 < (t202.length : Int)) = true := decide_eq_true c9
          have c9b1 : decide (0 < t202.length) = true := decide_eq_true (by omega)
          clear c9
          by_cases c10 : ((rd_T68 t202 0).f1) = 2
          · rw [if_pos c10] at H
            have c10b0 : (((rd_T68 t202 0).f1) == 2) = true := beq_iff_eq.mpr c10
            have c10b1 : (((rd_T68 t202 0).f1) != 2) = false := bne_eq_false_iff_eq.mpr c10
            clear c10
            obtain rfl := Option.some.inj H
            go_enter Tryd.func13, Tryd.ntmps13
            go_wp2_with (first | ((with_reducible refine gate_callee (f := 14) rfl ?_); refine goesL_ (some 6) rfl rfl Tryd.func14 (by kernel_rfl) rfl #[.string (⟨#[]⟩ : ByteArray)] rfl (by (try simp only [List.map_toArray, List.map_cons, List.map_nil]); first | done | rfl | (simp only [List.length_drop, List.length_take]; rfl)) ?_; (with_reducible refine (parse_Get.calls (⟨#[]⟩ : ByteArray) t193 t194 _ A1.out).mono ?_); rintro e w11 ⟨v195, rfl, ho0, hb⟩; refine ⟨_, rfl, ?_⟩; have n0_ := Aside0.mk (Kd.R_lower ho0 (below_size (by repeat (first | (with_reducible first | exact HB.out | apply below_alloc | apply pw_below_drewN | apply below_drew1) | exact HB.out)))); have n1_ := Aside0.mk (below_step (by repeat (first | (with_reducible first | exact HB.out | apply below_alloc | apply pw_below_drewN | apply below_drew1) | exact HB.out)) hb); clear HB; have HO196 := n0_; have HB := n1_; clear n0_ n1_; (try clear hb); (try clear hb2); (try clear hk); (try clear hi); (try clear ho0)) | ((with_reducible refine gate_dst (N := 11) rfl ?_); (try (refine gate_guard (by rfl) ?_; dsimp only)); refine Kd.R_lit k68 _ 68 ?hg (N := 11) ?hd (xs := ([(⟨(⟨#[]⟩ : ByteArray), 2, (⟨#[120]⟩ : ByteArray)⟩ : S68)] : List (S68))) (inner := [.string (⟨#[]⟩ : ByteArray), .int .i64 2, .string (⟨#[120]⟩ : ByteArray)]) (ok := fun _ => True) (okp := fun _ => True) ?hr ?hp (fun _ hk => hk) trivial (Below.refl _ _) (Nat.le_refl _) (by simp) ?_; (case hd => rfl); (case hg => rfl); (case hr => first | (go_simp; done) | (go_simp; rfl)); (case hp => exact (Reps.c3 (show Kd.M k68 _ _ _ (⟨(⟨#[]⟩ : ByteArray), 2, (⟨#[120]⟩ : ByteArray)⟩ : S68) [.string (⟨#[]⟩ : ByteArray), .int .i64 2, .string (⟨#[120]⟩ : ByteArray)] from (k68_mkM _ _ _ (⟨(⟨#[]⟩ : ByteArray), 2, (⟨#[120]⟩ : ByteArray)⟩ : S68) )) (Reps.none _ _))); intro v198 w12 ho13 hb hg_ hnew_; clear hg_ hnew_; (first | rw [← Ny197.out] at ho13 | (simp only [Int.reduceToNat] at ho13; rw [← Ny197.out] at ho13)); have n0_ := Aside0.mk (Kd.R_elder' (by (with_reducible repeat (first | apply Kd.R_alloc | apply Kd.R_drewN | apply Kd.R_drew)); exact HO196.out) (Kd.R_base ho13) hb); have n1_ := Aside0.mk (Kd.R_lower (Kd.R_new' ho13 (Kd.R_lt (by (with_reducible repeat (first | apply Kd.R_alloc | apply Kd.R_drewN | apply Kd.R_drew)); exact HO196.out))) (below_size (by repeat (first | (with_reducible first | exact HB.out | apply below_alloc | apply pw_below_drewN | apply below_drew1) | exact HB.out)))); have n2_ := Aside0.mk (below_step (by repeat (first | (with_reducible first | exact HB.out | apply below_alloc | apply pw_below_drewN | apply below_drew1) | exact HB.out)) hb); clear HO196; clear HB; have HO196 := n0_; have HO199 := n1_; have HB := n2_; clear n0_ n1_ n2_; clear hb ho13; obtain ⟨Ao14, co14, eo14⟩ := Kd.R_slice HO199.out; subst eo14) | ((with_reducible refine gate_callee (f := 20) rfl ?_); refine goesL_ (some 12) rfl rfl Tryd.func20 (by kernel_rfl) rfl #[.slice Ao14 y197.length co14] rfl (by (try simp only [List.map_toArray, List.map_cons, List.map_nil]); first | done | rfl | (simp only [List.length_drop, List.length_take]; rfl)) ?_; (with_reducible refine (shelfmarkref10_Pack.calls k _ _ y197 t200 t201 _ ?side1 ?side2 A2.out).mono ?_); (case side1 => repeat (first | exact (Kd.R_reads' HO199.out).2.2 | (with_reducible refine Kd.C_alloc ?_ _) | (with_reducible refine Kd.C_drewN ?_ _) | (with_reducible refine Kd.C_drew ?_))); (case side2 => exact (Kd.R_reads' HO199.out).2.1); rintro e w15 ⟨rfl, hb⟩; refine ⟨_, rfl, ?_⟩; have n0_ := Aside0.mk (Kd.R_below (by (with_reducible repeat (first | apply Kd.R_alloc | apply Kd.R_drewN | apply Kd.R_drew)); exact HO196.out) hb); have n1_ := Aside0.mk (Kd.R_below (by (with_reducible repeat (first | apply Kd.R_alloc | apply Kd.R_drewN | apply Kd.R_drew)); exact HO199.out) hb); have n2_ := Aside0.mk (below_step (by repeat (first | (with_reducible first | exact HB.out | apply below_alloc | apply pw_below_drewN | apply below_drew1) | exact HB.out)) hb); clear HO196; clear HO199; clear HB; have HO196 := n0_; have HO199 := n1_; have HB := n2_; clear n0_ n1_ n2_; (try clear hb); (try clear hb2); (try clear hk); (try clear hi)) | ((with_reducible refine gate_callee (f := 14) rfl ?_); refine goesL_ (some 14) rfl rfl Tryd.func14 (by kernel_rfl) rfl #[.string t200] rfl (by (try simp only [List.map_toArray, List.map_cons, List.map_nil]); first | done | rfl | (simp only [List.length_drop, List.length_take]; rfl)) ?_; (with_reducible refine (parse_Get.calls t200 t202 t203 _ A3.out).mono ?_); rintro e w16 ⟨v204, rfl, ho0, hb⟩; refine ⟨_, rfl, ?_⟩; have n0_ := Aside0.mk (Kd.R_elder' (by (with_reducible repeat (first | apply Kd.R_alloc | apply Kd.R_drewN | apply Kd.R_drew)); exact HO196.out) (Kd.R_base ho0) hb); have n1_ := Aside0.mk (Kd.R_elder' (by (with_reducible repeat (first | apply Kd.R_alloc | apply Kd.R_drewN | apply Kd.R_drew)); exact HO199.out) (Kd.R_base ho0) hb); have n2_ := Aside0.mk (Kd.R_lower (Kd.R_new' (Kd.R_new' ho0 (Kd.R_lt (by (with_reducible repeat (first | apply Kd.R_alloc | apply Kd.R_drewN | apply Kd.R_drew)); exact HO196.out))) (Kd.R_lt (by (with_reducible repeat (first | apply Kd.R_alloc | apply Kd.R_drewN | apply Kd.R_drew)); exact HO199.out))) (below_size (by repeat (first | (with_reducible first | exact HB.out | apply below_alloc | apply pw_below_drewN | apply below_drew1) | exact HB.out)))); have n3_ := Aside0.mk (below_step (by repeat (first | (with_reducible first | exact HB.out | apply below_alloc | apply pw_below_drewN | apply below_drew1) | exact HB.out)) hb); clear HO196; clear HO199; clear HB; have HO196 := n0_; have HO199 := n1_; have HO205 := n2_; have HB := n3_; clear n0_ n1_ n2_ n3_; (try clear hb); (try clear hb2); (try clear hk); (try clear hi); (try clear ho0)) | ((with_reducible refine gate_callee (f := 17) rfl ?_); refine goesL_ (some 18) rfl rfl Tryd.func17 (by kernel_rfl) rfl #[.int .i64 t194] rfl (by (try simp only [List.map_toArray, List.map_cons, List.map_nil]); first | done | rfl | (simp only [List.length_drop, List.length_take]; rfl)) ?_; (with_reducible refine (shelfmarklaw1_Err.calls t194 t206 _ A4.out).mono ?_); rintro e w' ⟨rfl, ⟨nd, rfl⟩⟩; refine ⟨_, rfl, ?_⟩) | (go_at_call 17; (with_reducible refine (shelfmarklaw1_Err.calls t203 t207 _ A6.out).mono ?_); rintro e w' ⟨rfl, ⟨nd, rfl⟩⟩; obtain ⟨Ao17, co17, eo17⟩ := Kd.R_slice HO205.out; subst eo17; have p208 : 0 ≤ (0 : Int) := (by omega); have q208 : 0 < (t202.length : Int) := of_decide_eq_true (by first | (with_reducible assumption) | assumption); obtain ⟨ad208, e208, hx208_0, hx208_1, hx208_2⟩ := at_T68 (Kd.R_reads' HO205.out).2.2 0 p208 q208; cases e208; have qi208 : (0 < t202.length) = True := eq_true (by omega); (try rw [show ((0 : Int)).toNat = 0 from rfl] at hx208_0); (try rw [show 0 * 3 = 0 from rfl] at hx208_0); (try rw [Addr.add_zero'] at hx208_0); (try rw [show ((0 : Int)).toNat = 0 from rfl] at hx208_1); (try rw [show 0 * 3 = 0 from rfl] at hx208_1); (try rw [Addr.add_zero'] at hx208_1); (try rw [show ((0 : Int)).toNat = 0 from rfl] at hx208_2); (try rw [show 0 * 3 = 0 from rfl] at hx208_2); (try rw [Addr.add_zero'] at hx208_2); replace p208 := eq_true p208; replace q208 := eq_true q208; have p209 : 0 ≤ (0 : Int) := (by omega); have q209 : 0 < (t202.length : Int) := of_decide_eq_true (by first | (with_reducible assumption) | assumption); obtain ⟨ad209, e209, hx209_0, hx209_1, hx209_2⟩ := at_T68 (Kd.R_reads' HO205.out).2.2 0 p209 q209; obtain rfl : ad208 = ad209 := (by injection e209); have qi209 : (0 < t202.length) = True := eq_true (by omega); (try rw [show ((0 : Int)).toNat = 0 from rfl] at hx209_0); (try rw [show 0 * 3 = 0 from rfl] at hx209_0); (try rw [Addr.add_zero'] at hx209_0); (try rw [show ((0 : Int)).toNat = 0 from rfl] at hx209_1); (try rw [show 0 * 3 = 0 from rfl] at hx209_1); (try rw [Addr.add_zero'] at hx209_1); (try rw [show ((0 : Int)).toNat = 0 from rfl] at hx209_2); (try rw [show 0 * 3 = 0 from rfl] at hx209_2); (try rw [Addr.add_zero'] at hx209_2); replace p209 := eq_true p209; replace q209 := eq_true q209))
            go_ret
            exact ⟨by first | rfl | (simp [errW_none, errW_some] <;> rfl) | (simp [*, errW_none, errW_some] <;> rfl), by repeat (first | (with_reducible first | exact HB.out | apply below_alloc | apply pw_below_drewN | apply below_drew1) | exact HB.out)⟩
          · rw [if_neg c10] at H
            have c10b0 : (((rd_T68 t202 0).f1) == 2) = false := beq_eq_false_iff_ne.mpr c10
            have c10b1 : (((rd_T68 t202 0).f1) != 2) = true := bne_iff_ne.mpr c10
            obtain rfl := Option.some.inj H
            go_enter Tryd.func13, Tryd.ntmps13
            go_wp2_with (first | ((with_reducible refine gate_callee (f := 14) rfl ?_); refine goesL_ (some 6) rfl rfl Tryd.func14 (by kernel_rfl) rfl #[.string (⟨#[]⟩ : ByteArray)] rfl (by (try simp only [List.map_toArray, List.map_cons, List.map_nil]); first | done | rfl | (simp only [List.length_drop, List.length_take]; rfl)) ?_; (with_reducible refine (parse_Get.calls (⟨#[]⟩ : ByteArray) t193 t194 _ A1.out).mono ?_); rintro e w18 ⟨v195, rfl, ho0, hb⟩; refine ⟨_, rfl, ?_⟩; have n0_ := Aside0.mk (Kd.R_lower ho0 (below_size (by repeat (first | (with_reducible first | exact HB.out | apply below_alloc | apply pw_below_drewN | apply below_drew1) | exact HB.out)))); have n1_ := Aside0.mk (below_step (by repeat (first | (with_reducible first | exact HB.out | apply below_alloc | apply pw_below_drewN | apply below_drew1) | exact HB.out)) hb); clear HB; have HO196 := n0_; have HB := n1_; clear n0_ n1_; (try clear hb); (try clear hb2); (try clear hk); (try clear hi); (try clear ho0)) | ((with_reducible refine gate_dst (N := 11) rfl ?_); (try (refine gate_guard (by rfl) ?_; dsimp only)); refine Kd.R_lit k68 _ 68 ?hg (N := 11) ?hd (xs := ([(⟨(⟨#[]⟩ : ByteArray), 2, (⟨#[120]⟩ : ByteArray)⟩ : S68)] : List (S68))) (inner := [.string (⟨#[]⟩ : ByteArray), .int .i64 2, .string (⟨#[120]⟩ : ByteArray)]) (ok := fun _ => True) (okp := fun _ => True) ?hr ?hp (fun _ hk => hk) trivial (Below.refl _ _) (Nat.le_refl _) (by simp) ?_; (case hd => rfl); (case hg => rfl); (case hr => first | (go_simp; done) | (go_simp; rfl)); (case hp => exact (Reps.c3 (show Kd.M k68 _ _ _ (⟨(⟨#[]⟩ : ByteArray), 2, (⟨#[120]⟩ : ByteArray)⟩ : S68) [.string (⟨#[]⟩ : ByteArray), .int .i64 2, .string (⟨#[120]⟩ : ByteArray)] from (k68_mkM _ _ _ (⟨(⟨#[]⟩ : ByteArray), 2, (⟨#[120]⟩ : ByteArray)⟩ : S68) )) (Reps.none _ _))); intro v198 w19 ho20 hb hg_ hnew_; clear hg_ hnew_; (first | rw [← Ny197.out] at ho20 | (simp only [Int.reduceToNat] at ho20; rw [← Ny197.out] at ho20)); have n0_ := Aside0.mk (Kd.R_elder' (by (with_reducible repeat (first | apply Kd.R_alloc | apply Kd.R_drewN | apply Kd.R_drew)); exact HO196.out) (Kd.R_base ho20) hb); have n1_ := Aside0.mk (Kd.R_lower (Kd.R_new' ho20 (Kd.R_lt (by (with_reducible repeat (first | apply Kd.R_alloc | apply Kd.R_drewN | apply Kd.R_drew)); exact HO196.out))) (below_size (by repeat (first | (with_reducible first | exact HB.out | apply below_alloc | apply pw_below_drewN | apply below_drew1) | exact HB.out)))); have n2_ := Aside0.mk (below_step (by repeat (first | (with_reducible first | exact HB.out | apply below_alloc | apply pw_below_drewN | apply below_drew1) | exact HB.out)) hb); clear HO196; clear HB; have HO196 := n0_; have HO199 := n1_; have HB := n2_; clear n0_ n1_ n2_; clear hb ho20; obtain ⟨Ao21, co21, eo21⟩ := Kd.R_slice HO199.out; subst eo21) | ((with_reducible refine gate_callee (f := 20) rfl ?_); refine goesL_ (some 12) rfl rfl Tryd.func20 (by kernel_rfl) rfl #[.slice Ao21 y197.length co21] rfl (by (try simp only [List.map_toArray, List.map_cons, List.map_nil]); first | done | rfl | (simp only [List.length_drop, List.length_take]; rfl)) ?_; (with_reducible refine (shelfmarkref10_Pack.calls k _ _ y197 t200 t201 _ ?side1 ?side2 A2.out).mono ?_); (case side1 => repeat (first | exact (Kd.R_reads' HO199.out).2.2 | (with_reducible refine Kd.C_alloc ?_ _) | (with_reducible refine Kd.C_drewN ?_ _) | (with_reducible refine Kd.C_drew ?_))); (case side2 => exact (Kd.R_reads' HO199.out).2.1); rintro e w22 ⟨rfl, hb⟩; refine ⟨_, rfl, ?_⟩; have n0_ := Aside0.mk (Kd.R_below (by (with_reducible repeat (first | apply Kd.R_alloc | apply Kd.R_drewN | apply Kd.R_drew)); exact HO196.out) hb); have n1_ := Aside0.mk (Kd.R_below (by (with_reducible repeat (first | apply Kd.R_alloc | apply Kd.R_drewN | apply Kd.R_drew)); exact HO199.out) hb); have n2_ := Aside0.mk (below_step (by repeat (first | (with_reducible first | exact HB.out | apply below_alloc | apply pw_below_drewN | apply below_drew1) | exact HB.out)) hb); clear HO196; clear HO199; clear HB; have HO196 := n0_; have HO199 := n1_; have HB := n2_; clear n0_ n1_ n2_; (try clear hb); (try clear hb2); (try clear hk); (try clear hi)) | ((with_reducible refine gate_callee (f := 14) rfl ?_); refine goesL_ (some 14) rfl rfl Tryd.func14 (by kernel_rfl) rfl #[.string t200] rfl (by (try simp only [List.map_toArray, List.map_cons, List.map_nil]); first | done | rfl | (simp only [List.length_drop, List.length_take]; rfl)) ?_; (with_reducible refine (parse_Get.calls t200 t202 t203 _ A3.out).mono ?_); rintro e w23 ⟨v204, rfl, ho0, hb⟩; refine ⟨_, rfl, ?_⟩; have n0_ := Aside0.mk (Kd.R_elder' (by (with_reducible repeat (first | apply Kd.R_alloc | apply Kd.R_drewN | apply Kd.R_drew)); exact HO196.out) (Kd.R_base ho0) hb); have n1_ := Aside0.mk (Kd.R_elder' (by (with_reducible repeat (first | apply Kd.R_alloc | apply Kd.R_drewN | apply Kd.R_drew)); exact HO199.out) (Kd.R_base ho0) hb); have n2_ := Aside0.mk (Kd.R_lower (Kd.R_new' (Kd.R_new' ho0 (Kd.R_lt (by (with_reducible repeat (first | apply Kd.R_alloc | apply Kd.R_drewN | apply Kd.R_drew)); exact HO196.out))) (Kd.R_lt (by (with_reducible repeat (first | apply Kd.R_alloc | apply Kd.R_drewN | apply Kd.R_drew)); exact HO199.out))) (below_size (by repeat (first | (with_reducible first | exact HB.out | apply below_alloc | apply pw_below_drewN | apply below_drew1) | exact HB.out)))); have n3_ := Aside0.mk (below_step (by repeat (first | (with_reducible first | exact HB.out | apply below_alloc | apply pw_below_drewN | apply below_drew1) | exact HB.out)) hb); clear HO196; clear HO199; clear HB; have HO196 := n0_; have HO199 := n1_; have HO205 := n2_; have HB := n3_; clear n0_ n1_ n2_ n3_; (try clear hb); (try clear hb2); (try clear hk); (try clear hi); (try clear ho0)) | ((with_reducible refine gate_callee (f := 17) rfl ?_); refine goesL_ (some 18) rfl rfl Tryd.func17 (by kernel_rfl) rfl #[.int .i64 t194] rfl (by (try simp only [List.map_toArray, List.map_cons, List.map_nil]); first | done | rfl | (simp only [List.length_drop, List.length_take]; rfl)) ?_; (with_reducible refine (shelfmarklaw1_Err.calls t194 t206 _ A4.out).mono ?_); rintro e w' ⟨rfl, ⟨nd, rfl⟩⟩; refine ⟨_, rfl, ?_⟩) | (go_at_call 17; (with_reducible refine (shelfmarklaw1_Err.calls t203 t207 _ A6.out).mono ?_); rintro e w' ⟨rfl, ⟨nd, rfl⟩⟩; obtain ⟨Ao24, co24, eo24⟩ := Kd.R_slice HO205.out; subst eo24; have p208 : 0 ≤ (0 : Int) := (by omega); have q208 : 0 < (t202.length : Int) := of_decide_eq_true (by first | (with_reducible assumption) | assumption); obtain ⟨ad208, e208, hx208_0, hx208_1, hx208_2⟩ := at_T68 (Kd.R_reads' HO205.out).2.2 0 p208 q208; cases e208; have qi208 : (0 < t202.length) = True := eq_true (by omega); (try rw [show ((0 : Int)).toNat = 0 from rfl] at hx208_0); (try rw [show 0 * 3 = 0 from rfl] at hx208_0); (try rw [Addr.add_zero'] at hx208_0); (try rw [show ((0 : Int)).toNat = 0 from rfl] at hx208_1); (try rw [show 0 * 3 = 0 from rfl] at hx208_1); (try rw [Addr.add_zero'] at hx208_1); (try rw [show ((0 : Int)).toNat = 0 from rfl] at hx208_2); (try rw [show 0 * 3 = 0 from rfl] at hx208_2); (try rw [Addr.add_zero'] at hx208_2); replace p208 := eq_true p208; replace q208 := eq_true q208))
            go_ret
            exact ⟨by first | rfl | (simp [errW_none, errW_some] <;> rfl) | (simp [*, errW_none, errW_some] <;> rfl), by repeat (first | (with_reducible first | exact HB.out | apply below_alloc | apply pw_below_drewN | apply below_drew1) | exact HB.out)⟩
        · rw [if_neg c9] at H
          exact absurd H (by simp)
      · rw [if_neg c8] at H
        have c8b0 : ((t202.length : Int) == 1) = false := beq_eq_false_iff_ne.mpr c8
        have c8b1 : ((t202.length : Int) != 1) = true := bne_iff_ne.mpr c8
        obtain rfl := Option.some.inj H
        go_enter Tryd.func13, Tryd.ntmps13
        go_wp2_with (first | ((with_reducible refine gate_callee (f := 14) rfl ?_); refine goesL_ (some 6) rfl rfl Tryd.func14 (by kernel_rfl) rfl #[.string (⟨#[]⟩ : ByteArray)] rfl (by (try simp only [List.map_toArray, List.map_cons, List.map_nil]); first | done | rfl | (simp only [List.length_drop, List.length_take]; rfl)) ?_; (with_reducible refine (parse_Get.calls (⟨#[]⟩ : ByteArray) t193 t194 _ A1.out).mono ?_); rintro e w25 ⟨v195, rfl, ho0, hb⟩; refine ⟨_, rfl, ?_⟩; have n0_ := Aside0.mk (Kd.R_lower ho0 (below_size (by repeat (first | (with_reducible first | exact HB.out | apply below_alloc | apply pw_below_drewN | apply below_drew1) | exact HB.out)))); have n1_ := Aside0.mk (below_step (by repeat (first | (with_reducible first | exact HB.out | apply below_alloc | apply pw_below_drewN | apply below_drew1) | exact HB.out)) hb); clear HB; have HO196 := n0_; have HB := n1_; clear n0_ n1_; (try clear hb); (try clear hb2); (try clear hk); (try clear hi); (try clear ho0)) | ((with_reducible refine gate_dst (N := 11) rfl ?_); (try (refine gate_guard (by rfl) ?_; dsimp only)); refine Kd.R_lit k68 _ 68 ?hg (N := 11) ?hd (xs := ([(⟨(⟨#[]⟩ : ByteArray), 2, (⟨#[120]⟩ : ByteArray)⟩ : S68)] : List (S68))) (inner := [.string (⟨#[]⟩ : ByteArray), .int .i64 2, .string (⟨#[120]⟩ : ByteArray)]) (ok := fun _ => True) (okp := fun _ => True) ?hr ?hp (fun _ hk => hk) trivial (Below.refl _ _) (Nat.le_refl _) (by simp) ?_; (case hd => rfl); (case hg => rfl); (case hr => first | (go_simp; done) | (go_simp; rfl)); (case hp => exact (Reps.c3 (show Kd.M k68 _ _ _ (⟨(⟨#[]⟩ : ByteArray), 2, (⟨#[120]⟩ : ByteArray)⟩ : S68) [.string (⟨#[]⟩ : ByteArray), .int .i64 2, .string (⟨#[120]⟩ : ByteArray)] from (k68_mkM _ _ _ (⟨(⟨#[]⟩ : ByteArray), 2, (⟨#[120]⟩ : ByteArray)⟩ : S68) )) (Reps.none _ _))); intro v198 w26 ho27 hb hg_ hnew_; clear hg_ hnew_; (first | rw [← Ny197.out] at ho27 | (simp only [Int.reduceToNat] at ho27; rw [← Ny197.out] at ho27)); have n0_ := Aside0.mk (Kd.R_elder' (by (with_reducible repeat (first | apply Kd.R_alloc | apply Kd.R_drewN | apply Kd.R_drew)); exact HO196.out) (Kd.R_base ho27) hb); have n1_ := Aside0.mk (Kd.R_lower (Kd.R_new' ho27 (Kd.R_lt (by (with_reducible repeat (first | apply Kd.R_alloc | apply Kd.R_drewN | apply Kd.R_drew)); exact HO196.out))) (below_size (by repeat (first | (with_reducible first | exact HB.out | apply below_alloc | apply pw_below_drewN | apply below_drew1) | exact HB.out)))); have n2_ := Aside0.mk (below_step (by repeat (first | (with_reducible first | exact HB.out | apply below_alloc | apply pw_below_drewN | apply below_drew1) | exact HB.out)) hb); clear HO196; clear HB; have HO196 := n0_; have HO199 := n1_; have HB := n2_; clear n0_ n1_ n2_; clear hb ho27; obtain ⟨Ao28, co28, eo28⟩ := Kd.R_slice HO199.out; subst eo28) | ((with_reducible refine gate_callee (f := 20) rfl ?_); refine goesL_ (some 12) rfl rfl Tryd.func20 (by kernel_rfl) rfl #[.slice Ao28 y197.length co28] rfl (by (try simp only [List.map_toArray, List.map_cons, List.map_nil]); first | done | rfl | (simp only [List.length_drop, List.length_take]; rfl)) ?_; (with_reducible refine (shelfmarkref10_Pack.calls k _ _ y197 t200 t201 _ ?side1 ?side2 A2.out).mono ?_); (case side1 => repeat (first | exact (Kd.R_reads' HO199.out).2.2 | (with_reducible refine Kd.C_alloc ?_ _) | (with_reducible refine Kd.C_drewN ?_ _) | (with_reducible refine Kd.C_drew ?_))); (case side2 => exact (Kd.R_reads' HO199.out).2.1); rintro e w29 ⟨rfl, hb⟩; refine ⟨_, rfl, ?_⟩; have n0_ := Aside0.mk (Kd.R_below (by (with_reducible repeat (first | apply Kd.R_alloc | apply Kd.R_drewN | apply Kd.R_drew)); exact HO196.out) hb); have n1_ := Aside0.mk (Kd.R_below (by (with_reducible repeat (first | apply Kd.R_alloc | apply Kd.R_drewN | apply Kd.R_drew)); exact HO199.out) hb); have n2_ := Aside0.mk (below_step (by repeat (first | (with_reducible first | exact HB.out | apply below_alloc | apply pw_below_drewN | apply below_drew1) | exact HB.out)) hb); clear HO196; clear HO199; clear HB; have HO196 := n0_; have HO199 := n1_; have HB := n2_; clear n0_ n1_ n2_; (try clear hb); (try clear hb2); (try clear hk); (try clear hi)) | ((with_reducible refine gate_callee (f := 14) rfl ?_); refine goesL_ (some 14) rfl rfl Tryd.func14 (by kernel_rfl) rfl #[.string t200] rfl (by (try simp only [List.map_toArray, List.map_cons, List.map_nil]); first | done | rfl | (simp only [List.length_drop, List.length_take]; rfl)) ?_; (with_reducible refine (parse_Get.calls t200 t202 t203 _ A3.out).mono ?_); rintro e w30 ⟨v204, rfl, ho0, hb⟩; refine ⟨_, rfl, ?_⟩; have n0_ := Aside0.mk (Kd.R_elder' (by (with_reducible repeat (first | apply Kd.R_alloc | apply Kd.R_drewN | apply Kd.R_drew)); exact HO196.out) (Kd.R_base ho0) hb); have n1_ := Aside0.mk (Kd.R_elder' (by (with_reducible repeat (first | apply Kd.R_alloc | apply Kd.R_drewN | apply Kd.R_drew)); exact HO199.out) (Kd.R_base ho0) hb); have n2_ := Aside0.mk (Kd.R_lower (Kd.R_new' (Kd.R_new' ho0 (Kd.R_lt (by (with_reducible repeat (first | apply Kd.R_alloc | apply Kd.R_drewN | apply Kd.R_drew)); exact HO196.out))) (Kd.R_lt (by (with_reducible repeat (first | apply Kd.R_alloc | apply Kd.R_drewN | apply Kd.R_drew)); exact HO199.out))) (below_size (by repeat (first | (with_reducible first | exact HB.out | apply below_alloc | apply pw_below_drewN | apply below_drew1) | exact HB.out)))); have n3_ := Aside0.mk (below_step (by repeat (first | (with_reducible first | exact HB.out | apply below_alloc | apply pw_below_drewN | apply below_drew1) | exact HB.out)) hb); clear HO196; clear HO199; clear HB; have HO196 := n0_; have HO199 := n1_; have HO205 := n2_; have HB := n3_; clear n0_ n1_ n2_ n3_; (try clear hb); (try clear hb2); (try clear hk); (try clear hi); (try clear ho0)) | ((with_reducible refine gate_callee (f := 17) rfl ?_); refine goesL_ (some 18) rfl rfl Tryd.func17 (by kernel_rfl) rfl #[.int .i64 t194] rfl (by (try simp only [List.map_toArray, List.map_cons, List.map_nil]); first | done | rfl | (simp only [List.length_drop, List.length_take]; rfl)) ?_; (with_reducible refine (shelfmarklaw1_Err.calls t194 t206 _ A4.out).mono ?_); rintro e w' ⟨rfl, ⟨nd, rfl⟩⟩; refine ⟨_, rfl, ?_⟩) | (go_at_call 17; (with_reducible refine (shelfmarklaw1_Err.calls t203 t207 _ A6.out).mono ?_); rintro e w' ⟨rfl, ⟨nd, rfl⟩⟩; obtain ⟨Ao31, co31, eo31⟩ := Kd.R_slice HO205.out; subst eo31))
        go_ret
        exact ⟨by first | rfl | (simp [errW_none, errW_some] <;> rfl) | (simp [*, errW_none, errW_some] <;> rfl), by repeat (first | (with_reducible first | exact HB.out | apply below_alloc | apply pw_below_drewN | apply below_drew1) | exact HB.out)⟩
    · rw [if_neg c7] at H
      have c7b0 : (t207 == 0) = false := beq_eq_false_iff_ne.mpr c7
      have c7b1 : (t207 != 0) = true := bne_iff_ne.mpr c7
      obtain rfl := Option.some.inj H
      go_enter Tryd.func13, Tryd.ntmps13
      go_wp2_with (first | ((with_reducible refine gate_callee (f := 14) rfl ?_); refine goesL_ (some 6) rfl rfl Tryd.func14 (by kernel_rfl) rfl #[.string (⟨#[]⟩ : ByteArray)] rfl (by (try simp only [List.map_toArray, List.map_cons, List.map_nil]); first | done | rfl | (simp only [List.length_drop, List.length_take]; rfl)) ?_; (with_reducible refine (parse_Get.calls (⟨#[]⟩ : ByteArray) t193 t194 _ A1.out).mono ?_); rintro e w32 ⟨v195, rfl, ho0, hb⟩; refine ⟨_, rfl, ?_⟩; have n0_ := Aside0.mk (Kd.R_lower ho0 (below_size (by repeat (first | (with_reducible first | exact HB.out | apply below_alloc | apply pw_below_drewN | apply below_drew1) | exact HB.out)))); have n1_ := Aside0.mk (below_step (by repeat (first | (with_reducible first | exact HB.out | apply below_alloc | apply pw_below_drewN | apply below_drew1) | exact HB.out)) hb); clear HB; have HO196 := n0_; have HB := n1_; clear n0_ n1_; (try clear hb); (try clear hb2); (try clear hk); (try clear hi); (try clear ho0)) | ((with_reducible refine gate_dst (N := 11) rfl ?_); (try (refine gate_guard (by rfl) ?_; dsimp only)); refine Kd.R_lit k68 _ 68 ?hg (N := 11) ?hd (xs := ([(⟨(⟨#[]⟩ : ByteArray), 2, (⟨#[120]⟩ : ByteArray)⟩ : S68)] : List (S68))) (inner := [.string (⟨#[]⟩ : ByteArray), .int .i64 2, .string (⟨#[120]⟩ : ByteArray)]) (ok := fun _ => True) (okp := fun _ => True) ?hr ?hp (fun _ hk => hk) trivial (Below.refl _ _) (Nat.le_refl _) (by simp) ?_; (case hd => rfl); (case hg => rfl); (case hr => first | (go_simp; done) | (go_simp; rfl)); (case hp => exact (Reps.c3 (show Kd.M k68 _ _ _ (⟨(⟨#[]⟩ : ByteArray), 2, (⟨#[120]⟩ : ByteArray)⟩ : S68) [.string (⟨#[]⟩ : ByteArray), .int .i64 2, .string (⟨#[120]⟩ : ByteArray)] from (k68_mkM _ _ _ (⟨(⟨#[]⟩ : ByteArray), 2, (⟨#[120]⟩ : ByteArray)⟩ : S68) )) (Reps.none _ _))); intro v198 w33 ho34 hb hg_ hnew_; clear hg_ hnew_; (first | rw [← Ny197.out] at ho34 | (simp only [Int.reduceToNat] at ho34; rw [← Ny197.out] at ho34)); have n0_ := Aside0.mk (Kd.R_elder' (by (with_reducible repeat (first | apply Kd.R_alloc | apply Kd.R_drewN | apply Kd.R_drew)); exact HO196.out) (Kd.R_base ho34) hb); have n1_ := Aside0.mk (Kd.R_lower (Kd.R_new' ho34 (Kd.R_lt (by (with_reducible repeat (first | apply Kd.R_alloc | apply Kd.R_drewN | apply Kd.R_drew)); exact HO196.out))) (below_size (by repeat (first | (with_reducible first | exact HB.out | apply below_alloc | apply pw_below_drewN | apply below_drew1) | exact HB.out)))); have n2_ := Aside0.mk (below_step (by repeat (first | (with_reducible first | exact HB.out | apply below_alloc | apply pw_below_drewN | apply below_drew1) | exact HB.out)) hb); clear HO196; clear HB; have HO196 := n0_; have HO199 := n1_; have HB := n2_; clear n0_ n1_ n2_; clear hb ho34; obtain ⟨Ao35, co35, eo35⟩ := Kd.R_slice HO199.out; subst eo35) | ((with_reducible refine gate_callee (f := 20) rfl ?_); refine goesL_ (some 12) rfl rfl Tryd.func20 (by kernel_rfl) rfl #[.slice Ao35 y197.length co35] rfl (by (try simp only [List.map_toArray, List.map_cons, List.map_nil]); first | done | rfl | (simp only [List.length_drop, List.length_take]; rfl)) ?_; (with_reducible refine (shelfmarkref10_Pack.calls k _ _ y197 t200 t201 _ ?side1 ?side2 A2.out).mono ?_); (case side1 => repeat (first | exact (Kd.R_reads' HO199.out).2.2 | (with_reducible refine Kd.C_alloc ?_ _) | (with_reducible refine Kd.C_drewN ?_ _) | (with_reducible refine Kd.C_drew ?_))); (case side2 => exact (Kd.R_reads' HO199.out).2.1); rintro e w36 ⟨rfl, hb⟩; refine ⟨_, rfl, ?_⟩; have n0_ := Aside0.mk (Kd.R_below (by (with_reducible repeat (first | apply Kd.R_alloc | apply Kd.R_drewN | apply Kd.R_drew)); exact HO196.out) hb); have n1_ := Aside0.mk (Kd.R_below (by (with_reducible repeat (first | apply Kd.R_alloc | apply Kd.R_drewN | apply Kd.R_drew)); exact HO199.out) hb); have n2_ := Aside0.mk (below_step (by repeat (first | (with_reducible first | exact HB.out | apply below_alloc | apply pw_below_drewN | apply below_drew1) | exact HB.out)) hb); clear HO196; clear HO199; clear HB; have HO196 := n0_; have HO199 := n1_; have HB := n2_; clear n0_ n1_ n2_; (try clear hb); (try clear hb2); (try clear hk); (try clear hi)) | ((with_reducible refine gate_callee (f := 14) rfl ?_); refine goesL_ (some 14) rfl rfl Tryd.func14 (by kernel_rfl) rfl #[.string t200] rfl (by (try simp only [List.map_toArray, List.map_cons, List.map_nil]); first | done | rfl | (simp only [List.length_drop, List.length_take]; rfl)) ?_; (with_reducible refine (parse_Get.calls t200 t202 t203 _ A3.out).mono ?_); rintro e w37 ⟨v204, rfl, ho0, hb⟩; refine ⟨_, rfl, ?_⟩; have n0_ := Aside0.mk (Kd.R_elder' (by (with_reducible repeat (first | apply Kd.R_alloc | apply Kd.R_drewN | apply Kd.R_drew)); exact HO196.out) (Kd.R_base ho0) hb); have n1_ := Aside0.mk (Kd.R_elder' (by (with_reducible repeat (first | apply Kd.R_alloc | apply Kd.R_drewN | apply Kd.R_drew)); exact HO199.out) (Kd.R_base ho0) hb); have n2_ := Aside0.mk (Kd.R_lower (Kd.R_new' (Kd.R_new' ho0 (Kd.R_lt (by (with_reducible repeat (first | apply Kd.R_alloc | apply Kd.R_drewN | apply Kd.R_drew)); exact HO196.out))) (Kd.R_lt (by (with_reducible repeat (first | apply Kd.R_alloc | apply Kd.R_drewN | apply Kd.R_drew)); exact HO199.out))) (below_size (by repeat (first | (with_reducible first | exact HB.out | apply below_alloc | apply pw_below_drewN | apply below_drew1) | exact HB.out)))); have n3_ := Aside0.mk (below_step (by repeat (first | (with_reducible first | exact HB.out | apply below_alloc | apply pw_below_drewN | apply below_drew1) | exact HB.out)) hb); clear HO196; clear HO199; clear HB; have HO196 := n0_; have HO199 := n1_; have HO205 := n2_; have HB := n3_; clear n0_ n1_ n2_ n3_; (try clear hb); (try clear hb2); (try clear hk); (try clear hi); (try clear ho0)) | ((with_reducible refine gate_callee (f := 17) rfl ?_); refine goesL_ (some 18) rfl rfl Tryd.func17 (by kernel_rfl) rfl #[.int .i64 t194] rfl (by (try simp only [List.map_toArray, List.map_cons, List.map_nil]); first | done | rfl | (simp only [List.length_drop, List.length_take]; rfl)) ?_; (with_reducible refine (shelfmarklaw1_Err.calls t194 t206 _ A4.out).mono ?_); rintro e w' ⟨rfl, ⟨nd, rfl⟩⟩; refine ⟨_, rfl, ?_⟩) | (go_at_call 17; (with_reducible refine (shelfmarklaw1_Err.calls t203 t207 _ A6.out).mono ?_); rintro e w' ⟨rfl, ⟨nd, rfl⟩⟩))
      go_ret
      exact ⟨by first | rfl | (simp [errW_none, errW_some] <;> rfl) | (simp [*, errW_none, errW_some] <;> rfl), by repeat (first | (with_reducible first | exact HB.out | apply below_alloc | apply pw_below_drewN | apply below_drew1) | exact HB.out)⟩
  · rw [if_neg c5] at H
    have c5b0 : (t206 == 5) = false := beq_eq_false_iff_ne.mpr c5
    have c5b1 : (t206 != 5) = true := bne_iff_ne.mpr c5
    obtain rfl := Option.some.inj H
    go_enter Tryd.func13, Tryd.ntmps13
    go_wp2_with (first | ((with_reducible refine gate_callee (f := 14) rfl ?_); refine goesL_ (some 6) rfl rfl Tryd.func14 (by kernel_rfl) rfl #[.string (⟨#[]⟩ : ByteArray)] rfl (by (try simp only [List.map_toArray, List.map_cons, List.map_nil]); first | done | rfl | (simp only [List.length_drop, List.length_take]; rfl)) ?_; (with_reducible refine (parse_Get.calls (⟨#[]⟩ : ByteArray) t193 t194 _ A1.out).mono ?_); rintro e w38 ⟨v195, rfl, ho0, hb⟩; refine ⟨_, rfl, ?_⟩; have n0_ := Aside0.mk (Kd.R_lower ho0 (below_size (by repeat (first | (with_reducible first | exact HB.out | apply below_alloc | apply pw_below_drewN | apply below_drew1) | exact HB.out)))); have n1_ := Aside0.mk (below_step (by repeat (first | (with_reducible first | exact HB.out | apply below_alloc | apply pw_below_drewN | apply below_drew1) | exact HB.out)) hb); clear HB; have HO196 := n0_; have HB := n1_; clear n0_ n1_; (try clear hb); (try clear hb2); (try clear hk); (try clear hi); (try clear ho0)) | ((with_reducible refine gate_dst (N := 11) rfl ?_); (try (refine gate_guard (by rfl) ?_; dsimp only)); refine Kd.R_lit k68 _ 68 ?hg (N := 11) ?hd (xs := ([(⟨(⟨#[]⟩ : ByteArray), 2, (⟨#[120]⟩ : ByteArray)⟩ : S68)] : List (S68))) (inner := [.string (⟨#[]⟩ : ByteArray), .int .i64 2, .string (⟨#[120]⟩ : ByteArray)]) (ok := fun _ => True) (okp := fun _ => True) ?hr ?hp (fun _ hk => hk) trivial (Below.refl _ _) (Nat.le_refl _) (by simp) ?_; (case hd => rfl); (case hg => rfl); (case hr => first | (go_simp; done) | (go_simp; rfl)); (case hp => exact (Reps.c3 (show Kd.M k68 _ _ _ (⟨(⟨#[]⟩ : ByteArray), 2, (⟨#[120]⟩ : ByteArray)⟩ : S68) [.string (⟨#[]⟩ : ByteArray), .int .i64 2, .string (⟨#[120]⟩ : ByteArray)] from (k68_mkM _ _ _ (⟨(⟨#[]⟩ : ByteArray), 2, (⟨#[120]⟩ : ByteArray)⟩ : S68) )) (Reps.none _ _))); intro v198 w39 ho40 hb hg_ hnew_; clear hg_ hnew_; (first | rw [← Ny197.out] at ho40 | (simp only [Int.reduceToNat] at ho40; rw [← Ny197.out] at ho40)); have n0_ := Aside0.mk (Kd.R_elder' (by (with_reducible repeat (first | apply Kd.R_alloc | apply Kd.R_drewN | apply Kd.R_drew)); exact HO196.out) (Kd.R_base ho40) hb); have n1_ := Aside0.mk (Kd.R_lower (Kd.R_new' ho40 (Kd.R_lt (by (with_reducible repeat (first | apply Kd.R_alloc | apply Kd.R_drewN | apply Kd.R_drew)); exact HO196.out))) (below_size (by repeat (first | (with_reducible first | exact HB.out | apply below_alloc | apply pw_below_drewN | apply below_drew1) | exact HB.out)))); have n2_ := Aside0.mk (below_step (by repeat (first | (with_reducible first | exact HB.out | apply below_alloc | apply pw_below_drewN | apply below_drew1) | exact HB.out)) hb); clear HO196; clear HB; have HO196 := n0_; have HO199 := n1_; have HB := n2_; clear n0_ n1_ n2_; clear hb ho40; obtain ⟨Ao41, co41, eo41⟩ := Kd.R_slice HO199.out; subst eo41) | ((with_reducible refine gate_callee (f := 20) rfl ?_); refine goesL_ (some 12) rfl rfl Tryd.func20 (by kernel_rfl) rfl #[.slice Ao41 y197.length co41] rfl (by (try simp only [List.map_toArray, List.map_cons, List.map_nil]); first | done | rfl | (simp only [List.length_drop, List.length_take]; rfl)) ?_; (with_reducible refine (shelfmarkref10_Pack.calls k _ _ y197 t200 t201 _ ?side1 ?side2 A2.out).mono ?_); (case side1 => repeat (first | exact (Kd.R_reads' HO199.out).2.2 | (with_reducible refine Kd.C_alloc ?_ _) | (with_reducible refine Kd.C_drewN ?_ _) | (with_reducible refine Kd.C_drew ?_))); (case side2 => exact (Kd.R_reads' HO199.out).2.1); rintro e w42 ⟨rfl, hb⟩; refine ⟨_, rfl, ?_⟩; have n0_ := Aside0.mk (Kd.R_below (by (with_reducible repeat (first | apply Kd.R_alloc | apply Kd.R_drewN | apply Kd.R_drew)); exact HO196.out) hb); have n1_ := Aside0.mk (Kd.R_below (by (with_reducible repeat (first | apply Kd.R_alloc | apply Kd.R_drewN | apply Kd.R_drew)); exact HO199.out) hb); have n2_ := Aside0.mk (below_step (by repeat (first | (with_reducible first | exact HB.out | apply below_alloc | apply pw_below_drewN | apply below_drew1) | exact HB.out)) hb); clear HO196; clear HO199; clear HB; have HO196 := n0_; have HO199 := n1_; have HB := n2_; clear n0_ n1_ n2_; (try clear hb); (try clear hb2); (try clear hk); (try clear hi)) | ((with_reducible refine gate_callee (f := 14) rfl ?_); refine goesL_ (some 14) rfl rfl Tryd.func14 (by kernel_rfl) rfl #[.string t200] rfl (by (try simp only [List.map_toArray, List.map_cons, List.map_nil]); first | done | rfl | (simp only [List.length_drop, List.length_take]; rfl)) ?_; (with_reducible refine (parse_Get.calls t200 t202 t203 _ A3.out).mono ?_); rintro e w43 ⟨v204, rfl, ho0, hb⟩; refine ⟨_, rfl, ?_⟩; have n0_ := Aside0.mk (Kd.R_elder' (by (with_reducible repeat (first | apply Kd.R_alloc | apply Kd.R_drewN | apply Kd.R_drew)); exact HO196.out) (Kd.R_base ho0) hb); have n1_ := Aside0.mk (Kd.R_elder' (by (with_reducible repeat (first | apply Kd.R_alloc | apply Kd.R_drewN | apply Kd.R_drew)); exact HO199.out) (Kd.R_base ho0) hb); have n2_ := Aside0.mk (Kd.R_lower (Kd.R_new' (Kd.R_new' ho0 (Kd.R_lt (by (with_reducible repeat (first | apply Kd.R_alloc | apply Kd.R_drewN | apply Kd.R_drew)); exact HO196.out))) (Kd.R_lt (by (with_reducible repeat (first | apply Kd.R_alloc | apply Kd.R_drewN | apply Kd.R_drew)); exact HO199.out))) (below_size (by repeat (first | (with_reducible first | exact HB.out | apply below_alloc | apply pw_below_drewN | apply below_drew1) | exact HB.out)))); have n3_ := Aside0.mk (below_step (by repeat (first | (with_reducible first | exact HB.out | apply below_alloc | apply pw_below_drewN | apply below_drew1) | exact HB.out)) hb); clear HO196; clear HO199; clear HB; have HO196 := n0_; have HO199 := n1_; have HO205 := n2_; have HB := n3_; clear n0_ n1_ n2_ n3_; (try clear hb); (try clear hb2); (try clear hk); (try clear hi); (try clear ho0)) | ((with_reducible refine gate_callee (f := 17) rfl ?_); refine goesL_ (some 18) rfl rfl Tryd.func17 (by kernel_rfl) rfl #[.int .i64 t194] rfl (by (try simp only [List.map_toArray, List.map_cons, List.map_nil]); first | done | rfl | (simp only [List.length_drop, List.length_take]; rfl)) ?_; (with_reducible refine (shelfmarklaw1_Err.calls t194 t206 _ A4.out).mono ?_); rintro e w' ⟨rfl, ⟨nd, rfl⟩⟩; refine ⟨_, rfl, ?_⟩))
    go_ret
    exact ⟨by first | rfl | (simp [errW_none, errW_some] <;> rfl) | (simp [*, errW_none, errW_some] <;> rfl), by repeat (first | (with_reducible first | exact HB.out | apply below_alloc | apply pw_below_drewN | apply below_drew1) | exact HB.out)⟩
end Go.Proofs.YtncokgdfkbgflaaDoor.P

namespace Go.Proofs.YtncokgdfkbgflaaDoor.P
open Go.RowKit Go.Proofs.YtncokgdfkbgflaaDoorW.PrintWords Go.Proofs.YtncokgdfkbgflaaDoorW.PrintLast Go.Proofs.YtncokgdfkbgflaaDoorW.PrintMore
attribute [local go_sem] max2_int min2_int max_two min_two max_three min_three max_four min_four   -- for this text's walks alone
set_option linter.unusedVariables false
set_option linter.unusedSimpArgs false
theorem eqA68 (d : Nat) (w : World) (x0 y0 : ByteArray) (x1 y1 : Int) (x2 y2 : ByteArray) :
    (Op.equalIn (d + 2) 68 (.agg #[.string x0, .int .i64 x1, .string x2]) (.agg #[.string y0, .int .i64 y1, .string y2])).run Tryd.prog w = .ok (x0.toList == y0.toList && (x1 == y1 && (x2.toList == y2.toList))) w := by
  refine eqA_of Tryd.underlying68 (by kernel_rfl) ?_
  refine eqf_cons (by rfl) (by go_simp; rfl) (by go_simp; rfl) (by go_simp) ?_
  refine eqf_cons (by rfl) (by go_simp; rfl) (by go_simp; rfl) (by go_simp) ?_
  exact eqf_last (by rfl) (by go_simp; rfl) (by go_simp; rfl) (by go_simp)
end Go.Proofs.YtncokgdfkbgflaaDoor.P

namespace Go.Proofs.YtncokgdfkbgflaaDoor.P
open Go.RowKit Go.Proofs.YtncokgdfkbgflaaDoorW.PrintWords Go.Proofs.YtncokgdfkbgflaaDoorW.PrintLast Go.Proofs.YtncokgdfkbgflaaDoorW.PrintMore
attribute [local go_sem] max2_int min2_int max_two min_two max_three min_three max_four min_four   -- for this text's walks alone
set_option linter.unusedVariables false
set_option linter.unusedSimpArgs false
attribute [local go_sem high] eqA68
def shelfmarkref10_Same.l0 : Nat → List (S68) → List (S68) → Int → Option (Bool)
  | 0, _, _, _ => none
  | k + 1, x0, x1, x5 => if x5 < (x0.length : Int) then (if 0 ≤ x5 then (if x5 < (x1.length : Int) then (if (!((((rd_T68 x0 x5).f0).toList) == (((rd_T68 x1 x5).f0).toList)) || (!(((rd_T68 x0 x5).f1) == ((rd_T68 x1 x5).f1)) || (!((((rd_T68 x0 x5).f2).toList) == (((rd_T68 x1 x5).f2).toList))))) = true then (some false) else (shelfmarkref10_Same.l0 k x0 x1 (wrap64 (x5 + 1)))) else (none)) else (none)) else (some true)
def shelfmarkref10_Same.f (k : Nat) (l0 : List (S68)) (l1 : List (S68)) : Option (Bool) := if (l0.length : Int) = (l1.length : Int) then (shelfmarkref10_Same.l0 k l0 l1 0) else (some false)
set_option maxHeartbeats 8000000 in
set_option maxRecDepth 100000 in
theorem shelfmarkref10_Same.calls (k : Nat) (A0 : Option Addr) (c0 : Nat) (l0 : List (S68)) (A1 : Option Addr) (c1 : Nat) (l1 : List (S68)) (r : Bool) (w : World) (hr0 : Kd.C k68 w A0 l0.length l0) (hc0 : l0.length ≤ c0) (hr1 : Kd.C k68 w A1 l1.length l1) (hc1 : l1.length ≤ c1) (h : shelfmarkref10_Same.f k l0 l1 = some r) :
    Calls Tryd.prog 16 #[.slice A0 l0.length c0, .slice A1 l1.length c1] w fun e w' => e = .returned (.bool r) ∧ Drawn0 w w' := by
  have hu68 := Tryd.underlying68
  have HR0 := Aside0.mk hr0
  have HC0 := Aside0.mk hc0
  clear hr0 hc0
  have HR1 := Aside0.mk hr1
  have HC1 := Aside0.mk hc1
  clear hr1 hc1
  have H : (if (l0.length : Int) = (l1.length : Int) then (shelfmarkref10_Same.l0 k l0 l1 0) else (some false)) = some r := h
  clear h
  by_cases c3 : (l0.length : Int) = (l1.length : Int)
  · rw [if_pos c3] at H
    have c3b0 : ((l0.length : Int) == (l1.length : Int)) = true := beq_iff_eq.mpr c3
    have c3b1 : ((l0.length : Int) != (l1.length : Int)) = false := bne_eq_false_iff_eq.mpr c3
    have c3b2 : (l0.length == l1.length) = true := by first | simpa using c3 | (simp at c3 ⊢; omega)
    clear c3
    have H' := Aside0.mk H
    clear H
    go_enter Tryd.func16, Tryd.ntmps16
    go_wp2
    repeat (go_quiet (fail); try go_wp2)
    go_loopg [5] k (fun kq v5 w' => ∃ (x5_1 : Int), v5 = .int .i64 x5_1 ∧ Aside0 (shelfmarkref10_Same.l0 kq l0 l1 x5_1 = some r) ∧ Aside0 (kq ≤ k) ∧ Drawn0 w w')
    case atStart => exact ⟨(0), (by first | rfl | (simp; done) | (simp [*]; done) | (congr 1; rw [Bool.eq_iff_iff]; simp [bne]; done) | (rw [Bool.eq_iff_iff]; simp [bne]; done)), H', ⟨Nat.le_refl _⟩, by repeat (first | exact Drawn0.refl _ | apply Drawn0.step)⟩
    case round =>
      clear H'
      try clear c1
      try clear p2
      try clear c3
      try clear c3b0
      try clear c3b1
      try clear c3b2
      obtain ⟨x5_1, rfl, HA, HK1, ⟨m1, rfl⟩⟩ := hrel
      cases gk with
      | zero => exact absurd HA.out (by simp [shelfmarkref10_Same.l0])
      | succ k1 =>
        have H := HA.out
        clear HA
        simp only [shelfmarkref10_Same.l0] at H
        by_cases c4 : x5_1 < (l0.length : Int)
        · rw [if_pos c4] at H
          have c4b0 : decide (x5_1 < (l0.length : Int)) = true := decide_eq_true c4
          clear c4
          by_cases c5 : 0 ≤ x5_1
          · rw [if_pos c5] at H
            have c5b0 : decide (0 ≤ x5_1) = true := decide_eq_true c5
            clear c5
            by_cases c6 : x5_1 < (l1.length : Int)
            · rw [if_pos c6] at H
              have c6b0 : decide (x5_1 < (l1.length : Int)) = true := decide_eq_true c6
              clear c6
              by_cases c7 : (!((((rd_T68 l0 x5_1).f0).toList) == (((rd_T68 l1 x5_1).f0).toList)) || (!(((rd_T68 l0 x5_1).f1) == ((rd_T68 l1 x5_1).f1)) || (!((((rd_T68 l0 x5_1).f2).toList) == (((rd_T68 l1 x5_1).f2).toList))))) = true
              · rw [if_pos c7] at H
                have c7b0 : (!((((rd_T68 l0 x5_1).f0).toList) == (((rd_T68 l1 x5_1).f0).toList)) || (!(((rd_T68 l0 x5_1).f1) == ((rd_T68 l1 x5_1).f1)) || (!((((rd_T68 l0 x5_1).f2).toList) == (((rd_T68 l1 x5_1).f2).toList))))) = true := c7
                clear c7
                obtain rfl := Option.some.inj H
                have p210 : 0 ≤ (x5_1 : Int) := of_decide_eq_true (by first | (with_reducible assumption) | assumption)
                have q210 : x5_1 < (l0.length : Int) := of_decide_eq_true (by first | (with_reducible assumption) | assumption)
                obtain ⟨ad210, e210, hx210_0, hx210_1, hx210_2⟩ := at_T68 HR0.out x5_1 p210 q210
                cases e210
                replace p210 := eq_true p210
                replace q210 := eq_true q210
                have p211 : 0 ≤ (x5_1 : Int) := of_decide_eq_true (by first | (with_reducible assumption) | assumption)
                have q211 : x5_1 < (l1.length : Int) := of_decide_eq_true (by first | (with_reducible assumption) | assumption)
                obtain ⟨ad211, e211, hx211_0, hx211_1, hx211_2⟩ := at_T68 HR1.out x5_1 p211 q211
                cases e211
                replace p211 := eq_true p211
                replace q211 := eq_true q211
                go_wp2
                repeat (go_quiet (fail); try go_wp2)
                go_ret
                exact ⟨by first | rfl | (simp; done) | (simp [*]; done), by repeat (first | exact Drawn0.refl _ | apply Drawn0.step)⟩
              · rw [if_neg c7] at H
                have c7b0 : (!((((rd_T68 l0 x5_1).f0).toList) == (((rd_T68 l1 x5_1).f0).toList)) || (!(((rd_T68 l0 x5_1).f1) == ((rd_T68 l1 x5_1).f1)) || (!((((rd_T68 l0 x5_1).f2).toList) == (((rd_T68 l1 x5_1).f2).toList))))) = false := by simpa using c7
                clear c7
                have H' := Aside0.mk H
                clear H
                have p210 : 0 ≤ (x5_1 : Int) := of_decide_eq_true (by first | (with_reducible assumption) | assumption)
                have q210 : x5_1 < (l0.length : Int) := of_decide_eq_true (by first | (with_reducible assumption) | assumption)
                obtain ⟨ad210, e210, hx210_0, hx210_1, hx210_2⟩ := at_T68 HR0.out x5_1 p210 q210
                cases e210
                replace p210 := eq_true p210
                replace q210 := eq_true q210
                have p211 : 0 ≤ (x5_1 : Int) := of_decide_eq_true (by first | (with_reducible assumption) | assumption)
                have q211 : x5_1 < (l1.length : Int) := of_decide_eq_true (by first | (with_reducible assumption) | assumption)
                obtain ⟨ad211, e211, hx211_0, hx211_1, hx211_2⟩ := at_T68 HR1.out x5_1 p211 q211
                cases e211
                replace p211 := eq_true p211
                replace q211 := eq_true q211
                go_wp2
                repeat (go_quiet (fail); try go_wp2)
                go_roundg k1
                case measure => have := HK1.out; omega
                case rel => exact ⟨(wrap64 (x5_1 + 1)), (by first | rfl | (simp; done) | (simp [*]; done) | (congr 1; rw [Bool.eq_iff_iff]; simp [bne]; done) | (rw [Bool.eq_iff_iff]; simp [bne]; done)), H', ⟨by have := HK1.out; omega⟩, by repeat (first | exact Drawn0.refl _ | apply Drawn0.step)⟩
            · rw [if_neg c6] at H
              exact absurd H (by simp)
          · rw [if_neg c5] at H
            exact absurd H (by simp)
        · rw [if_neg c4] at H
          have c4b0 : decide (x5_1 < (l0.length : Int)) = false := decide_eq_false c4
          clear c4
          obtain rfl := Option.some.inj H
          go_wp2
          repeat (go_quiet (fail); try go_wp2)
          go_ret
          exact ⟨by first | rfl | (simp; done) | (simp [*]; done), by repeat (first | exact Drawn0.refl _ | apply Drawn0.step)⟩
  · rw [if_neg c3] at H
    have c3b0 : ((l0.length : Int) == (l1.length : Int)) = false := beq_eq_false_iff_ne.mpr c3
    have c3b1 : ((l0.length : Int) != (l1.length : Int)) = true := bne_iff_ne.mpr c3
    have c3b2 : (l0.length == l1.length) = false := by first | simpa using c3 | (simp at c3 ⊢; omega)
    obtain rfl := Option.some.inj H
    go_enter Tryd.func16, Tryd.ntmps16
    go_wp2
    repeat (go_quiet (fail); try go_wp2)
    go_ret
    exact ⟨by first | rfl | (simp; done) | (simp [*]; done), by repeat (first | exact Drawn0.refl _ | apply Drawn0.step)⟩
end Go.Proofs.YtncokgdfkbgflaaDoor.P
