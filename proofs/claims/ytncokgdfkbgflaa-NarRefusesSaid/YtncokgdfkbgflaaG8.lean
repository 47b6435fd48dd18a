/- What a packer's below hands back: the iterator's value. -/
import Derived.Test.YtncokgdfkbgflaaG7
namespace Go.Proofs.Ytncokgdfkbgflaa
set_option linter.unusedVariables false
set_option linter.unusedSimpArgs false
open Go.RowKit Go.Shelf Go.Proofs.YtncokgdfkbgflaaW.PrintWords Go.Proofs.YtncokgdfkbgflaaW.PrintMore P

theorem blk_alloc2 {W : World} (o1 o2 : Obj) : ((W.alloc o1).alloc o2).heap[W.heap.size]? = some o1 := blk_alloc (blk_new W o1) o2

/-- The world that a packer's below leaves. -/
def belowW (W : World) (g at_ : Nat) (h : ByteArray) : World := (((W.alloc (.cells #[.pointer (some ⟨g, 0, none⟩)] 61)).alloc (.cells #[.int .i64 (at_ : Int)] 3)).alloc (.cells #[.string h] 9)).drew
theorem belowW_below (W : World) (g at_ : Nat) (h : ByteArray) : Below W.heap.size W (belowW W g at_ h) := below_drew (below_alloc (below_alloc (below_alloc (Below.refl _ _) _) _) _)
theorem belowW_at {B g at_ : Nat} {xs : List UInt8} {lv : Value} {W : World} (hP : PkAt B g xs lv W) (h : ByteArray) : BelowAt B g W.heap.size (W.heap.size + 1) (W.heap.size + 1 + 1) at_ h lv (belowW W g at_ h) := by
  refine ⟨?_, ?_, ?_, xs, hP.below (belowW_below W g at_ h)⟩
  · exact blk_alloc (blk_alloc (blk_new W _) _) _
  · have h1 := blk_new (W.alloc (.cells #[.pointer (some ⟨g, 0, none⟩)] 61)) (.cells #[.int .i64 (at_ : Int)] 3)
    rw [World.size_alloc] at h1
    exact blk_alloc h1 _
  · have h1 := blk_new ((W.alloc (.cells #[.pointer (some ⟨g, 0, none⟩)] 61)).alloc (.cells #[.int .i64 (at_ : Int)] 3)) (.cells #[.string h] 9)
    rw [World.size_alloc, World.size_alloc] at h1
    exact h1
theorem head_nil (s : ByteArray) (h : s.toList = []) : s = bs (headOf s.data.toList) := by
  have h1 : s.data.toList = [] := by rw [← toList_data]; exact h
  rw [h1]; show s = bs []; rw [← h1, bs_data]
theorem head_some (s : ByteArray) (h : ¬ s.toList = []) : s ++ ⟨#[47]⟩ = bs (headOf s.data.toList) := by
  have h1 : ¬ s.data.toList = [] := by rw [← toList_data]; exact h
  rw [headOf, if_neg h1, ← bs_append, bs_data]; rfl

set_option maxRecDepth 100000 in
set_option maxHeartbeats 4000000 in
theorem below_calls (B g at_ : Nat) (xs : List UInt8) (A0 : Option Addr) (c0 : Nat) (l0 : List S37) (W : World) (hP : PkAt B g xs (.slice A0 l0.length c0) W) (hR : Kd.C k37 W A0 l0.length l0) (hat : at_ < l0.length) (hsz : l0[at_].f0.size ≤ 1048576) :
    Calls Try.prog 63 #[.pointer (some ⟨g, 0, none⟩), .int .i64 (at_ : Int)] W fun e w' => ∃ b2 b3 b5, e = .returned (.func (.func 82) #[] #[.pointer (some ⟨b3, 0, none⟩), .pointer (some ⟨b2, 0, none⟩), .pointer (some ⟨b5, 0, none⟩)]) ∧
      BelowAt B g b2 b3 b5 at_ (bs (headOf l0[at_].f0.data.toList)) (.slice A0 l0.length c0) w' ∧ Below W.heap.size W w' := by
  have hm := Kd.C_max hR
  obtain ⟨ad, ea, hx0, hx1, hx2⟩ := at_T37 hR (at_ : Int) (by omega) (by omega)
  rw [Int.toNat_natCast] at hx0 hx1 hx2
  rw [rd37_at l0 at_ hat] at hx0 hx1 hx2
  obtain ⟨x, hx⟩ : ∃ x, x = l0[at_] := ⟨_, rfl⟩
  rw [← hx] at hx0 hx1 hx2 hsz
  have HX := Aside0.mk hx
  clear hx
  cases ea
  have eg : W.cell? ⟨g, 2, none⟩ = some (.slice (some ad) l0.length c0) := hP.cell2
  have hgl := hP.lt
  have hal : (ad.add (at_ * 3)).block < W.heap.size := World.block_lt_of_cell? W _ hx0
  have hd : decide ((at_ : Int) < (l0.length : Int)) = true := decide_eq_true (by omega)
  have HP := Aside0.mk hP
  clear hP hR hx1 hx2
  have hu37 := Try.underlying37
  have k1 : ∀ o1 o2, ((W.alloc o1).alloc o2).cell? (ad.add (at_ * 3)) = some (.string x.f0) := fun o1 o2 => pw_cell_below (below_alloc (below_alloc (Below.refl _ _) o1) o2) hx0
  have k2 : ∀ o1 o2 o3, (((W.alloc o1).alloc o2).alloc o3).cell? (ad.add (at_ * 3)) = some (.string x.f0) := fun o1 o2 o3 => pw_cell_below (below_alloc (below_alloc (below_alloc (Below.refl _ _) o1) o2) o3) hx0
  have k3 : ∀ o1 o2, ((W.alloc o1).alloc o2).cell? ⟨g, 2, none⟩ = some (.slice (some ad) l0.length c0) := fun o1 o2 => pw_cell_below (below_alloc (below_alloc (Below.refl _ _) o1) o2) eg
  have k4 : ∀ o1 o2 o3, (((W.alloc o1).alloc o2).alloc o3).cell? ⟨g, 2, none⟩ = some (.slice (some ad) l0.length c0) := fun o1 o2 o3 => pw_cell_below (below_alloc (below_alloc (below_alloc (Below.refl _ _) o1) o2) o3) eg
  by_cases hp : x.f0.toList = []
  · have e1 : (x.f0.toList == []) = true := by rw [hp]; rfl
    have e2 : (x.f0.toList != []) = false := by rw [hp]; rfl
    have e3 : x.f0.toList.isEmpty = true := by rw [hp]; rfl
    have HH := Aside0.mk hp
    clear hp
    go_enter Try.func63, Try.ntmps63
    go_wp2
    go_region
    all_goals
      go_wp2
      go_ret
      refine ⟨W.heap.size, W.heap.size + 1, W.heap.size + 1 + 1, rfl, ?_, belowW_below W g at_ _⟩
      rw [← HX.out, ← head_nil x.f0 HH.out]
      exact belowW_at (at_ := at_) HP.out _
  · have e1 : (x.f0.toList == []) = false := beq_eq_false_iff_ne.2 hp
    have e2 : (x.f0.toList != []) = true := bne_iff_ne.2 hp
    have e3 : x.f0.toList.isEmpty = false := by rw [List.isEmpty_eq_false_iff]; exact hp
    have HH := Aside0.mk hp
    clear hp
    go_enter Try.func63, Try.ntmps63
    go_wp2
    go_region
    all_goals
      go_wp2
      go_ret
      refine ⟨W.heap.size, W.heap.size + 1, W.heap.size + 1 + 1, rfl, ?_, belowW_below W g at_ _⟩
      rw [← HX.out, ← head_some x.f0 HH.out]
      exact belowW_at (at_ := at_) HP.out _
end Go.Proofs.Ytncokgdfkbgflaa
