/- The strings.Builder in a packer: what writing to it does to the packer's block and to memory. -/
import Derived.Test.YtncokgdfkbgflaaG2
import Derived.Lib.Builder
import Derived.Lib.AppendStr
import Derived.Lib.UnsafeStr
import Derived.Lib.OthersKept
import Derived.Laws.Externs
import Derived.RegionTactic
import Derived.ChangeAlike
import Derived.Outline
import Derived.RangeFuncNested
namespace Go.Proofs.Ytncokgdfkbgflaa
open Go.RowKit Go.Proofs.YtncokgdfkbgflaaW.PrintWords P

theorem info64 : (Try.prog.info? 64).map (fun i => i.size) = some 2 := by kernel_rfl

set_option maxHeartbeats 1000000 in
set_option maxRecDepth 100000 in
/-- copyCheck at a builder that has been used: nothing turns. -/
theorem copyCheck_used (g : Nat) (w : World) (h0 : w.cell? ⟨g, 0, none⟩ = some (.pointer (some ⟨g, 0, none⟩))) :
    Calls Try.prog 81 #[.pointer (some ⟨g, 0, none⟩)] w fun e w' => e = .returned (.tuple #[]) ∧ w' = w := by
  obtain ⟨j, hj, _⟩ := Option.map_eq_some_iff.1 info64
  go_enter Try.func81, Try.ntmps81
  go_wp2
  rw [Lib.run_neq_ptr_same w _ Try.underlying62 hj]
  go_wp2
  go_end0
  exact ⟨rfl, rfl⟩

set_option maxHeartbeats 1000000 in
set_option maxRecDepth 100000 in
/-- copyCheck at a fresh builder at the head of a packer's block: it stores its own address. -/
theorem copyCheck_fresh (g : Nat) (w : World) (h0 : w.cell? ⟨g, 0, none⟩ = some (.pointer none)) (hsh : w.shape? g = some (66, 3)) (hfz : w.frozen? ⟨g, 0, none⟩ = false) :
    Calls Try.prog 81 #[.pointer (some ⟨g, 0, none⟩)] w fun e w' => e = .returned (.tuple #[]) ∧ w' = w.setCell ⟨g, 0, none⟩ (.pointer (some ⟨g, 0, none⟩)) := by
  obtain ⟨j, hj, hjs⟩ := Option.map_eq_some_iff.1 info64
  go_enter Try.func81, Try.ntmps81
  go_wp2
  rw [Lib.run_to_unsafe w ⟨g, 0, none⟩ Try.underlying62 Try.underlying148 hj (by rw [hjs]; decide) hsh (Nat.zero_lt_succ 2)]
  simp only [Result.andThen]
  rw [Oper.upon_value]
  go_wp2
  rw [run_callFunc_extern Try.func111 (by kernel_rfl) (by kernel_rfl) (by kernel_rfl) (e := Extern.AbiNoEscape.same) (by kernel_rfl)]
  rw [Lib.run_noEscape]
  simp only [Result.andThen]
  rw [Oper.upon_value]
  go_wp2
  rw [Lib.run_from_unsafe w ⟨g, 0, none⟩ Try.underlying148 Try.underlying62 hj hsh (by kernel_rfl)]
  simp only [Result.andThen]
  rw [Oper.upon_value]
  go_wp2
  go_end0
  exact ⟨rfl, rfl⟩
theorem info5' : (Try.prog.info? 5).map (fun i => (i.zero, i.size, i.bytes)) = some (some (.int .u8 0), 1, 1) := by kernel_rfl

/-- A packer in block g: its builder holds the bytes bs (in a row of the call's own, from block B on); its nodes are the value lv. -/
def PkAt (B g : Nat) (bs : List UInt8) (lv : Value) (w : World) : Prop :=
  B ≤ g ∧ ∃ p v, (p = .pointer none ∨ p = .pointer (some ⟨g, 0, none⟩)) ∧ w.heap[g]? = some (.cells #[p, v, lv] 66 (0, 0)) ∧ w.ownsRow B 5 1 v bs.length (Lib.byteCells bs)

/-- What a packer's work leaves of the world. -/
def PkStep (B g : Nat) (w w' : World) : Prop := Below B w w' ∧ Lib.OthersKept 5 (some g) w w'

theorem PkStep.refl (B g : Nat) (w : World) : PkStep B g w w := ⟨Below.refl _ _, Lib.OthersKept.refl _ _ _⟩
theorem PkStep.trans {B g : Nat} {a b c : World} (h : PkStep B g a b) (k : PkStep B g b c) : PkStep B g a c := ⟨h.1.trans k.1, h.2.trans k.2⟩
theorem PkStep.alloc {B g : Nat} {a w : World} (h : PkStep B g a w) (hB : B ≤ w.heap.size) (o : Obj) : PkStep B g a (w.alloc o) := ⟨h.1.alloc hB o, h.2.alloc o⟩
theorem PkStep.drew {B g : Nat} {a w : World} (h : PkStep B g a w) : PkStep B g a w.drew := ⟨below_drew h.1, h.2⟩

theorem PkAt.step {B g : Nat} {bs : List UInt8} {lv : Value} {w w' : World} (h : PkAt B g bs lv w) (row : Option Nat) (hg : w.grownBy w' row) (hr : ∀ r, row = some r → ∃ o : Obj, w.heap[r]? = some o ∧ o.isCells = false) : PkAt B g bs lv w' := by
  obtain ⟨hB, p, v, hp, hb, hown⟩ := h
  have hne : ∀ k cs e fz, w.heap[k]? = some (.cells cs e fz) → some k ≠ row := by
    intro k cs e fz hk he
    obtain ⟨o, ho, hc⟩ := hr k he.symm
    rw [hk] at ho; cases ho; simp [Obj.isCells] at hc
  refine ⟨hB, p, v, hp, blk_grown hb hg (hne _ _ _ _ hb), own_move hown (fun k hk => ?_)⟩
  obtain ⟨cells, hc⟩ := own_typed hown k hk
  exact hg.block k (blk_lt hc) (hne _ _ _ _ hc)
theorem PkAt.alloc {B g : Nat} {bs : List UInt8} {lv : Value} {w : World} (h : PkAt B g bs lv w) (o : Obj) : PkAt B g bs lv (w.alloc o) := h.step none (World.grownBy_alloc w o none) (fun _ e => by cases e)
theorem PkAt.drew {B g : Nat} {bs : List UInt8} {lv : Value} {w : World} (h : PkAt B g bs lv w) : PkAt B g bs lv w.drew := h
theorem PkAt.lt {B g : Nat} {bs : List UInt8} {lv : Value} {w : World} (h : PkAt B g bs lv w) : g < w.heap.size := by
  obtain ⟨hB, p, v, hp, hb, hown⟩ := h
  exact blk_lt hb
theorem PkAt.cell2 {B g : Nat} {bs : List UInt8} {lv : Value} {w : World} (h : PkAt B g bs lv w) : w.cell? ⟨g, 2, none⟩ = some lv := by
  obtain ⟨hB, p, v, hp, hb, hown⟩ := h
  rw [blk_cell hb]; rfl

set_option maxHeartbeats 2000000 in
set_option maxRecDepth 100000 in
theorem pkWrite_calls (B g : Nat) (bs : List UInt8) (lv : Value) (s : ByteArray) (w : World) (h : PkAt B g bs lv w) (hlen : bs.length + s.size ≤ 140737488355328) (hBw : B ≤ w.heap.size) :
    Calls Try.prog 62 #[.pointer (some ⟨g, 0, none⟩), .string s] w fun e w' => e = .returned (.tuple #[.int .i64 s.size, .nilIface]) ∧ PkAt B g (bs ++ s.data.toList) lv w' ∧ PkStep B g w w' := by
  obtain ⟨i0, hi, hz0, hz1, hz2⟩ := info_parts info5'
  obtain ⟨hB, p, v, hp, hbk, hown⟩ := h
  have hne : v.ownBlock ≠ some g := Lib.ownBlock_ne hown hbk (by decide)
  have hcc : Calls Try.prog 81 #[.pointer (some ⟨g, 0, none⟩)] w fun e w' => e = .returned (.tuple #[]) ∧ w'.heap[g]? = some (.cells #[.pointer (some ⟨g, 0, none⟩), v, lv] 66 (0, 0)) ∧ w'.ownsRow B 5 1 v bs.length (Lib.byteCells bs) ∧ PkStep B g w w' := by
    rcases hp with rfl | rfl
    · refine (copyCheck_fresh g w (by rw [blk_cell hbk]; rfl) (by simp [World.shape?, hbk]) (blk_frozen hbk 0)).mono ?_
      rintro e w' ⟨rfl, rfl⟩
      refine ⟨rfl, (blk_set hbk 0 _).trans rfl, ?_, (Below.refl B w).setCell (p := ⟨g, 0, none⟩) hB _, (Lib.OthersKept.refl _ _ w).setCell ⟨g, 0, none⟩ rfl _⟩
      exact own_move hown (fun k hk => Below.heap_setCell _ _ _ _ (fun e => hne (by rw [hk, e])))
    · refine (copyCheck_used g w (by rw [blk_cell hbk]; rfl)).mono ?_
      rintro e w' ⟨rfl, rfl⟩
      exact ⟨rfl, hbk, hown, PkStep.refl _ _ _⟩
  clear hp hbk hown
  go_enter Try.func62, Try.ntmps62
  go_wp2_with (go_at_call 81; refine hcc.mono ?_)
  rintro e w1 ⟨rfl, hbk, hown, hst⟩
  have hlt : g < w1.heap.size := blk_lt hbk
  have c0 : w1.cell? ⟨g, 0, none⟩ = some (.pointer (some ⟨g, 0, none⟩)) := by rw [blk_cell hbk]; rfl
  have c1 : w1.cell? ⟨g, 1, none⟩ = some v := by rw [blk_cell hbk]; rfl
  go_wp2_with (at_builtin; refine Lib.wpList_append_own_string _ rfl _ _ 22 9 rfl B 5 i0 Try.underlying22 Try.underlying9 hi hz0 hz1 hz2 _ _ _ rfl hown s rfl ?c3 ?c4 ?c5 ?_)
  case c3 => unfold maxLen; omega
  case c4 => omega
  case c5 => have := hst.1.size; omega
  intro v' w2 hown' hgrow _
  have hb2 : w2.heap[g]? = some (.cells #[.pointer (some ⟨g, 0, none⟩), v, lv] 66 (0, 0)) := blk_grown hbk hgrow (fun e => hne e.symm)
  have d0 : w2.cell? ⟨g, 0, none⟩ = some (.pointer (some ⟨g, 0, none⟩)) := by rw [blk_cell hb2]; rfl
  have d1 : w2.cell? ⟨g, 1, none⟩ = some v := by rw [blk_cell hb2]; rfl
  have f1 : w2.frozen? ⟨g, 1, none⟩ = false := blk_frozen hb2 1
  obtain ⟨ao, n', cap, rfl⟩ : ∃ ao n' cap, v' = .slice ao n' cap := by
    rcases hown'.2 with ⟨hv, _⟩ | ⟨g, cap, cur, hv, _⟩
    · exact ⟨_, _, _, hv⟩
    · exact ⟨_, _, _, hv⟩
  go_wp2
  go_ret2
  have hown2 : w2.ownsRow B 5 1 (.slice ao n' cap) (bs ++ s.data.toList).length (Lib.byteCells (bs ++ s.data.toList)) := by
    rw [Lib.byteCells_append, List.length_append, ← Lib.size_eq, ← Lib.strCells_eq]; exact hown'
  have hne2 : (Value.slice ao n' cap).ownBlock ≠ some g := Lib.ownBlock_ne hown2 hb2 (by decide)
  refine ⟨rfl, ⟨hB, _, _, .inr rfl, blk_put hb2 1 _ rfl, own_move hown2 (fun k hk => Below.heap_setCell _ _ _ _ (fun e => hne2 (by rw [hk, e])))⟩, ?_⟩
  refine hst.trans ⟨((Below.refl B w1).grown hgrow (by have := hst.1.size; omega) (fun k hk => own_base hown k hk)).setCell (p := ⟨g, 1, none⟩) hB _, ?_⟩
  exact ((Lib.OthersKept.refl _ _ w1).grown hgrow (fun k hk => by obtain ⟨c, hc⟩ := own_typed hown k hk; exact ⟨c, _, hc⟩)).setCell ⟨g, 1, none⟩ rfl _
end Go.Proofs.Ytncokgdfkbgflaa
