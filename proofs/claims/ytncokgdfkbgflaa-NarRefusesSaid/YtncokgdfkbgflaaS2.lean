/- Trees of one node: they may be, their bytes; what awake says. -/
/- HOMES: shelfmarklaw10_awake nar_May -/
import Derived.Test.YtncokgdfkbgflaaPx3
import Derived.Test.YtncokgdfkbgflaaPx9
import Derived.Test.YtncokgdfkbgflaaG10
namespace Go.Proofs.Ytncokgdfkbgflaa
set_option linter.unusedVariables false
set_option linter.unusedSimpArgs false
open Go.RowKit Go.Proofs.YtncokgdfkbgflaaW.PrintWords Go.Proofs.YtncokgdfkbgflaaW.PrintMore P

theorem rd_one (x : S37) : rd_T37 [x] 0 = x := rd37_at [x] 0 (by simp)
theorem may_one (x : S37) (h0 : x.f0.data.toList = []) (h : okNode x = true) : mayC [x] = some true := by
  refine mayC_of (k := 5) ?_
  have h1 : x.f0.toList = [] := by rw [toList_data]; exact h0
  unfold nar_May.f
  rw [rd_one, if_neg (by simp), if_neg (by simp), if_pos (by simp), if_pos h1]
  have h2 : containsMay1.f [x] = some false := by simp [containsMay1.f, h]
  rw [h2]
  simp only [Option.bind_some, nar_May.j0, rd_one]
  rw [if_neg (by decide), if_pos (by simp)]
  split
  · simp [nar_May.j1, nar_May.l0]
  · simp [nar_May.j1, nar_May.l0]

/-- The bytes of one node that has nothing below. -/
def oneB (n : Nd) : List UInt8 := strsB [wOpen, wType] ++ (if n.kind = 1 ∨ n.kind = 2 ∨ n.kind = 3 then leafB n else strsB [wDir]) ++ strsB [wShut]
theorem packN_one (f : Nat) (n : Nd) : packN (f + 1) [n] 0 = oneB n := by
  unfold packN oneB
  simp [belowFrom]
theorem strsB_le (M : Nat) : ∀ (l : List (List UInt8)), (∀ s ∈ l, s.length ≤ M) → (strsB l).length ≤ l.length * (M + 15)
  | [], _ => by simp [strsB]
  | s :: l, h => by
    have h1 := strB_le s
    have h2 := h s List.mem_cons_self
    have h3 := strsB_le M l (fun z hz => h z (List.mem_cons_of_mem _ hz))
    rw [strsB, List.length_append, List.length_cons, Nat.succ_mul]
    omega
theorem leafB_le (n : Nd) (M : Nat) (hM : 10 ≤ M) (h : n.data.length ≤ M) : (leafB n).length ≤ 5 * (M + 15) := by
  unfold leafB
  split
  · refine Nat.le_trans (strsB_le M _ ?_) (Nat.mul_le_mul (by simp) (Nat.le_refl _))
    intro s hs
    simp only [List.mem_cons, List.not_mem_nil, or_false] at hs
    rcases hs with rfl | rfl | rfl <;> first | exact h | (refine Nat.le_trans ?_ hM; decide)
  · split
    · refine Nat.le_trans (strsB_le M _ ?_) (Nat.mul_le_mul (by simp) (Nat.le_refl _))
      intro s hs
      simp only [List.mem_cons, List.not_mem_nil, or_false] at hs
      rcases hs with rfl | rfl | rfl | rfl | rfl <;> first | exact h | (refine Nat.le_trans ?_ hM; decide)
    · refine Nat.le_trans (strsB_le M _ ?_) (Nat.mul_le_mul (by simp) (Nat.le_refl _))
      intro s hs
      simp only [List.mem_cons, List.not_mem_nil, or_false] at hs
      rcases hs with rfl | rfl | rfl <;> first | exact h | (refine Nat.le_trans ?_ hM; decide)
theorem oneB_le (n : Nd) (M : Nat) (hM : 10 ≤ M) (h : n.data.length ≤ M) : (oneB n).length ≤ 8 * (M + 15) := by
  unfold oneB
  have h1 : (strsB [wOpen, wType]).length = 32 := by decide
  have h2 : (strsB [wShut]).length = 16 := by decide
  have h3 : (strsB [wDir]).length = 24 := by decide
  have h4 := leafB_le n M hM h
  rw [List.length_append, List.length_append, h1, h2]
  split
  · omega
  · rw [h3]; omega
theorem entryB_le (nm body : List UInt8) (h : nm.length ≤ 1048576) : (entryB nm body).length ≤ body.length + 1048700 := by
  unfold entryB
  have h1 := strB_le nm
  have h2 : (strB wEntry).length = 16 := by decide
  have h3 : (strB wOpen).length = 16 := by decide
  have h4 : (strB wName).length = 16 := by decide
  have h5 : (strB wNode).length = 16 := by decide
  have h6 : (strsB [wShut]).length = 16 := by decide
  simp only [strsB, List.length_append, List.append_nil] at h6 ⊢
  rw [h2, h3, h4, h5, h6]
  omega
theorem pack_one (x : S37) (h0 : x.f0.data.toList = []) (h : okNode x = true) (hd : x.f2.size ≤ 65536) : nar_Pack.f [x] = some (bs (strB wMark ++ oneB (nd x)), 0) := by
  have hnd : (nd x).data.length ≤ 65536 := by
    show x.f2.data.toList.length ≤ _
    rw [← Lib.size_eq]; exact hd
  have h1 := oneB_le (nd x) 65536 (by decide) hnd
  have hroom : ∃ M, PackRoom [x] M := by
    refine ⟨2000000, by simp, ?_, ?_, by simp, by simp⟩
    · intro f i nm hi hn
      obtain rfl : i = 0 := by simp at hi; exact hi
      have h2 := entryB_le nm (packN f (nds [x]) 0) hn
      have h3 : (packN f (nds [x]) 0).length ≤ 600000 := by
        cases f with
        | zero => simp [packN]
        | succ f =>
          show (packN (f + 1) [nd x] 0).length ≤ _
          rw [packN_one]
          omega
      omega
    · intro y hy
      obtain rfl : y = x := by simpa using hy
      refine ⟨?_, by omega⟩
      rw [Lib.size_eq, h0]; simp
  unfold nar_Pack.f
  rw [may_one x h0 h]
  simp only [Option.bind_some, if_true]
  rw [if_pos hroom]
  show some (bs (strB wMark ++ packN (0 + 1) [nd x] 0), (0 : Int)) = _
  rw [packN_one]

theorem str_lit (k : Nat) (l : List UInt8) (h : l.length ≤ 1000) : nar_Str.f (k + 9) (bs l) = some (bs (strB l)) := by
  rw [str_any k (bs l) (by rw [bs_size]; omega), bs_toList]

theorem awake_true (k : Nat) : shelfmarklaw10_awake.f (k + 9) = some true := by
  unfold shelfmarklaw10_awake.f
  have e1 : nar_Str.f (k + 9) (⟨#[40]⟩ : ByteArray) = some (bs (strB wOpen)) := str_lit k wOpen (by decide)
  have e2 : nar_Str.f (k + 9) (⟨#[110, 105, 120, 45, 97, 114, 99, 104, 105, 118, 101, 45, 49]⟩ : ByteArray) = some (bs (strB wMark)) := str_lit k wMark (by decide)
  rw [pack_one ⟨⟨#[]⟩, 1, ⟨#[120]⟩⟩ rfl (by decide) (by decide), e1, e2]
  simp only [Option.bind_some, shelfmarklaw1_Err.f]
  rw [if_pos (by decide), if_pos trivial, if_pos (by decide +kernel), if_pos (by decide), if_pos (by decide +kernel)]
  rw [toList_data, toList_data]
  have h : ((bs (strB wMark ++ oneB (nd ⟨⟨#[]⟩, 1, ⟨#[120]⟩⟩))).extract 0 24).data.toList == (bs (strB wMark)).data.toList := by decide +kernel
  rw [h]
end Go.Proofs.Ytncokgdfkbgflaa
