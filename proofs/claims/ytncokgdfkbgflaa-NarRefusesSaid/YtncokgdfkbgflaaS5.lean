/- Plain words: how many bytes nodes have. -/
import Derived.Test.YtncokgdfkbgflaaS1
namespace Go.Proofs.Ytncokgdfkbgflaa

/-- How many nodes, one behind another, begin so. -/
def runLen (head : List UInt8) : List Nd → Nat
  | [] => 0
  | n :: l => if Lib.hasPrefix n.path head then 1 + runLen head l else 0

theorem runLen_le (head : List UInt8) : ∀ l : List Nd, runLen head l ≤ l.length
  | [] => by simp [runLen]
  | n :: l => by
    have := runLen_le head l
    unfold runLen
    split
    · rw [List.length_cons]; omega
    · omega

theorem hasPrefix_iff (s p : List UInt8) : Lib.hasPrefix s p = true ↔ ∃ t, s = p ++ t := by
  unfold Lib.hasPrefix
  rw [List.isPrefixOf_iff_prefix]
  constructor
  · rintro ⟨t, h⟩; exact ⟨t, h.symm⟩
  · rintro ⟨t, h⟩; exact ⟨t, h.symm⟩

/-- A run below a deeper head is passed over. -/
theorem below_skip (head nm : List UInt8) : ∀ (m : List Nd) (j : Nat),
    belowFrom head j m = belowFrom head (j + runLen (head ++ nm ++ [47]) m) (m.drop (runLen (head ++ nm ++ [47]) m)) ∧
    runLen head m = runLen (head ++ nm ++ [47]) m + runLen head (m.drop (runLen (head ++ nm ++ [47]) m))
  | [], j => by simp [runLen, belowFrom]
  | n :: m, j => by
    by_cases h : Lib.hasPrefix n.path (head ++ nm ++ [47]) = true
    · obtain ⟨t, ht⟩ := (hasPrefix_iff _ _).1 h
      have hp : Lib.hasPrefix n.path head = true := (hasPrefix_iff _ _).2 ⟨nm ++ [47] ++ t, by rw [ht]; simp [List.append_assoc]⟩
      have hc : (n.path.drop head.length).contains 47 = true := by
        rw [ht]
        simp [List.append_assoc]
      obtain ⟨i1, i2⟩ := below_skip head nm m (j + 1)
      have hr : runLen (head ++ nm ++ [47]) (n :: m) = 1 + runLen (head ++ nm ++ [47]) m := by rw [runLen, if_pos h]
      have hr2 : runLen head (n :: m) = 1 + runLen head m := by rw [runLen, if_pos hp]
      rw [hr, hr2, show 1 + runLen (head ++ nm ++ [47]) m = runLen (head ++ nm ++ [47]) m + 1 from Nat.add_comm _ _, List.drop_succ_cons]
      constructor
      · conv => lhs; rw [belowFrom, if_pos hp, if_pos hc, i1]
        congr 1
        omega
      · omega
    · have hr : runLen (head ++ nm ++ [47]) (n :: m) = 0 := by rw [runLen, if_neg h]
      rw [hr]
      simp

/-- The path at a place. -/
def pathAt (l : List Nd) (i : Nat) : List UInt8 := ((l[i]?).map Nd.path).getD []
theorem pathAt_is (l : List Nd) (i : Nat) (h : i < l.length) : pathAt l i = l[i].path := by
  unfold pathAt; rw [List.getElem?_eq_getElem h]; rfl
/-- How many nodes a node holds, itself among them. -/
def holds (l : List Nd) (i : Nat) : Nat := 1 + runLen (headOf (pathAt l i)) (l.drop (i + 1))

theorem below_sum (l : List Nd) (head : List UInt8) (hne : ∀ j (h : j < l.length), 0 < j → l[j].path ≠ []) : ∀ (d j : Nat), 0 < j → l.length - j ≤ d →
    ((belowFrom head j (l.drop j)).map fun x => holds l x.1).sum ≤ runLen head (l.drop j) := by
  intro d
  induction d with
  | zero =>
    intro j _ h
    rw [List.drop_eq_nil_of_le (by omega)]
    simp [belowFrom]
  | succ d ih =>
    intro j hj0 h
    by_cases hj : j < l.length
    · rw [List.drop_eq_getElem_cons hj]
      have hn := hne j hj hj0
      unfold belowFrom runLen
      by_cases hp : Lib.hasPrefix l[j].path head = true
      · rw [if_pos hp, if_pos hp]
        by_cases hc : (l[j].path.drop head.length).contains 47 = true
        · rw [if_pos hc]
          have := ih (j + 1) (by omega) (by omega)
          omega
        · rw [if_neg hc, List.map_cons, List.sum_cons]
          obtain ⟨nm, hnm⟩ := (hasPrefix_iff _ _).1 hp
          have hw : holds l j = 1 + runLen (head ++ nm ++ [47]) (l.drop (j + 1)) := by
            unfold holds
            rw [pathAt_is l j hj, headOf, if_neg hn, hnm]
          obtain ⟨i1, i2⟩ := below_skip head nm (l.drop (j + 1)) (j + 1)
          have := ih (j + 1 + runLen (head ++ nm ++ [47]) (l.drop (j + 1))) (by omega) (by omega)
          rw [i1, hw, i2, List.drop_drop]
          omega
      · rw [if_neg hp, if_neg hp]
        simp
    · rw [List.drop_eq_nil_of_le (by omega)]
      simp [belowFrom]

theorem flat_sum (C : Nat) (F : Nat × List UInt8 → List UInt8) (w : Nat × List UInt8 → Nat) : ∀ (ys : List (Nat × List UInt8)), (∀ y ∈ ys, (F y).length ≤ C * w y) → (ys.flatMap F).length ≤ C * (ys.map w).sum
  | [], _ => by simp
  | y :: ys, h => by
    have h1 := h y List.mem_cons_self
    have h2 := flat_sum C F w ys (fun z hz => h z (List.mem_cons_of_mem _ hz))
    rw [List.flatMap_cons, List.length_append, List.map_cons, List.sum_cons, Nat.mul_add]
    omega

theorem belowFrom_name (P : Nat) (head : List UInt8) : ∀ (l : List Nd) (i : Nat) (x : Nat × List UInt8), (∀ n ∈ l, n.path.length ≤ P) → x ∈ belowFrom head i l → x.2.length ≤ P
  | [], _, _, _, h => by simp [belowFrom] at h
  | n :: l, i, x, hP, h => by
    have hn := hP n List.mem_cons_self
    have hr := fun h => belowFrom_name P head l (i + 1) x (fun z hz => hP z (List.mem_cons_of_mem _ hz)) h
    unfold belowFrom at h
    split at h
    · split at h
      · exact hr h
      · rcases List.mem_cons.mp h with rfl | h
        · simp only [List.length_drop]; omega
        · exact hr h
    · simp at h

theorem entryB_len (nm body : List UInt8) : (entryB nm body).length ≤ body.length + (nm.length + 140) := by
  unfold entryB
  have h1 := strB_le nm
  have h2 : (strB wEntry).length = 16 := by decide
  have h3 : (strB wOpen).length = 16 := by decide
  have h4 : (strB wName).length = 16 := by decide
  have h5 : (strB wNode).length = 16 := by decide
  have h6 : (strB wShut).length = 16 := by decide
  simp only [strsB, List.length_append, List.append_nil]
  rw [h2, h3, h4, h5, h6]
  omega

/-- The bytes of the node at a place are no more than so many for each that it holds. -/
theorem packN_le (l : List Nd) (K P : Nat) (hK : ∀ n ∈ l, (leafB n).length + 72 ≤ K) (hP : ∀ n ∈ l, n.path.length ≤ P) (hK0 : 72 ≤ K) (hne : ∀ j (h : j < l.length), 0 < j → l[j].path ≠ []) :
    ∀ (f i : Nat), (packN f l i).length + (P + 140) ≤ (K + (P + 140)) * holds l i := by
  have h1 : (strsB [wOpen, wType]).length = 32 := by decide
  have h2 : (strsB [wShut]).length = 16 := by decide
  have h3 : (strsB [wDir]).length = 24 := by decide
  intro f
  induction f with
  | zero =>
    intro i
    have : 1 ≤ holds l i := by unfold holds; omega
    have := Nat.mul_le_mul (Nat.le_refl (K + (P + 140))) this
    simp only [packN, List.length_nil]
    omega
  | succ f ih =>
    intro i
    have hw : (K + (P + 140)) * holds l i = (K + (P + 140)) + (K + (P + 140)) * runLen (headOf (pathAt l i)) (l.drop (i + 1)) := by
      unfold holds; rw [Nat.mul_add, Nat.mul_one]
    rw [hw]
    unfold packN
    by_cases hi : i < l.length
    · rw [List.getElem?_eq_getElem hi]
      simp only
      split
      · have h4 := hK _ (List.getElem_mem hi)
        rw [List.length_append, List.length_append, h1, h2]
        omega
      · rw [List.length_append, List.length_append, List.length_append, h1, h2, h3]
        have h5 := flat_sum (K + (P + 140)) (fun x => entryB x.2 (packN f l x.1)) (fun x => holds l x.1) (belowFrom (headOf (l[i]).path) (i + 1) (l.drop (i + 1))) (by
          intro y hy
          have h6 := entryB_len y.2 (packN f l y.1)
          have h7 := belowFrom_name P _ _ _ _ (fun n hn => hP n (List.mem_of_mem_drop hn)) hy
          have h8 := ih y.1
          omega)
        have h6 := below_sum l (headOf (l[i]).path) hne (l.length - (i + 1)) (i + 1) (by omega) (Nat.le_refl _)
        have h7 := Nat.mul_le_mul (Nat.le_refl (K + (P + 140))) h6
        rw [pathAt_is l i hi]
        omega
    · rw [List.getElem?_eq_none (by omega)]
      simp only [List.length_nil]
      omega
theorem holds_le (l : List Nd) (i : Nat) : holds l i ≤ l.length + 1 := by
  unfold holds
  have := runLen_le (headOf (pathAt l i)) (l.drop (i + 1))
  rw [List.length_drop] at this
  omega
end Go.Proofs.Ytncokgdfkbgflaa
