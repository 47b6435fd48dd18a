/- Texts of this claim, joined: what the others lean on. -/
import Derived.Lib.Strings
import Derived.Shelf.Strings.Runes
import Derived.Test.YtncokgdfkbgflaaDoorLimitsM5
import Derived.Test.YtncokgdfkbgflaaDoorLimitsM3
import Derived.RegionTactic
import Derived.Deep.LoopGhost
import Derived.Lib.OthersKept
import Derived.RangeFuncOwn
import Derived.RangeFuncNested
import Derived.RangeFuncBound
import Derived.RangeFuncCalls
import Derived.RangeFuncLeaves
import Derived.Shelf.Abstract
import Derived.Shelf.RegionOpen
import Derived.WalkKit
import Derived.OwnWalkIn
import Derived.TacticsInMore
import Derived.LoopNIn
import Derived.LoopIn
import Derived.RangeFuncWrites
import Derived.Laws.ResultCell
import Derived.Laws.Cover1
import Derived.Test.YtncokgdfkbgflaaDoorLimitsM4
import Derived.Deep.RegionLaw
import Derived.Deep.DeepCutAuto
set_option linter.unusedVariables false
set_option linter.unusedSimpArgs false
namespace Go.Proofs.YtncokgdfkbgflaaDoor
set_option linter.unusedVariables false
set_option linter.unusedSimpArgs false
def le8 (n : Nat) : List UInt8 := [UInt8.ofNat n, UInt8.ofNat (n / 2 ^ 8), UInt8.ofNat (n / 2 ^ 16), UInt8.ofNat (n / 2 ^ 24), UInt8.ofNat (n / 2 ^ 32), UInt8.ofNat (n / 2 ^ 40), UInt8.ofNat (n / 2 ^ 48), UInt8.ofNat (n / 2 ^ 56)]
def pad (n : Nat) : Nat := (8 - n % 8) % 8
def strB (s : List UInt8) : List UInt8 := le8 s.length ++ s ++ List.replicate (pad s.length) 0
def strsB : List (List UInt8) → List UInt8
  | [] => []
  | s :: l => strB s ++ strsB l
theorem le8_length (n : Nat) : (le8 n).length = 8 := rfl
theorem strB_length (s : List UInt8) : (strB s).length = 8 + s.length + pad s.length := by simp [strB, le8_length]; omega
theorem strB_le (s : List UInt8) : (strB s).length ≤ s.length + 15 := by rw [strB_length]; unfold pad; omega
theorem strB_mod (s : List UInt8) : (strB s).length % 8 = 0 := by rw [strB_length]; unfold pad; omega
structure Nd where
  path : List UInt8
  kind : Int
  data : List UInt8
def headOf (p : List UInt8) : List UInt8 := if p = [] then [] else p ++ [47]
def belowFrom (head : List UInt8) : Nat → List Nd → List (Nat × List UInt8)
  | _, [] => []
  | i, n :: l =>
    if Lib.hasPrefix n.path head then
      if (n.path.drop head.length).contains 47 then belowFrom head (i + 1) l else (i, n.path.drop head.length) :: belowFrom head (i + 1) l
    else []
def wOpen : List UInt8 := [40]
def wType : List UInt8 := [116, 121, 112, 101]
def wRegular : List UInt8 := [114, 101, 103, 117, 108, 97, 114]
def wContents : List UInt8 := [99, 111, 110, 116, 101, 110, 116, 115]
def wExec : List UInt8 := [101, 120, 101, 99, 117, 116, 97, 98, 108, 101]
def wSymlink : List UInt8 := [115, 121, 109, 108, 105, 110, 107]
def wTarget : List UInt8 := [116, 97, 114, 103, 101, 116]
def wDir : List UInt8 := [100, 105, 114, 101, 99, 116, 111, 114, 121]
def wEntry : List UInt8 := [101, 110, 116, 114, 121]
def wName : List UInt8 := [110, 97, 109, 101]
def wNode : List UInt8 := [110, 111, 100, 101]
def wShut : List UInt8 := [41]
def wMark : List UInt8 := [110, 105, 120, 45, 97, 114, 99, 104, 105, 118, 101, 45, 49]
def leafB (n : Nd) : List UInt8 :=
  if n.kind = 1 then strsB [wRegular, wContents, n.data]
  else if n.kind = 2 then strsB [wRegular, wExec, [], wContents, n.data]
  else strsB [wSymlink, wTarget, n.data]
def entryB (name body : List UInt8) : List UInt8 := strsB [wEntry, wOpen, wName, name, wNode] ++ body ++ strsB [wShut]
def packN : Nat → List Nd → Nat → List UInt8
  | 0, _, _ => []
  | f + 1, l, i =>
    match l[i]? with
    | none => []
    | some n =>
      strsB [wOpen, wType] ++ (if n.kind = 1 ∨ n.kind = 2 ∨ n.kind = 3 then leafB n
        else strsB [wDir] ++ (belowFrom (headOf n.path) (i + 1) (l.drop (i + 1))).flatMap (fun x => entryB x.2 (packN f l x.1))) ++ strsB [wShut]
def hasSep (l : List UInt8) : Bool := l.any fun c => c == 0 || c == 47
def hasZero (l : List UInt8) : Bool := l.any fun c => c == 0
def idxOf {α : Type} (p : α → Bool) : List α → Int
  | [] => -1
  | x :: l => if p x then 0 else if idxOf p l = -1 then -1 else idxOf p l + 1
theorem idxOf_ge {α : Type} (p : α → Bool) : ∀ l : List α, -1 ≤ idxOf p l
  | [] => by simp [idxOf]
  | x :: l => by
    have := idxOf_ge p l
    unfold idxOf
    split
    · omega
    · split <;> omega
theorem idxOf_hit {α : Type} (p : α → Bool) : ∀ (l : List α) (k : Nat) (hk : k < l.length), (∀ j (h : j < k), p (l[j]'(Nat.lt_trans h hk)) = false) → p l[k] = true → idxOf p l = k
  | x :: l, 0, _, _, h => by
    simp only [List.getElem_cons_zero] at h
    unfold idxOf
    rw [if_pos h]; rfl
  | x :: l, k + 1, hk, hb, h => by
    have h0 := hb 0 (by omega)
    simp only [List.getElem_cons_zero] at h0
    have ih := idxOf_hit p l k (by simpa using hk) (fun j hj => by have := hb (j + 1) (by omega); simpa using this) (by simpa using h)
    unfold idxOf
    rw [if_neg (by simp [h0]), ih, if_neg (by omega)]
    omega
def cutSlash : List UInt8 → Option (List UInt8 × List UInt8)
  | [] => none
  | b :: l =>
    match cutSlash l with
    | some (a, n) => some (b :: a, n)
    | none => if b = 47 then some ([], l) else none
theorem cutSlash_none : ∀ (l : List UInt8), 47 ∉ l → cutSlash l = none
  | [], _ => rfl
  | b :: l, h => by
    have h1 := cutSlash_none l (fun x => h (List.mem_cons_of_mem _ x))
    unfold cutSlash
    rw [h1]
    simp only
    rw [if_neg (fun e => h (by rw [e]; exact List.mem_cons_self))]
theorem cutSlash_some : ∀ (a n : List UInt8), 47 ∉ n → cutSlash (a ++ 47 :: n) = some (a, n)
  | [], n, h => by
    show cutSlash (47 :: n) = _
    unfold cutSlash
    rw [cutSlash_none n h]
    simp
  | b :: a, n, h => by
    show cutSlash (b :: (a ++ 47 :: n)) = _
    unfold cutSlash
    rw [cutSlash_some a n h]
def mayName (s : List UInt8) : Bool := !(s == []) && (decide (s.length ≤ 255) && (!hasSep s && (!(s == [46]) && !(s == [46, 46]))))
def okNd (n : Nd) : Bool :=
  if n.kind = 1 ∨ n.kind = 2 then decide (n.data.length ≤ 65536)
  else if n.kind = 3 then (!(n.data == [])) && decide (n.data.length ≤ 4096) && !(hasZero n.data)
  else if n.kind = 4 then n.data == []
  else false
abbrev Lv := List UInt8 × List UInt8
def withinP (op : List Lv) (p : List UInt8) : Option (Nat × List UInt8) :=
  match cutSlash p with
  | none => if idxOf (fun x : Lv => x.1 == []) op < 0 then none else some ((idxOf (fun x : Lv => x.1 == []) op).toNat, p)
  | some (a, n) => if a = [] then none else if idxOf (fun x : Lv => x.1 == a) op < 0 then none else some ((idxOf (fun x : Lv => x.1 == a) op).toNat, n)
def mayStep (op : List Lv) (n : Nd) : Option (List Lv) :=
  match withinP op n.path with
  | none => none
  | some (i, name) =>
    if mayName name && (!(Op.bytesLess name (op.getD i ([], [])).2 || name == (op.getD i ([], [])).2) && decide (i < 64)) then
      some ((op.take (i + 1)).set i ((op.getD i ([], [])).1, name) ++ (if n.kind = 4 then [(n.path, [])] else []))
    else none
def mayGo : List Lv → List Nd → Bool
  | _, [] => true
  | op, n :: l =>
    match mayStep op n with
    | none => false
    | some op' => mayGo op' l
def May (l : List Nd) : Bool :=
  match l with
  | [] => false
  | n :: r => decide (l.length ≤ 256) && (n.path == [] && (l.all okNd && mayGo (if n.kind = 4 then [([], [])] else []) r))
def runLen (head : List UInt8) : List Nd → Nat
  | [] => 0
  | n :: l => if Lib.hasPrefix n.path head then 1 + runLen head l else 0
theorem runLen_le (head : List UInt8) : ∀ l : List Nd, runLen head l ≤ l.length
  | [] => by simp [runLen]
  | n :: l => by
    have := runLen_le head l
    unfold runLen
    split
    · rw [List.length_cons]; omega
    · omega
theorem hasPrefix_iff (s p : List UInt8) : Lib.hasPrefix s p = true ↔ ∃ t, s = p ++ t := by
  unfold Lib.hasPrefix
  rw [List.isPrefixOf_iff_prefix]
  constructor
  · rintro ⟨t, h⟩; exact ⟨t, h.symm⟩
  · rintro ⟨t, h⟩; exact ⟨t, h.symm⟩
theorem below_skip (head nm : List UInt8) : ∀ (m : List Nd) (j : Nat),
    belowFrom head j m = belowFrom head (j + runLen (head ++ nm ++ [47]) m) (m.drop (runLen (head ++ nm ++ [47]) m)) ∧
    runLen head m = runLen (head ++ nm ++ [47]) m + runLen head (m.drop (runLen (head ++ nm ++ [47]) m))
  | [], j => by simp [runLen, belowFrom]
  | n :: m, j => by
    by_cases h : Lib.hasPrefix n.path (head ++ nm ++ [47]) = true
    · obtain ⟨t, ht⟩ := (hasPrefix_iff _ _).1 h
      have hp : Lib.hasPrefix n.path head = true := (hasPrefix_iff _ _).2 ⟨nm ++ [47] ++ t, by rw [ht]; simp [List.append_assoc]⟩
      have hc : (n.path.drop head.length).contains 47 = true := by
        rw [ht]
        simp [List.append_assoc]
      obtain ⟨i1, i2⟩ := below_skip head nm m (j + 1)
      have hr : runLen (head ++ nm ++ [47]) (n :: m) = 1 + runLen (head ++ nm ++ [47]) m := by rw [runLen, if_pos h]
      have hr2 : runLen head (n :: m) = 1 + runLen head m := by rw [runLen, if_pos hp]
      rw [hr, hr2, show 1 + runLen (head ++ nm ++ [47]) m = runLen (head ++ nm ++ [47]) m + 1 from Nat.add_comm _ _, List.drop_succ_cons]
      constructor
      · conv => lhs; rw [belowFrom, if_pos hp, if_pos hc, i1]
        congr 1
        omega
      · omega
    · have hr : runLen (head ++ nm ++ [47]) (n :: m) = 0 := by rw [runLen, if_neg h]
      rw [hr]
      simp
def pathAt (l : List Nd) (i : Nat) : List UInt8 := ((l[i]?).map Nd.path).getD []
theorem pathAt_is (l : List Nd) (i : Nat) (h : i < l.length) : pathAt l i = l[i].path := by
  unfold pathAt; rw [List.getElem?_eq_getElem h]; rfl
def holds (l : List Nd) (i : Nat) : Nat := 1 + runLen (headOf (pathAt l i)) (l.drop (i + 1))
theorem below_sum (l : List Nd) (head : List UInt8) (hne : ∀ j (h : j < l.length), 0 < j → l[j].path ≠ []) : ∀ (d j : Nat), 0 < j → l.length - j ≤ d →
    ((belowFrom head j (l.drop j)).map fun x => holds l x.1).sum ≤ runLen head (l.drop j) := by
  intro d
  induction d with
  | zero =>
    intro j _ h
    rw [List.drop_eq_nil_of_le (by omega)]
    simp [belowFrom]
  | succ d ih =>
    intro j hj0 h
    by_cases hj : j < l.length
    · rw [List.drop_eq_getElem_cons hj]
      have hn := hne j hj hj0
      unfold belowFrom runLen
      by_cases hp : Lib.hasPrefix l[j].path head = true
      · rw [if_pos hp, if_pos hp]
        by_cases hc : (l[j].path.drop head.length).contains 47 = true
        · rw [if_pos hc]
          have := ih (j + 1) (by omega) (by omega)
          omega
        · rw [if_neg hc, List.map_cons, List.sum_cons]
          obtain ⟨nm, hnm⟩ := (hasPrefix_iff _ _).1 hp
          have hw : holds l j = 1 + runLen (head ++ nm ++ [47]) (l.drop (j + 1)) := by
            unfold holds
            rw [pathAt_is l j hj, headOf, if_neg hn, hnm]
          obtain ⟨i1, i2⟩ := below_skip head nm (l.drop (j + 1)) (j + 1)
          have := ih (j + 1 + runLen (head ++ nm ++ [47]) (l.drop (j + 1))) (by omega) (by omega)
          rw [i1, hw, i2, List.drop_drop]
          omega
      · rw [if_neg hp, if_neg hp]
        simp
    · rw [List.drop_eq_nil_of_le (by omega)]
      simp [belowFrom]
theorem flat_sum (C : Nat) (F : Nat × List UInt8 → List UInt8) (w : Nat × List UInt8 → Nat) : ∀ (ys : List (Nat × List UInt8)), (∀ y ∈ ys, (F y).length ≤ C * w y) → (ys.flatMap F).length ≤ C * (ys.map w).sum
  | [], _ => by simp
  | y :: ys, h => by
    have h1 := h y List.mem_cons_self
    have h2 := flat_sum C F w ys (fun z hz => h z (List.mem_cons_of_mem _ hz))
    rw [List.flatMap_cons, List.length_append, List.map_cons, List.sum_cons, Nat.mul_add]
    omega
theorem belowFrom_name (P : Nat) (head : List UInt8) : ∀ (l : List Nd) (i : Nat) (x : Nat × List UInt8), (∀ n ∈ l, n.path.length ≤ P) → x ∈ belowFrom head i l → x.2.length ≤ P
  | [], _, _, _, h => by simp [belowFrom] at h
  | n :: l, i, x, hP, h => by
    have hn := hP n List.mem_cons_self
    have hr := fun h => belowFrom_name P head l (i + 1) x (fun z hz => hP z (List.mem_cons_of_mem _ hz)) h
    unfold belowFrom at h
    split at h
    · split at h
      · exact hr h
      · rcases List.mem_cons.mp h with rfl | h
        · simp only [List.length_drop]; omega
        · exact hr h
    · simp at h
theorem entryB_len (nm body : List UInt8) : (entryB nm body).length ≤ body.length + (nm.length + 140) := by
  unfold entryB
  have h1 := strB_le nm
  have h2 : (strB wEntry).length = 16 := by decide
  have h3 : (strB wOpen).length = 16 := by decide
  have h4 : (strB wName).length = 16 := by decide
  have h5 : (strB wNode).length = 16 := by decide
  have h6 : (strB wShut).length = 16 := by decide
  simp only [strsB, List.length_append, List.append_nil]
  rw [h2, h3, h4, h5, h6]
  omega
theorem packN_le (l : List Nd) (K P : Nat) (hK : ∀ n ∈ l, (leafB n).length + 72 ≤ K) (hP : ∀ n ∈ l, n.path.length ≤ P) (hK0 : 72 ≤ K) (hne : ∀ j (h : j < l.length), 0 < j → l[j].path ≠ []) :
    ∀ (f i : Nat), (packN f l i).length + (P + 140) ≤ (K + (P + 140)) * holds l i := by
  have h1 : (strsB [wOpen, wType]).length = 32 := by decide
  have h2 : (strsB [wShut]).length = 16 := by decide
  have h3 : (strsB [wDir]).length = 24 := by decide
  intro f
  induction f with
  | zero =>
    intro i
    have : 1 ≤ holds l i := by unfold holds; omega
    have := Nat.mul_le_mul (Nat.le_refl (K + (P + 140))) this
    simp only [packN, List.length_nil]
    omega
  | succ f ih =>
    intro i
    have hw : (K + (P + 140)) * holds l i = (K + (P + 140)) + (K + (P + 140)) * runLen (headOf (pathAt l i)) (l.drop (i + 1)) := by
      unfold holds; rw [Nat.mul_add, Nat.mul_one]
    rw [hw]
    unfold packN
    by_cases hi : i < l.length
    · rw [List.getElem?_eq_getElem hi]
      simp only
      split
      · have h4 := hK _ (List.getElem_mem hi)
        rw [List.length_append, List.length_append, h1, h2]
        omega
      · rw [List.length_append, List.length_append, List.length_append, h1, h2, h3]
        have h5 := flat_sum (K + (P + 140)) (fun x => entryB x.2 (packN f l x.1)) (fun x => holds l x.1) (belowFrom (headOf (l[i]).path) (i + 1) (l.drop (i + 1))) (by
          intro y hy
          have h6 := entryB_len y.2 (packN f l y.1)
          have h7 := belowFrom_name P _ _ _ _ (fun n hn => hP n (List.mem_of_mem_drop hn)) hy
          have h8 := ih y.1
          omega)
        have h6 := below_sum l (headOf (l[i]).path) hne (l.length - (i + 1)) (i + 1) (by omega) (Nat.le_refl _)
        have h7 := Nat.mul_le_mul (Nat.le_refl (K + (P + 140))) h6
        rw [pathAt_is l i hi]
        omega
    · rw [List.getElem?_eq_none (by omega)]
      simp only [List.length_nil]
      omega
theorem holds_le (l : List Nd) (i : Nat) : holds l i ≤ l.length + 1 := by
  unfold holds
  have := runLen_le (headOf (pathAt l i)) (l.drop (i + 1))
  rw [List.length_drop] at this
  omega
mutual
/-- A tree. -/
inductive Tr where
  | leaf (k : Int) (d : List UInt8)
  | dir (es : Es)
/-- What stands in a directory. -/
inductive Es where
  | nil
  | cons (nm : List UInt8) (t : Tr) (es : Es)
end
mutual
/-- The nodes of a tree at a path. -/
def Tr.nodes (p : List UInt8) : Tr → List Nd
  | .leaf k d => [⟨p, k, d⟩]
  | .dir es => ⟨p, 4, []⟩ :: es.nodes p
def Es.nodes (p : List UInt8) : Es → List Nd
  | .nil => []
  | .cons nm t es => t.nodes (headOf p ++ nm) ++ es.nodes p
end
mutual
/-- The bytes of a tree. -/
def Tr.enc : Tr → List UInt8
  | .leaf k d => strsB [wOpen, wType] ++ leafB ⟨[], k, d⟩ ++ strsB [wShut]
  | .dir es => strsB [wOpen, wType] ++ (strsB [wDir] ++ es.enc) ++ strsB [wShut]
def Es.enc : Es → List UInt8
  | .nil => []
  | .cons nm t es => entryB nm t.enc ++ es.enc
end
mutual
/-- May a tree be, so deep? -/
def Tr.ok (d : Nat) : Tr → Bool
  | .leaf k x => decide (k = 1 ∨ k = 2 ∨ k = 3) && okNd ⟨[], k, x⟩
  | .dir es => es.ok d []
def Es.ok (d : Nat) (last : List UInt8) : Es → Bool
  | .nil => true
  | .cons nm t es => mayName nm && (!(Op.bytesLess nm last || nm == last) && (decide (d < 64) && (t.ok (d + 1) && es.ok d nm)))
end
theorem mayName_ne {nm : List UInt8} (h : mayName nm = true) : nm ≠ [] ∧ 47 ∉ nm := by
  unfold mayName at h
  simp only [Bool.and_eq_true, Bool.not_eq_true'] at h
  refine ⟨fun e => by rw [e] at h; simp at h, fun e => ?_⟩
  have h3 := h.2.2.1
  unfold hasSep at h3
  rw [List.any_eq_false] at h3
  exact h3 47 e (by decide)
theorem Tr.first (p : List UInt8) : ∀ t : Tr, ∃ n l, t.nodes p = n :: l ∧ n.path = p
  | .leaf k d => ⟨_, _, by rw [Tr.nodes], rfl⟩
  | .dir es => ⟨_, _, by rw [Tr.nodes], rfl⟩
theorem headOf_ne {p : List UInt8} (h : p ≠ []) : headOf p = p ++ [47] := by rw [headOf, if_neg h]
mutual
theorem Tr.below_path (d : Nat) (p : List UInt8) : ∀ t : Tr, t.ok d = true → ∀ n ∈ (t.nodes p).drop 1, ∃ s, s ≠ [] ∧ n.path = headOf p ++ s
  | .leaf k x, _ => by rw [Tr.nodes]; intro n hn; simp at hn
  | .dir es, h => by
    rw [Tr.nodes]
    rw [Tr.ok] at h
    exact Es.below_path d [] p es h
theorem Es.below_path (d : Nat) (last p : List UInt8) : ∀ es : Es, es.ok d last = true → ∀ n ∈ es.nodes p, ∃ s, s ≠ [] ∧ n.path = headOf p ++ s
  | .nil, _ => by rw [Es.nodes]; intro n hn; simp at hn
  | .cons nm t es, h => by
    rw [Es.ok] at h
    simp only [Bool.and_eq_true] at h
    obtain ⟨h1, _, _, h4, h5⟩ := h
    have hne := (mayName_ne h1).1
    rw [Es.nodes]
    intro n hn
    rcases List.mem_append.1 hn with hn | hn
    · obtain ⟨m, l, hm, hp⟩ := Tr.first (headOf p ++ nm) t
      have hb := Tr.below_path (d + 1) (headOf p ++ nm) t h4
      rw [hm] at hn hb
      rcases List.mem_cons.1 hn with rfl | hn
      · exact ⟨nm, hne, hp⟩
      · obtain ⟨s, hs, hs2⟩ := hb n hn
        rw [headOf_ne (by intro e; exact hne (List.append_eq_nil_iff.1 e).2)] at hs2
        exact ⟨nm ++ [47] ++ s, by simp, by rw [hs2]; simp [List.append_assoc]⟩
    · exact Es.below_path d nm p es h5 n hn
end
mutual
/-- How many nodes. -/
def Tr.size : Tr → Nat
  | .leaf _ _ => 1
  | .dir es => 1 + es.size
def Es.size : Es → Nat
  | .nil => 0
  | .cons _ t es => t.size + es.size
end
mutual
theorem Tr.nodes_length (p : List UInt8) : ∀ t : Tr, (t.nodes p).length = t.size
  | .leaf k d => by rw [Tr.nodes, Tr.size]; rfl
  | .dir es => by rw [Tr.nodes, Tr.size, List.length_cons, Es.nodes_length p es]; omega
theorem Es.nodes_length (p : List UInt8) : ∀ es : Es, (es.nodes p).length = es.size
  | .nil => by rw [Es.nodes, Es.size]; rfl
  | .cons nm t es => by rw [Es.nodes, Es.size, List.length_append, Tr.nodes_length _ t, Es.nodes_length p es]
end
theorem Tr.size_pos : ∀ t : Tr, 1 ≤ t.size
  | .leaf k d => by rw [Tr.size]; exact Nat.le_refl 1
  | .dir es => by rw [Tr.size]; omega
def StopsAt (head : List UInt8) (post : List Nd) : Prop := ∀ n l, post = n :: l → Lib.hasPrefix n.path head = false
theorem below_stopped (head : List UInt8) (post : List Nd) (h : StopsAt head post) (j : Nat) : belowFrom head j post = [] := by
  cases post with
  | nil => rfl
  | cons n l => unfold belowFrom; rw [if_neg (by rw [h n l rfl]; decide)]
theorem below_over (head nm : List UInt8) : ∀ (r rest : List Nd) (j : Nat), (∀ n ∈ r, ∃ s, n.path = head ++ nm ++ [47] ++ s) → belowFrom head j (r ++ rest) = belowFrom head (j + r.length) rest
  | [], rest, j, _ => rfl
  | n :: r, rest, j, h => by
    obtain ⟨s, hs⟩ := h n List.mem_cons_self
    have ih := below_over head nm r rest (j + 1) (fun m hm => h m (List.mem_cons_of_mem _ hm))
    have hp : Lib.hasPrefix n.path head = true := (hasPrefix_iff _ _).2 ⟨nm ++ [47] ++ s, by rw [hs]; simp [List.append_assoc]⟩
    have hc : (n.path.drop head.length).contains 47 = true := by rw [hs]; simp [List.append_assoc]
    rw [List.cons_append, belowFrom, if_pos hp, if_pos hc, ih, List.length_cons]
    congr 1
    omega
def Es.places : Nat → Es → List (Nat × List UInt8)
  | _, .nil => []
  | j, .cons nm t es => (j, nm) :: Es.places (j + t.size) es
theorem Es.stops (d : Nat) (last p q : List UInt8) (es : Es) (post : List Nd) (nm : List UInt8) (hq : q = headOf p ++ nm) (hnm : nm ≠ []) (h : es.ok d last = true) (hpost : StopsAt (headOf p) post) : StopsAt (headOf q) (es.nodes p ++ post) := by
  have hqq : headOf q = headOf p ++ nm ++ [47] := by rw [hq, headOf_ne (by intro e; exact hnm (List.append_eq_nil_iff.1 e).2)]
  intro n l hl
  rw [Bool.eq_false_iff]
  intro hp
  rw [hqq] at hp
  obtain ⟨s, hs⟩ := (hasPrefix_iff _ _).1 hp
  cases es with
  | nil =>
    rw [Es.nodes] at hl
    have h1 := hpost n l hl
    have h2 : Lib.hasPrefix n.path (headOf p) = true := (hasPrefix_iff _ _).2 ⟨nm ++ [47] ++ s, by rw [hs]; simp [List.append_assoc]⟩
    rw [h2] at h1
    exact absurd h1 (by decide)
  | cons nm2 t2 es2 =>
    rw [Es.ok] at h
    simp only [Bool.and_eq_true] at h
    have h47 := (mayName_ne h.1).2
    obtain ⟨m, r, hm, hmp⟩ := Tr.first (headOf p ++ nm2) t2
    rw [Es.nodes, hm, List.cons_append, List.cons_append] at hl
    injection hl with hl1 hl2
    rw [← hl1, hmp] at hs
    have h3 : nm2 = nm ++ [47] ++ s := by
      have : headOf p ++ nm2 = headOf p ++ (nm ++ [47] ++ s) := by rw [hs]; simp [List.append_assoc]
      exact List.append_cancel_left this
    exact h47 (by rw [h3]; simp)
theorem Es.below_is (d : Nat) (p : List UInt8) (post : List Nd) (hpost : StopsAt (headOf p) post) : ∀ (es : Es) (last : List UInt8) (j : Nat), es.ok d last = true → belowFrom (headOf p) j (es.nodes p ++ post) = es.places j
  | .nil, last, j, _ => by rw [Es.nodes, Es.places]; exact below_stopped _ _ hpost j
  | .cons nm t es, last, j, h => by
    have h' := h
    rw [Es.ok] at h
    simp only [Bool.and_eq_true] at h
    obtain ⟨h1, _, _, h4, h5⟩ := h
    obtain ⟨hne, h47⟩ := mayName_ne h1
    have ih := Es.below_is d p post hpost es nm (j + t.size) h5
    obtain ⟨n, r, hn, hnp⟩ := Tr.first (headOf p ++ nm) t
    have hb := Tr.below_path (d + 1) (headOf p ++ nm) t h4
    have hlen := Tr.nodes_length (headOf p ++ nm) t
    rw [hn] at hb hlen
    have hp : Lib.hasPrefix n.path (headOf p) = true := (hasPrefix_iff _ _).2 ⟨nm, hnp⟩
    have hd : n.path.drop (headOf p).length = nm := by rw [hnp]; simp
    have hc : ¬ (nm.contains 47 = true) := by simpa using h47
    rw [Es.nodes, Es.places, hn, List.cons_append, List.cons_append, belowFrom, if_pos hp, hd, if_neg hc, List.append_assoc,
      below_over (headOf p) nm r (es.nodes p ++ post) (j + 1) (by
        intro m hm
        obtain ⟨s, _, hs⟩ := hb m (by simpa using hm)
        rw [headOf_ne (by intro e; exact hne (List.append_eq_nil_iff.1 e).2)] at hs
        exact ⟨s, hs⟩)]
    rw [List.length_cons] at hlen
    rw [show j + 1 + r.length = j + t.size by omega, ih]
mutual
theorem Tr.pack_is : ∀ (t : Tr) (d : Nat) (p : List UInt8) (pre post : List Nd) (f : Nat), t.ok d = true → StopsAt (headOf p) post → t.size ≤ f → packN f (pre ++ (t.nodes p ++ post)) pre.length = t.enc
  | .leaf k x, d, p, pre, post, f, h, hs, hf => by
    rw [Tr.size] at hf
    obtain ⟨f, rfl⟩ : ∃ g, f = g + 1 := ⟨f - 1, by omega⟩
    rw [Tr.ok] at h
    simp only [Bool.and_eq_true, decide_eq_true_eq] at h
    rw [Tr.nodes, Tr.enc, packN]
    simp only [List.cons_append, List.nil_append, List.length_append, List.getElem?_append_right (Nat.le_refl pre.length), Nat.sub_self, List.getElem?_cons_zero]
    rw [if_pos h.1]
    rfl
  | .dir es, d, p, pre, post, f, h, hs, hf => by
    rw [Tr.size] at hf
    obtain ⟨f, rfl⟩ : ∃ g, f = g + 1 := ⟨f - 1, by omega⟩
    rw [Tr.ok] at h
    have hb := Es.below_is d p post hs es [] (pre.length + 1) h
    have ih := Es.pack_is es d [] p (pre ++ [⟨p, 4, []⟩]) post f h hs (by omega)
    have hdrop : (pre ++ (⟨p, 4, []⟩ :: (es.nodes p ++ post))).drop (pre.length + 1) = es.nodes p ++ post := by
      rw [List.drop_append]
      simp
    rw [Tr.nodes, Tr.enc, packN]
    simp only [List.cons_append, List.getElem?_append_right (Nat.le_refl pre.length), Nat.sub_self, List.getElem?_cons_zero]
    rw [if_neg (by decide), hdrop, hb]
    rw [List.length_append, List.length_cons, List.length_nil] at ih
    rw [List.append_assoc] at ih
    simp only [List.cons_append, List.nil_append] at ih
    rw [ih]
theorem Es.pack_is : ∀ (es : Es) (d : Nat) (last p : List UInt8) (pre post : List Nd) (f : Nat), es.ok d last = true → StopsAt (headOf p) post → es.size ≤ f →
    (es.places pre.length).flatMap (fun x => entryB x.2 (packN f (pre ++ (es.nodes p ++ post)) x.1)) = es.enc
  | .nil, d, last, p, pre, post, f, h, hs, hf => by rw [Es.places, Es.enc]; rfl
  | .cons nm t es, d, last, p, pre, post, f, h, hs, hf => by
    rw [Es.size] at hf
    rw [Es.ok] at h
    simp only [Bool.and_eq_true] at h
    obtain ⟨h1, _, _, h4, h5⟩ := h
    have hne := (mayName_ne h1).1
    have it := Tr.pack_is t (d + 1) (headOf p ++ nm) pre (es.nodes p ++ post) f h4 (Es.stops d nm p _ es post nm rfl hne h5 hs) (by omega)
    have ie := Es.pack_is es d nm p (pre ++ t.nodes (headOf p ++ nm)) post f h5 hs (by omega)
    rw [List.length_append, Tr.nodes_length, List.append_assoc] at ie
    rw [Es.places, Es.enc, Es.nodes, List.flatMap_cons]
    simp only [List.append_assoc] at it ie ⊢
    rw [it, ie]
end
theorem cutSlash_is : ∀ (l a n : List UInt8), cutSlash l = some (a, n) → l = a ++ 47 :: n
  | [], a, n, h => by simp [cutSlash] at h
  | b :: l, a, n, h => by
    unfold cutSlash at h
    split at h
    · rename_i a' n' h2
      injection h with h
      obtain rfl : n' = n := congrArg Prod.snd h
      have : b :: a' = a := congrArg Prod.fst h
      rw [← this, cutSlash_is l a' n' h2]
      rfl
    · split at h
      · rename_i h2
        injection h with h
        obtain rfl : l = n := congrArg Prod.snd h
        have : ([] : List UInt8) = a := congrArg Prod.fst h
        rw [← this, h2]
        rfl
      · cases h
theorem idxOf_lt' {α : Type} (p : α → Bool) : ∀ (l : List α) (i : Nat), idxOf p l = i → i < l.length
  | [], i, h => by simp [idxOf] at h
  | x :: l, i, h => by
    have hg := idxOf_ge p l
    unfold idxOf at h
    rw [List.length_cons]
    split at h
    · omega
    · split at h
      · omega
      · have := idxOf_lt' p l (i - 1) (by omega)
        omega
theorem idxOf_append {α : Type} (f : α → Bool) : ∀ (l : List α) (z : α), idxOf f (l ++ [z]) = if 0 ≤ idxOf f l then idxOf f l else if f z then (l.length : Int) else -1
  | [], z => by
    simp only [List.nil_append, idxOf]
    split <;> simp
  | x :: l, z => by
    have ih := idxOf_append f l z
    have hg := idxOf_ge f l
    have hg2 := idxOf_ge f (l ++ [z])
    rw [List.cons_append]
    by_cases h : f x = true
    · simp only [idxOf, if_pos h]
      simp
    · simp only [idxOf, if_neg h, ih]
      rw [List.length_cons]
      repeat' split
      all_goals omega
def parentOf (p : List UInt8) : Option (List UInt8 × List UInt8) :=
  match cutSlash p with
  | none => some ([], p)
  | some (a, n) => if a = [] then none else some (a, n)
theorem parentOf_is {p a n : List UInt8} (h : parentOf p = some (a, n)) : p = headOf a ++ n := by
  unfold parentOf at h
  split at h
  · injection h with h
    have h1 : [] = a := congrArg Prod.fst h
    have h2 : p = n := congrArg Prod.snd h
    rw [← h1, ← h2]; rfl
  · rename_i a' n' hc
    split at h
    · cases h
    · rename_i hne
      injection h with h
      have h1 : a' = a := congrArg Prod.fst h
      have h2 : n' = n := congrArg Prod.snd h
      rw [cutSlash_is _ _ _ hc, ← h1, ← h2, headOf_ne hne]
      simp
theorem withinP_is (op : List Lv) (p : List UInt8) : withinP op p = match parentOf p with
    | none => none
    | some (a, n) => if idxOf (fun x : Lv => x.1 == a) op < 0 then none else some ((idxOf (fun x : Lv => x.1 == a) op).toNat, n) := by
  unfold withinP parentOf
  cases cutSlash p with
  | none => rfl
  | some x =>
    obtain ⟨a, n⟩ := x
    simp only
    split
    · rfl
    · rfl
theorem mayStep_cases (outer : List Lv) (p last : List UInt8) (n : Nd) (op' : List Lv) (h : mayStep (outer ++ [(p, last)]) n = some op') :
    (mayStep outer n = some op') ∨ (∃ nm, n.path = headOf p ++ nm ∧ mayName nm = true ∧ (Op.bytesLess nm last || nm == last) = false ∧ outer.length < 64 ∧ op' = outer ++ [(p, nm)] ++ (if n.kind = 4 then [(n.path, [])] else [])) := by
  unfold mayStep at h ⊢
  rw [withinP_is] at h ⊢
  cases hpar : parentOf n.path with
  | none => rw [hpar] at h; cases h
  | some x =>
    obtain ⟨a, nm⟩ := x
    rw [hpar] at h
    simp only [idxOf_append] at h ⊢
    by_cases h0 : 0 ≤ idxOf (fun x : Lv => x.1 == a) outer
    · left
      rw [if_pos h0] at h
      rw [if_neg (by omega)] at h ⊢
      obtain ⟨i, hi⟩ := Int.eq_ofNat_of_zero_le h0
      have hlt := idxOf_lt' _ _ _ hi
      rw [hi, Int.toNat_natCast] at h ⊢
      simp only at h ⊢
      have hg : (outer ++ [(p, last)]).getD i ([], []) = outer.getD i ([], []) := by
        simp [List.getD_eq_getElem?_getD, List.getElem?_append_left hlt]
      rw [hg, List.take_append_of_le_length (by omega)] at h
      exact h
    · right
      rw [if_neg h0] at h
      by_cases hz : p = a
      · have hb : (p == a) = true := by rw [hz]; simp
        rw [if_pos hb, if_neg (by omega), Int.toNat_natCast] at h
        simp only at h
        have hg : (outer ++ [(p, last)]).getD outer.length ([], []) = (p, last) := by
          simp [List.getD_eq_getElem?_getD]
        rw [hg, List.take_of_length_le (by simp)] at h
        split at h
        · rename_i hc
          simp only [Bool.and_eq_true, Bool.not_eq_true', decide_eq_true_eq] at hc
          injection h with h
          refine ⟨nm, by rw [hz]; exact parentOf_is hpar, hc.1, hc.2.1, hc.2.2, ?_⟩
          rw [← h]
          congr 1
          simp
        · cases h
      · have hb : ¬ ((p == a) = true) := by simpa using hz
        rw [if_neg hb, if_pos (by omega)] at h
        cases h
theorem mayGo_next {outer : List Lv} {n : Nd} {l : List Nd} (h : mayGo outer (n :: l) = true) : ∃ op', mayStep outer n = some op' ∧ mayGo op' l = true := by
  unfold mayGo at h
  split at h
  · cases h
  · rename_i op' hs
    exact ⟨op', hs, h⟩
theorem mayGo_of {outer : List Lv} {n : Nd} {l : List Nd} {op' : List Lv} (h : mayStep outer n = some op') (h2 : mayGo op' l = true) : mayGo outer (n :: l) = true := by
  unfold mayGo
  rw [h]
  exact h2
theorem okNd_kind {n : Nd} (h : okNd n = true) : (n.kind = 1 ∨ n.kind = 2 ∨ n.kind = 3) ∨ (n.kind = 4 ∧ n.data = []) := by
  unfold okNd at h
  split at h
  · rename_i h1
    rcases h1 with h1 | h1
    · exact .inl (.inl h1)
    · exact .inl (.inr (.inl h1))
  · split at h
    · rename_i h3
      exact .inl (.inr (.inr h3))
    · split at h
      · rename_i h4
        exact .inr ⟨h4, by simpa using h⟩
      · cases h
theorem okNd_path (n : Nd) (p : List UInt8) : okNd ⟨p, n.kind, n.data⟩ = okNd n := rfl
theorem mayGo_tree : ∀ (m : Nat) (l : List Nd) (outer : List Lv) (p last : List UInt8), l.length ≤ m → mayGo (outer ++ [(p, last)]) l = true → (∀ n ∈ l, okNd n = true) →
    ∃ es rest, l = Es.nodes p es ++ rest ∧ Es.ok outer.length last es = true ∧ mayGo outer rest = true := by
  intro m
  induction m with
  | zero =>
    intro l outer p last hm h hok
    obtain rfl : l = [] := List.eq_nil_of_length_eq_zero (by omega)
    exact ⟨.nil, [], by rw [Es.nodes]; rfl, by rw [Es.ok], by rw [mayGo]⟩
  | succ m ih =>
    intro l outer p last hm h hok
    cases l with
    | nil => exact ⟨.nil, [], by rw [Es.nodes]; rfl, by rw [Es.ok], by rw [mayGo]⟩
    | cons n l =>
      obtain ⟨op', hs, h2⟩ := mayGo_next h
      rw [List.length_cons] at hm
      have hok' := fun x hx => hok x (List.mem_cons_of_mem _ hx)
      have hn := hok n List.mem_cons_self
      rcases mayStep_cases outer p last n op' hs with hs' | ⟨nm, hp, hnm, hlt, h64, hop⟩
      · exact ⟨.nil, n :: l, by rw [Es.nodes]; rfl, by rw [Es.ok], mayGo_of hs' h2⟩
      · rcases okNd_kind hn with hk | ⟨hk, hd⟩
        · have hk4 : ¬ n.kind = 4 := by omega
          rw [if_neg hk4, List.append_nil] at hop
          rw [hop] at h2
          obtain ⟨es, rest, e1, e2, e3⟩ := ih l outer p nm (by omega) h2 hok'
          refine ⟨.cons nm (.leaf n.kind n.data) es, rest, ?_, ?_, e3⟩
          · rw [Es.nodes, Tr.nodes, ← hp, e1]; rfl
          · rw [Es.ok, hnm, hlt, decide_eq_true h64, Tr.ok, decide_eq_true hk, e2, okNd_path, hn]; rfl
        · rw [if_pos hk] at hop
          rw [hop] at h2
          obtain ⟨es1, rest1, e1, e2, e3⟩ := ih l (outer ++ [(p, nm)]) n.path [] (by omega) h2 hok'
          have hr : rest1.length ≤ l.length := by rw [e1, List.length_append]; omega
          obtain ⟨es2, rest2, f1, f2, f3⟩ := ih rest1 outer p nm (by omega) e3 (fun x hx => hok' x (by rw [e1]; exact List.mem_append_right _ hx))
          refine ⟨.cons nm (.dir es1) es2, rest2, ?_, ?_, f3⟩
          · rw [Es.nodes, Tr.nodes, ← hp, e1, f1]
            have : n = ⟨n.path, 4, []⟩ := by rw [← hk, ← hd]
            conv => lhs; rw [this]
            simp [List.append_assoc]
          · rw [List.length_append, List.length_cons, List.length_nil] at e2
            rw [Es.ok, hnm, hlt, decide_eq_true h64, Tr.ok, f2, e2]; rfl
theorem mayGo_nil : ∀ l : List Nd, mayGo [] l = true → l = []
  | [], _ => rfl
  | n :: l, h => by
    obtain ⟨op', hs, _⟩ := mayGo_next h
    unfold mayStep at hs
    rw [withinP_is] at hs
    cases hpar : parentOf n.path with
    | none => rw [hpar] at hs; cases hs
    | some x =>
      rw [hpar] at hs
      simp [idxOf] at hs
theorem may_tree (l : List Nd) (h : May l = true) : ∃ t : Tr, t.ok 0 = true ∧ l = t.nodes [] := by
  unfold May at h
  cases l with
  | nil => cases h
  | cons n r =>
    simp only [Bool.and_eq_true, decide_eq_true_eq] at h
    obtain ⟨_, h2, h3, h4⟩ := h
    have hp : n.path = [] := by simpa using h2
    have hall : ∀ x ∈ n :: r, okNd x = true := fun x hx => List.all_eq_true.1 h3 x hx
    have hn := hall n List.mem_cons_self
    rcases okNd_kind hn with hk | ⟨hk, hd⟩
    · rw [if_neg (by omega)] at h4
      obtain rfl := mayGo_nil r h4
      refine ⟨.leaf n.kind n.data, ?_, ?_⟩
      · rw [Tr.ok, decide_eq_true hk, okNd_path, hn]; rfl
      · rw [Tr.nodes, ← hp]
    · rw [if_pos hk] at h4
      obtain ⟨es, rest, e1, e2, e3⟩ := mayGo_tree r.length r [] [] [] (Nat.le_refl _) h4 (fun x hx => hall x (List.mem_cons_of_mem _ hx))
      obtain rfl := mayGo_nil rest e3
      refine ⟨.dir es, ?_, ?_⟩
      · rw [Tr.ok]; exact e2
      · rw [Tr.nodes, e1, List.append_nil]
        have : n = ⟨[], 4, []⟩ := by
          cases n
          simp only at hp hk hd
          rw [hp, hk, hd]
        rw [this]
theorem packN_tree (t : Tr) (h : t.ok 0 = true) : packN (t.nodes []).length (t.nodes []) 0 = t.enc := by
  have := Tr.pack_is t 0 [] [] [] (t.nodes []).length h (fun n l e => by cases e) (by rw [Tr.nodes_length]; exact Nat.le_refl _)
  simpa using this
theorem parentOf_in (p nm : List UInt8) (h : 47 ∉ nm) : parentOf (headOf p ++ nm) = some (p, nm) := by
  unfold parentOf
  by_cases hp : p = []
  · subst hp
    rw [show headOf [] ++ nm = nm from rfl, cutSlash_none nm h]
  · have e : headOf p ++ nm = p ++ 47 :: nm := by rw [headOf_ne hp]; simp
    rw [e, cutSlash_some p nm h]
    simp only
    rw [if_neg hp]
theorem idxOf_mid (p : List UInt8) (outer tail : List Lv) (last : List UInt8) (hout : ∀ x ∈ outer, x.1 ≠ p) : idxOf (fun x : Lv => x.1 == p) (outer ++ [(p, last)] ++ tail) = (outer.length : Int) := by
  refine idxOf_hit _ _ outer.length (by simp) ?_ ?_
  · intro j hj
    have e : (outer ++ [(p, last)] ++ tail)[j]'(by simp; omega) = outer[j] := by
      simp [List.append_assoc, List.getElem_append_left hj]
    rw [e]
    exact beq_eq_false_iff_ne.2 (hout _ (List.getElem_mem _))
  · simp [List.append_assoc, List.getElem_append_right]
theorem mayStep_in (outer tail : List Lv) (p last nm : List UInt8) (n : Nd) (hp : n.path = headOf p ++ nm) (hnm : mayName nm = true) (hlt : (Op.bytesLess nm last || nm == last) = false) (h64 : outer.length < 64) (hout : ∀ x ∈ outer, x.1 ≠ p) :
    mayStep (outer ++ [(p, last)] ++ tail) n = some (outer ++ [(p, nm)] ++ (if n.kind = 4 then [(n.path, [])] else [])) := by
  unfold mayStep
  rw [withinP_is, hp, parentOf_in p nm (mayName_ne hnm).2]
  simp only
  rw [idxOf_mid p outer tail last hout, if_neg (by omega), Int.toNat_natCast]
  simp only
  have hg : (outer ++ [(p, last)] ++ tail).getD outer.length ([], []) = (p, last) := by
    simp [List.getD_eq_getElem?_getD, List.append_assoc]
  have ht : (outer ++ [(p, last)] ++ tail).take (outer.length + 1) = outer ++ [(p, last)] := by
    rw [List.take_append_of_le_length (by simp)]
    exact List.take_of_length_le (by simp)
  rw [hg, ht, hnm, hlt, decide_eq_true h64]
  simp [hp]
theorem okNd_dir (p : List UInt8) : okNd ⟨p, 4, []⟩ = true := by simp [okNd]
mutual
theorem Tr.may_in : ∀ (t : Tr) (outer tail : List Lv) (p last nm : List UInt8) (rest : List Nd), t.ok (outer.length + 1) = true → mayName nm = true → (Op.bytesLess nm last || nm == last) = false → outer.length < 64 →
    (∀ x ∈ outer, x.1.length < p.length) → (∀ tail', mayGo (outer ++ [(p, nm)] ++ tail') rest = true) → mayGo (outer ++ [(p, last)] ++ tail) (t.nodes (headOf p ++ nm) ++ rest) = true
  | .leaf k x, outer, tail, p, last, nm, rest, h, hnm, hlt, h64, hout, hr => by
    rw [Tr.nodes]
    exact mayGo_of (mayStep_in outer tail p last nm ⟨headOf p ++ nm, k, x⟩ rfl hnm hlt h64 (fun x hx e => by have := hout x hx; rw [e] at this; omega)) (hr _)
  | .dir es, outer, tail, p, last, nm, rest, h, hnm, hlt, h64, hout, hr => by
    rw [Tr.nodes, List.cons_append]
    refine mayGo_of (mayStep_in outer tail p last nm ⟨headOf p ++ nm, 4, []⟩ rfl hnm hlt h64 (fun x hx e => by have := hout x hx; rw [e] at this; omega)) ?_
    rw [if_pos rfl]
    rw [Tr.ok] at h
    have hne := (mayName_ne hnm).1
    have hlen : p.length < (headOf p ++ nm).length := by
      have : nm.length ≠ 0 := fun e => hne (List.length_eq_zero_iff.1 e)
      rw [List.length_append, headOf]
      split
      · rename_i e; rw [e]; simp; omega
      · simp; omega
    have := Es.may_in es (outer ++ [(p, nm)]) [] (headOf p ++ nm) [] rest (by simpa using h) (by
      intro x hx
      rcases List.mem_append.1 hx with hx | hx
      · have := hout x hx; omega
      · simp at hx; rw [hx]; exact hlen) (fun last' tail' => by
      have := hr ([(headOf p ++ nm, last')] ++ tail')
      simpa [List.append_assoc] using this)
    simpa using this
theorem Es.may_in : ∀ (es : Es) (outer tail : List Lv) (p last : List UInt8) (rest : List Nd), es.ok outer.length last = true →
    (∀ x ∈ outer, x.1.length < p.length) → (∀ last' tail', mayGo (outer ++ [(p, last')] ++ tail') rest = true) → mayGo (outer ++ [(p, last)] ++ tail) (es.nodes p ++ rest) = true
  | .nil, outer, tail, p, last, rest, h, hout, hr => by rw [Es.nodes]; exact hr last tail
  | .cons nm t es, outer, tail, p, last, rest, h, hout, hr => by
    rw [Es.ok] at h
    simp only [Bool.and_eq_true, Bool.not_eq_true', decide_eq_true_eq] at h
    obtain ⟨h1, h2, h3, h4, h5⟩ := h
    rw [Es.nodes, List.append_assoc (Tr.nodes _ t)]
    exact Tr.may_in t outer tail p last nm (es.nodes p ++ rest) h4 h1 h2 h3 hout (fun tail' => Es.may_in es outer tail' p nm rest h5 hout hr)
end
mutual
theorem Tr.ok_nodes (d : Nat) (p : List UInt8) : ∀ t : Tr, t.ok d = true → ∀ n ∈ t.nodes p, okNd n = true
  | .leaf k x, h => by
    rw [Tr.nodes]
    rw [Tr.ok] at h
    simp only [Bool.and_eq_true] at h
    intro n hn
    rw [List.mem_singleton.1 hn]
    exact h.2
  | .dir es, h => by
    rw [Tr.nodes]
    rw [Tr.ok] at h
    intro n hn
    rcases List.mem_cons.1 hn with rfl | hn
    · exact okNd_dir p
    · exact Es.ok_nodes d [] p es h n hn
theorem Es.ok_nodes (d : Nat) (last p : List UInt8) : ∀ es : Es, es.ok d last = true → ∀ n ∈ es.nodes p, okNd n = true
  | .nil, _ => by rw [Es.nodes]; intro n hn; simp at hn
  | .cons nm t es, h => by
    rw [Es.ok] at h
    simp only [Bool.and_eq_true] at h
    rw [Es.nodes]
    intro n hn
    rcases List.mem_append.1 hn with hn | hn
    · exact Tr.ok_nodes (d + 1) _ t h.2.2.2.1 n hn
    · exact Es.ok_nodes d nm p es h.2.2.2.2 n hn
end
theorem May_cons (n : Nd) (r : List Nd) : May (n :: r) = (decide ((n :: r).length ≤ 256) && (n.path == [] && ((n :: r).all okNd && mayGo (if n.kind = 4 then [([], [])] else []) r))) := rfl
theorem tree_may (t : Tr) (h : t.ok 0 = true) (hs : t.size ≤ 256) : May (t.nodes []) = true := by
  have hok := Tr.ok_nodes 0 [] t h
  have hl := Tr.nodes_length [] t
  cases t with
  | leaf k x =>
    rw [Tr.nodes] at hok ⊢
    rw [Tr.ok] at h
    simp only [Bool.and_eq_true, decide_eq_true_eq] at h
    rw [May_cons]
    rw [if_neg (by show ¬ k = 4; omega), mayGo]
    simp only [List.all_cons, List.all_nil, hok _ (List.mem_singleton.2 rfl)]
    simp
  | dir es =>
    rw [Tr.nodes] at hok hl ⊢
    rw [Tr.ok] at h
    rw [May_cons]
    have hall : (⟨[], 4, []⟩ :: es.nodes []).all okNd = true := List.all_eq_true.2 hok
    have hgo := Es.may_in es [] [] [] [] [] h (fun x hx => by cases hx) (fun _ _ => by rw [mayGo])
    rw [hall, if_pos rfl, hl, decide_eq_true hs]
    simpa using hgo
abbrev Rd (α : Type) := Except Int (α × List UInt8)
def Rd.then {α β : Type} (x : Rd α) (f : α → List UInt8 → Rd β) : Rd β := match x with | .error e => .error e | .ok (a, r) => f a r
theorem Rd.then_ok {α β : Type} (a : α) (r : List UInt8) (f : α → List UInt8 → Rd β) : Rd.then (.ok (a, r)) f = f a r := rfl
theorem Rd.then_error {α β : Type} (e : Int) (f : α → List UInt8 → Rd β) : Rd.then (.error e) f = .error e := rfl
theorem Rd.then_is {α β : Type} {x : Rd α} {f : α → List UInt8 → Rd β} {b : β} {r : List UInt8} (h : x.then f = .ok (b, r)) : ∃ a r1, x = .ok (a, r1) ∧ f a r1 = .ok (b, r) := by
  cases x with
  | error e => cases h
  | ok y => exact ⟨y.1, y.2, rfl, h⟩
def leN : List UInt8 → Nat
  | [] => 0
  | b :: l => b.toNat + 256 * leN l
def textP (most : Nat) (s : List UInt8) : Rd (List UInt8) :=
  if s.length < 8 then .error 5
  else if most < leN (s.take 8) then .error 4
  else if (s.drop 8).length < (leN (s.take 8) + 7) / 8 * 8 then .error 5
  else if (((s.drop 8).take ((leN (s.take 8) + 7) / 8 * 8)).drop (leN (s.take 8))).all (· == 0) then .ok ((s.drop 8).take (leN (s.take 8)), (s.drop 8).drop ((leN (s.take 8) + 7) / 8 * 8))
  else .error 4
def longest : List (List UInt8) → Nat
  | [] => 0
  | t :: l => max t.length (longest l)
def oneP (l : List (List UInt8)) (s : List UInt8) : Rd (List UInt8) := (textP (longest l) s).then fun t r => if l.contains t then .ok (t, r) else .error 4
def mustP : List (List UInt8) → List UInt8 → Rd Unit
  | [], s => .ok ((), s)
  | t :: l, s => (oneP [t] s).then fun _ r => mustP l r
def fileP (s : List UInt8) : Rd (Int × List UInt8) :=
  (oneP [wExec, wContents] s).then fun t r =>
    if t = wExec then (mustP [[], wContents] r).then fun _ r => (textP 65536 r).then fun d r => .ok ((2, d), r)
    else (textP 65536 r).then fun d r => .ok ((1, d), r)
def linkP (s : List UInt8) : Rd (Int × List UInt8) :=
  (mustP [wTarget] s).then fun _ r => (textP 4096 r).then fun d r => if d = [] ∨ hasZero d = true then .error 4 else .ok ((3, d), r)
def nameP (last : List UInt8) (deep cnt : Nat) (s : List UInt8) : Rd (List UInt8) :=
  (textP 255 s).then fun t r => if mayName t = false ∨ (Op.bytesLess t last || t == last) = true ∨ 256 ≤ cnt ∨ 64 ≤ deep then .error 4 else .ok (t, r)
mutual
/-- A node, at a path. -/
def nodeP : Nat → List UInt8 → Nat → List Nd → List UInt8 → Rd (List Nd)
  | 0, _, _, _, _ => .error 0
  | f + 1, path, deep, l, s =>
    (mustP [wOpen, wType] s).then fun _ r => (oneP [wRegular, wSymlink, wDir] r).then fun t r =>
      if t = wDir then dirP f path deep [] (l ++ [⟨path, 4, []⟩]) r
      else (if t = wRegular then fileP r else linkP r).then fun x r => (mustP [wShut] r).then fun _ r => .ok (l ++ [⟨path, x.1, x.2⟩], r)
/-- What is in a directory. -/
def dirP : Nat → List UInt8 → Nat → List UInt8 → List Nd → List UInt8 → Rd (List Nd)
  | 0, _, _, _, _, _ => .error 0
  | f + 1, path, deep, last, l, s =>
    (oneP [wEntry, wShut] s).then fun t r =>
      if t = wShut then .ok (l, r)
      else (mustP [wOpen, wName] r).then fun _ r => (nameP last deep l.length r).then fun nm r => (mustP [wNode] r).then fun _ r =>
        (nodeP f (headOf path ++ nm) (deep + 1) l r).then fun l r => (mustP [wShut] r).then fun _ r => dirP f path deep nm l r
end
def getP (s : List UInt8) : Except Int (List Nd) :=
  match (mustP [wMark] s).then fun _ r => nodeP (s.length + 1) [] 0 [] r with
  | .error e => .error e
  | .ok (l, r) => if r = [] then .ok l else .error 4
def Stream {α : Type} (P : List UInt8 → Rd α) : Prop := ∀ s z, (∃ x r, P s = .ok (x, r) ∧ P (s ++ z) = .ok (x, r ++ z)) ∨ (P s = .error 4 ∧ P (s ++ z) = .error 4) ∨ P s = .error 5 ∨ (P s = .error 0)
theorem Stream.pure {α : Type} (x : α) : Stream fun s => (.ok (x, s) : Rd α) := fun s z => .inl ⟨x, s, rfl, rfl⟩
theorem Stream.fail {α : Type} : Stream fun _ => (.error 4 : Rd α) := fun s z => .inr (.inl ⟨rfl, rfl⟩)
theorem Stream.bind {α β : Type} {P : List UInt8 → Rd α} {F : α → List UInt8 → Rd β} (hP : Stream P) (hF : ∀ a, Stream (F a)) : Stream fun s => (P s).then (F ·) := by
  intro s z
  rcases hP s z with ⟨x, r, h1, h2⟩ | ⟨h1, h2⟩ | h1 | h1
  · rcases hF x r z with ⟨y, q, h3, h4⟩ | ⟨h3, h4⟩ | h3 | h3
    · exact .inl ⟨y, q, by simp only [h1, Rd.then_ok, h3], by simp only [h2, Rd.then_ok, h4]⟩
    · exact .inr (.inl ⟨by simp only [h1, Rd.then_ok, h3], by simp only [h2, Rd.then_ok, h4]⟩)
    · exact .inr (.inr (.inl (by simp only [h1, Rd.then_ok, h3])))
    · exact .inr (.inr (.inr (by simp only [h1, Rd.then_ok, h3])))
  · exact .inr (.inl ⟨by simp only [h1, Rd.then_error], by simp only [h2, Rd.then_error]⟩)
  · exact .inr (.inr (.inl (by simp only [h1, Rd.then_error])))
  · exact .inr (.inr (.inr (by simp only [h1, Rd.then_error])))
theorem Stream.ite {α : Type} {c : Prop} [Decidable c] {P Q : List UInt8 → Rd α} (hP : Stream P) (hQ : Stream Q) : Stream fun s => if c then P s else Q s := by
  by_cases h : c
  · simp only [if_pos h]; exact hP
  · simp only [if_neg h]; exact hQ
theorem text_stream (most : Nat) : Stream (textP most) := by
  intro s z
  unfold textP
  by_cases h1 : s.length < 8
  · rw [if_pos h1]; exact .inr (.inr (.inl rfl))
  · have ht : (s ++ z).take 8 = s.take 8 := List.take_append_of_le_length (by omega)
    have hd : (s ++ z).drop 8 = s.drop 8 ++ z := List.drop_append_of_le_length (by omega)
    rw [if_neg h1, if_neg (show ¬ (s ++ z).length < 8 by rw [List.length_append]; omega), ht, hd]
    obtain ⟨n, hn⟩ : ∃ n, n = leN (s.take 8) := ⟨_, rfl⟩
    obtain ⟨y, hy⟩ : ∃ y, y = s.drop 8 := ⟨_, rfl⟩
    rw [← hn, ← hy]
    by_cases h2 : most < n
    · rw [if_pos h2, if_pos h2]; exact .inr (.inl ⟨rfl, rfl⟩)
    · rw [if_neg h2, if_neg h2]
      by_cases h3 : y.length < (n + 7) / 8 * 8
      · rw [if_pos h3]; exact .inr (.inr (.inl rfl))
      · rw [if_neg h3, if_neg (show ¬ (y ++ z).length < (n + 7) / 8 * 8 by rw [List.length_append]; omega), List.take_append_of_le_length (show (n + 7) / 8 * 8 ≤ y.length by omega), List.take_append_of_le_length (show n ≤ y.length by omega), List.drop_append_of_le_length (show (n + 7) / 8 * 8 ≤ y.length by omega)]
        split
        · exact .inl ⟨_, _, rfl, rfl⟩
        · exact .inr (.inl ⟨rfl, rfl⟩)
theorem one_stream (l : List (List UInt8)) : Stream (oneP l) := Stream.bind (text_stream _) fun t => Stream.ite (Stream.pure t) Stream.fail
theorem must_stream : ∀ l : List (List UInt8), Stream (mustP l)
  | [] => Stream.pure ()
  | t :: l => Stream.bind (one_stream [t]) fun _ => must_stream l
theorem file_stream : Stream fileP := Stream.bind (one_stream _) fun t => Stream.ite (Stream.bind (must_stream _) fun _ => Stream.bind (text_stream _) fun d => Stream.pure _) (Stream.bind (text_stream _) fun d => Stream.pure _)
theorem link_stream : Stream linkP := Stream.bind (must_stream _) fun _ => Stream.bind (text_stream _) fun d => Stream.ite Stream.fail (Stream.pure _)
theorem name_stream (last : List UInt8) (deep cnt : Nat) : Stream (nameP last deep cnt) := Stream.bind (text_stream _) fun t => Stream.ite Stream.fail (Stream.pure t)
mutual
theorem node_stream : ∀ (f : Nat) (path : List UInt8) (deep : Nat) (l : List Nd), Stream (nodeP f path deep l)
  | 0, _, _, _ => fun s z => .inr (.inr (.inr (by rw [nodeP])))
  | f + 1, path, deep, l => by
    have h : nodeP (f + 1) path deep l = fun s => (mustP [wOpen, wType] s).then fun _ r => (oneP [wRegular, wSymlink, wDir] r).then fun t r =>
      if t = wDir then dirP f path deep [] (l ++ [⟨path, 4, []⟩]) r
      else (if t = wRegular then fileP r else linkP r).then fun x r => (mustP [wShut] r).then fun _ r => .ok (l ++ [⟨path, x.1, x.2⟩], r) := by
      funext s; rw [nodeP]
    rw [h]
    exact Stream.bind (must_stream _) fun _ => Stream.bind (one_stream _) fun t => Stream.ite (dir_stream f _ _ _ _) (Stream.bind (Stream.ite file_stream link_stream) fun x => Stream.bind (must_stream _) fun _ => Stream.pure _)
theorem dir_stream : ∀ (f : Nat) (path : List UInt8) (deep : Nat) (last : List UInt8) (l : List Nd), Stream (dirP f path deep last l)
  | 0, _, _, _, _ => fun s z => .inr (.inr (.inr (by rw [dirP])))
  | f + 1, path, deep, last, l => by
    have h : dirP (f + 1) path deep last l = fun s => (oneP [wEntry, wShut] s).then fun t r =>
      if t = wShut then .ok (l, r)
      else (mustP [wOpen, wName] r).then fun _ r => (nameP last deep l.length r).then fun nm r => (mustP [wNode] r).then fun _ r =>
        (nodeP f (headOf path ++ nm) (deep + 1) l r).then fun l r => (mustP [wShut] r).then fun _ r => dirP f path deep nm l r := by
      funext s; rw [dirP]
    rw [h]
    exact Stream.bind (one_stream _) fun t => Stream.ite (Stream.pure l) (Stream.bind (must_stream _) fun _ => Stream.bind (name_stream _ _ _) fun nm => Stream.bind (must_stream _) fun _ =>
      Stream.bind (node_stream f _ _ _) fun l => Stream.bind (must_stream _) fun _ => dir_stream f _ _ _ _)
end
def leK : Nat → Nat → List UInt8
  | 0, _ => []
  | k + 1, n => UInt8.ofNat n :: leK k (n / 256)
theorem le8_K (n : Nat) : le8 n = leK 8 n := by
  simp only [le8, leK, Nat.div_div_eq_div_mul]
theorem leN_K : ∀ (k n : Nat), leN (leK k n) = n % 256 ^ k
  | 0, n => by rw [leK, leN, Nat.pow_zero, Nat.mod_one]
  | k + 1, n => by
    rw [leK, leN, leN_K k (n / 256), Nat.pow_succ', Nat.mod_mul]
    try rw [show (UInt8.ofNat n).toNat = n % 256 from by simp]
theorem leK_N : ∀ l : List UInt8, leK l.length (leN l) = l
  | [] => rfl
  | b :: l => by
    have hb := b.toNat_lt
    rw [List.length_cons, leK, leN, show (b.toNat + 256 * leN l) / 256 = leN l by omega, leK_N l]
    congr 1
    apply UInt8.toNat_inj.mp
    simp
theorem leN_le8 (n : Nat) (h : n < 18446744073709551616) : leN (le8 n) = n := by
  rw [le8_K, leN_K]
  exact Nat.mod_eq_of_lt h
theorem le8_leN (l : List UInt8) (h : l.length = 8) : le8 (leN l) = l := by
  rw [le8_K]
  have := leK_N l
  rw [h] at this
  exact this
theorem pad_is (n : Nat) : (n + 7) / 8 * 8 = n + pad n := by unfold pad; omega
theorem zeros_is : ∀ (l : List UInt8), l.all (· == 0) = true → l = List.replicate l.length 0
  | [], _ => rfl
  | b :: l, h => by
    rw [List.all_cons, Bool.and_eq_true] at h
    have hb : b = 0 := by simpa using h.1
    rw [List.length_cons, List.replicate_succ, hb, ← zeros_is l h.2]
theorem text_sound {most : Nat} {s t r : List UInt8} (h : textP most s = .ok (t, r)) : s = strB t ++ r ∧ t.length ≤ most := by
  unfold textP at h
  split at h
  · cases h
  · rename_i h1
    split at h
    · cases h
    · rename_i h2
      split at h
      · cases h
      · rename_i h3
        split at h
        · rename_i h4
          injection h with h
          obtain ⟨n, hn⟩ : ∃ n, n = leN (s.take 8) := ⟨_, rfl⟩
          obtain ⟨y, hy⟩ : ∃ y, y = s.drop 8 := ⟨_, rfl⟩
          rw [← hn, ← hy] at h h3 h4
          rw [← hn] at h2
          rw [pad_is] at h h3 h4
          have ht : y.take n = t := congrArg Prod.fst h
          have hr : y.drop (n + pad n) = r := congrArg Prod.snd h
          have hl : t.length = n := by rw [← ht, List.length_take]; omega
          refine ⟨?_, by omega⟩
          have hz := zeros_is _ h4
          rw [List.length_drop, List.length_take, Nat.min_eq_left (by omega), Nat.add_sub_cancel_left] at hz
          have e8 : le8 n = s.take 8 := by rw [hn]; exact le8_leN _ (by rw [List.length_take]; omega)
          have e1 : s = s.take 8 ++ y := by rw [hy, List.take_append_drop]
          have e2 : y = y.take n ++ ((y.take (n + pad n)).drop n ++ y.drop (n + pad n)) := by
            have h5 : y.take n = (y.take (n + pad n)).take n := by rw [List.take_take, Nat.min_eq_left (by omega)]
            rw [← List.append_assoc, h5, List.take_append_drop, List.take_append_drop]
          rw [strB, hl, e8, ← ht, ← hr, ← hz, List.append_assoc, List.append_assoc, ← e2]
          exact e1
        · cases h
theorem text_complete (most : Nat) (t r : List UInt8) (h : t.length ≤ most) (hb : t.length < 18446744073709551616) : textP most (strB t ++ r) = .ok (t, r) := by
  have h8 : (strB t ++ r).take 8 = le8 t.length := by
    rw [strB, List.append_assoc, List.append_assoc]
    exact List.take_left' (le8_length _)
  have hd : (strB t ++ r).drop 8 = t ++ (List.replicate (pad t.length) 0 ++ r) := by
    rw [strB, List.append_assoc, List.append_assoc]
    exact List.drop_left' (le8_length _)
  have hl : 8 ≤ (strB t ++ r).length := by rw [List.length_append, strB_length]; omega
  unfold textP
  rw [if_neg (by omega), h8, hd, leN_le8 _ hb, if_neg (by omega), pad_is, if_neg (by simp only [List.length_append, List.length_replicate]; omega)]
  have e1 : (t ++ (List.replicate (pad t.length) 0 ++ r)).take t.length = t := List.take_left' rfl
  have e2 : (t ++ (List.replicate (pad t.length) 0 ++ r)).drop (t.length + pad t.length) = r := by
    rw [← List.append_assoc]
    exact List.drop_left' (by simp)
  have e3 : ((t ++ (List.replicate (pad t.length) 0 ++ r)).take (t.length + pad t.length)).drop t.length = List.replicate (pad t.length) 0 := by
    rw [← List.append_assoc, List.take_left' (by simp)]
    exact List.drop_left' rfl
  rw [e1, e2, e3, if_pos (by simp)]
theorem longest_le : ∀ (l : List (List UInt8)) (t : List UInt8), t ∈ l → t.length ≤ longest l
  | [], _, h => by simp at h
  | u :: l, t, h => by
    rw [longest]
    rcases List.mem_cons.1 h with rfl | h
    · exact Nat.le_max_left _ _
    · exact Nat.le_trans (longest_le l t h) (Nat.le_max_right _ _)
theorem one_sound {l : List (List UInt8)} {s t r : List UInt8} (h : oneP l s = .ok (t, r)) : t ∈ l ∧ s = strB t ++ r := by
  obtain ⟨u, q, h1, h2⟩ := Rd.then_is h
  split at h2
  · rename_i hc
    injection h2 with h2
    injection h2 with h3 h4
    subst h3 h4
    exact ⟨by simpa using hc, (text_sound h1).1⟩
  · cases h2
theorem one_complete (l : List (List UInt8)) (t r : List UInt8) (h : t ∈ l) (hb : t.length < 18446744073709551616) : oneP l (strB t ++ r) = .ok (t, r) := by
  unfold oneP
  rw [text_complete _ t r (longest_le l t h) hb, Rd.then_ok, if_pos (by simpa using h)]
theorem must_sound : ∀ {l : List (List UInt8)} {s r : List UInt8} {u : Unit}, mustP l s = .ok (u, r) → s = strsB l ++ r
  | [], s, r, u, h => by
    injection h with h
    exact congrArg Prod.snd h
  | t :: l, s, r, u, h => by
    obtain ⟨a, q, h1, h2⟩ := Rd.then_is h
    obtain ⟨h3, h4⟩ := one_sound h1
    have h5 := must_sound h2
    rw [strsB, List.append_assoc, ← h5, ← List.mem_singleton.1 h3]
    exact h4
theorem must_complete : ∀ (l : List (List UInt8)) (r : List UInt8), (∀ t ∈ l, t.length < 18446744073709551616) → mustP l (strsB l ++ r) = .ok ((), r)
  | [], r, _ => rfl
  | t :: l, r, h => by
    rw [mustP, strsB, List.append_assoc, one_complete [t] t _ (by simp) (h t (by simp)), Rd.then_ok]
    exact must_complete l r (fun u hu => h u (List.mem_cons_of_mem _ hu))
theorem leaf_sound {t s r : List UInt8} {x : Int × List UInt8} (ht : t ∈ [wRegular, wSymlink, wDir]) (hd : t ≠ wDir) (h : (if t = wRegular then fileP s else linkP s) = .ok (x, r)) :
    (x.1 = 1 ∨ x.1 = 2 ∨ x.1 = 3) ∧ okNd ⟨[], x.1, x.2⟩ = true ∧ strB t ++ s = leafB ⟨[], x.1, x.2⟩ ++ r := by
  split at h
  · rename_i e
    subst e
    obtain ⟨u, q, h1, h2⟩ := Rd.then_is h
    obtain ⟨_, h3⟩ := one_sound h1
    split at h2
    · rename_i e
      subst e
      obtain ⟨_, q2, h4, h5⟩ := Rd.then_is h2
      obtain ⟨d, q3, h6, h7⟩ := Rd.then_is h5
      injection h7 with h7
      injection h7 with h8 h9
      subst h8 h9
      obtain ⟨h10, h11⟩ := text_sound h6
      have h12 := must_sound h4
      refine ⟨.inr (.inl rfl), ?_, ?_⟩
      · unfold okNd; rw [if_pos (show (2 : Int) = 1 ∨ (2 : Int) = 2 from .inr rfl)]; exact decide_eq_true h11
      · rw [h3, h12, h10, leafB, if_neg (show ¬ (2 : Int) = 1 by decide), if_pos (show (2 : Int) = 2 from rfl)]
        simp only [strsB, List.append_assoc, List.append_nil]
    · rename_i e
      obtain ⟨d, q3, h6, h7⟩ := Rd.then_is h2
      injection h7 with h7
      injection h7 with h8 h9
      subst h8 h9
      obtain ⟨h10, h11⟩ := text_sound h6
      obtain ⟨hu, _⟩ := one_sound h1
      have hu2 : u = wContents := by
        rcases List.mem_cons.1 hu with hu | hu
        · exact absurd hu e
        · exact List.mem_singleton.1 hu
      refine ⟨.inl rfl, ?_, ?_⟩
      · unfold okNd; rw [if_pos (show (1 : Int) = 1 ∨ (1 : Int) = 2 from .inl rfl)]; exact decide_eq_true h11
      · rw [h3, h10, hu2, leafB, if_pos (show (1 : Int) = 1 from rfl)]
        simp only [strsB, List.append_assoc, List.append_nil]
  · rename_i e
    have ht2 : t = wSymlink := by
      rcases List.mem_cons.1 ht with h | h
      · exact absurd h e
      · rcases List.mem_cons.1 h with h | h
        · exact h
        · exact absurd (List.mem_singleton.1 h) hd
    subst ht2
    obtain ⟨_, q, h1, h2⟩ := Rd.then_is h
    obtain ⟨d, q2, h3, h4⟩ := Rd.then_is h2
    split at h4
    · cases h4
    · rename_i hn
      injection h4 with h4
      injection h4 with h5 h6
      subst h5 h6
      obtain ⟨h7, h8⟩ := text_sound h3
      have h9 := must_sound h1
      have hn1 : d ≠ [] := fun e => hn (.inl e)
      have hn2 : hasZero d = false := by
        cases hz : hasZero d with
        | false => rfl
        | true => exact absurd (.inr hz) hn
      refine ⟨.inr (.inr rfl), ?_, ?_⟩
      · unfold okNd; rw [if_neg (show ¬ ((3 : Int) = 1 ∨ (3 : Int) = 2) by decide), if_pos (show (3 : Int) = 3 from rfl), beq_eq_false_iff_ne.2 hn1, decide_eq_true h8, hn2]; rfl
      · rw [h9, h7, leafB, if_neg (show ¬ (3 : Int) = 1 by decide), if_neg (show ¬ (3 : Int) = 2 by decide)]
        simp only [strsB, List.append_assoc, List.append_nil]
def typeOf (k : Int) : List UInt8 := if k = 3 then wSymlink else wRegular
def leafR (k : Int) (d : List UInt8) : List UInt8 := if k = 1 then strsB [wContents, d] else if k = 2 then strsB [wExec, [], wContents, d] else strsB [wTarget, d]
theorem leaf_split (k : Int) (d : List UInt8) (hk : k = 1 ∨ k = 2 ∨ k = 3) : leafB ⟨[], k, d⟩ = strB (typeOf k) ++ leafR k d := by
  rcases hk with rfl | rfl | rfl
  · simp only [leafB, leafR, typeOf, if_pos, strsB]; rfl
  · simp only [leafB, leafR, typeOf, strsB]; rfl
  · simp only [leafB, leafR, typeOf, strsB]; rfl
theorem leaf_complete (k : Int) (d r : List UInt8) (hk : k = 1 ∨ k = 2 ∨ k = 3) (h : okNd ⟨[], k, d⟩ = true) : (if typeOf k = wRegular then fileP (leafR k d ++ r) else linkP (leafR k d ++ r)) = .ok ((k, d), r) := by
  rcases hk with rfl | rfl | rfl
  · have hd : d.length ≤ 65536 := by simpa [okNd] using h
    rw [if_pos (by decide)]
    show fileP (strsB [wContents, d] ++ r) = _
    unfold fileP
    simp only [strsB, List.append_nil, List.append_assoc]
    rw [one_complete _ wContents _ (by decide) (by decide), Rd.then_ok, if_neg (by decide), text_complete _ d r hd (by omega), Rd.then_ok]
  · have hd : d.length ≤ 65536 := by simpa [okNd] using h
    rw [if_pos (by decide)]
    show fileP (strsB [wExec, [], wContents, d] ++ r) = _
    unfold fileP
    have e : strsB [wExec, [], wContents, d] ++ r = strB wExec ++ (strsB [[], wContents] ++ (strB d ++ r)) := by simp only [strsB, List.append_nil, List.append_assoc]
    rw [e, one_complete _ wExec _ (by decide) (by decide), Rd.then_ok, if_pos rfl, must_complete _ _ (by decide), Rd.then_ok, text_complete _ d r hd (by omega), Rd.then_ok]
  · have hd : (d ≠ [] ∧ d.length ≤ 4096) ∧ hasZero d = false := by simpa [okNd] using h
    rw [if_neg (by decide)]
    show linkP (strsB [wTarget, d] ++ r) = _
    unfold linkP
    have e : strsB [wTarget, d] ++ r = strsB [wTarget] ++ (strB d ++ r) := by simp only [strsB, List.append_nil, List.append_assoc]
    rw [e, must_complete _ _ (by decide), Rd.then_ok, text_complete _ d r hd.1.2 (by omega), Rd.then_ok, if_neg (by rintro (h | h); (exact hd.1.1 h); (rw [hd.2] at h; cases h))]
theorem name_sound {last : List UInt8} {deep cnt : Nat} {s t r : List UInt8} (h : nameP last deep cnt s = .ok (t, r)) : mayName t = true ∧ (Op.bytesLess t last || t == last) = false ∧ cnt < 256 ∧ deep < 64 ∧ s = strB t ++ r := by
  obtain ⟨u, q, h1, h2⟩ := Rd.then_is h
  split at h2
  · cases h2
  · rename_i hn
    injection h2 with h2
    injection h2 with h3 h4
    subst h3 h4
    refine ⟨?_, ?_, ?_, ?_, (text_sound h1).1⟩
    · cases hm : mayName u with
      | true => rfl
      | false => exact absurd (.inl hm) hn
    · cases hm : (Op.bytesLess u last || u == last) with
      | false => rfl
      | true => exact absurd (.inr (.inl hm)) hn
    · exact Nat.lt_of_not_le fun h => hn (.inr (.inr (.inl h)))
    · exact Nat.lt_of_not_le fun h => hn (.inr (.inr (.inr h)))
theorem mayName_le {t : List UInt8} (h : mayName t = true) : t.length ≤ 255 := by
  unfold mayName at h
  simp only [Bool.and_eq_true, decide_eq_true_eq] at h
  exact h.2.1
theorem name_complete (last : List UInt8) (deep cnt : Nat) (t r : List UInt8) (h1 : mayName t = true) (h2 : (Op.bytesLess t last || t == last) = false) (h3 : cnt < 256) (h4 : deep < 64) : nameP last deep cnt (strB t ++ r) = .ok (t, r) := by
  have := mayName_le h1
  unfold nameP
  rw [text_complete _ t r this (by omega), Rd.then_ok, if_neg (by rw [h1, h2]; simp; omega)]
mutual
theorem node_sound : ∀ (f : Nat) (p : List UInt8) (d : Nat) (l l' : List Nd) (s r : List UInt8), nodeP f p d l s = .ok (l', r) → l.length < 256 → ∃ t : Tr, t.ok d = true ∧ l' = l ++ t.nodes p ∧ s = t.enc ++ r ∧ l'.length ≤ 256
  | 0, p, d, l, l', s, r, h, _ => by rw [nodeP] at h; cases h
  | f + 1, p, d, l, l', s, r, h, hl => by
    rw [nodeP] at h
    obtain ⟨_, q1, h1, h⟩ := Rd.then_is h
    obtain ⟨t, q2, h2, h⟩ := Rd.then_is h
    have e1 := must_sound h1
    obtain ⟨ht, e2⟩ := one_sound h2
    split at h
    · rename_i e
      subst e
      obtain ⟨es, h3, h4, h5, h6⟩ := dir_sound f p d [] (l ++ [⟨p, 4, []⟩]) l' q2 r h (by rw [List.length_append]; exact hl)
      refine ⟨.dir es, by rw [Tr.ok]; exact h3, by rw [h4, Tr.nodes, List.append_assoc]; rfl, ?_, h6⟩
      rw [e1, e2, h5, Tr.enc]
      simp only [strsB, List.append_assoc, List.append_nil]
    · rename_i e
      obtain ⟨x, q3, h3, h⟩ := Rd.then_is h
      obtain ⟨_, q4, h4, h⟩ := Rd.then_is h
      injection h with h
      injection h with h5 h6
      subst h5 h6
      obtain ⟨h7, h8, h9⟩ := leaf_sound ht e h3
      have h10 := must_sound h4
      refine ⟨.leaf x.1 x.2, by rw [Tr.ok, decide_eq_true h7, h8]; rfl, by rw [Tr.nodes], ?_, by rw [List.length_append]; exact hl⟩
      rw [e1, e2, h9, h10, Tr.enc]
      simp only [strsB, List.append_assoc, List.append_nil]
theorem dir_sound : ∀ (f : Nat) (p : List UInt8) (d : Nat) (last : List UInt8) (l l' : List Nd) (s r : List UInt8), dirP f p d last l s = .ok (l', r) → l.length ≤ 256 → ∃ es : Es, es.ok d last = true ∧ l' = l ++ es.nodes p ∧ s = es.enc ++ (strB wShut ++ r) ∧ l'.length ≤ 256
  | 0, p, d, last, l, l', s, r, h, _ => by rw [dirP] at h; cases h
  | f + 1, p, d, last, l, l', s, r, h, hl => by
    rw [dirP] at h
    obtain ⟨t, q1, h1, h⟩ := Rd.then_is h
    obtain ⟨ht, e1⟩ := one_sound h1
    split at h
    · rename_i e
      subst e
      injection h with h
      injection h with h5 h6
      subst h5 h6
      exact ⟨.nil, by rw [Es.ok], by rw [Es.nodes, List.append_nil], by rw [Es.enc]; exact e1, hl⟩
    · rename_i e
      have ht2 : t = wEntry := by
        rcases List.mem_cons.1 ht with h | h
        · exact h
        · exact absurd (List.mem_singleton.1 h) e
      subst ht2
      obtain ⟨_, q2, h2, h⟩ := Rd.then_is h
      obtain ⟨nm, q3, h3, h⟩ := Rd.then_is h
      obtain ⟨_, q4, h4, h⟩ := Rd.then_is h
      obtain ⟨l2, q5, h5, h⟩ := Rd.then_is h
      obtain ⟨_, q6, h6, h⟩ := Rd.then_is h
      obtain ⟨n1, n2, n3, n4, n5⟩ := name_sound h3
      have e2 := must_sound h2
      have e4 := must_sound h4
      have e6 := must_sound h6
      obtain ⟨t, a1, a2, a3, a4⟩ := node_sound f (headOf p ++ nm) (d + 1) l l2 q4 q5 h5 n3
      obtain ⟨es, b1, b2, b3, b4⟩ := dir_sound f p d nm l2 l' q6 r h a4
      refine ⟨.cons nm t es, ?_, ?_, ?_, b4⟩
      · rw [Es.ok, n1, n2, decide_eq_true n4, a1, b1]; rfl
      · rw [b2, a2, Es.nodes, List.append_assoc]
      · rw [e1, e2, n5, e4, a3, e6, b3, Es.enc, entryB]
        simp only [strsB, List.append_assoc, List.append_nil]
end
mutual
theorem node_complete : ∀ (t : Tr) (f : Nat) (p : List UInt8) (d : Nat) (l : List Nd) (r : List UInt8), t.ok d = true → l.length + t.size ≤ 256 → 2 * t.size ≤ f → nodeP f p d l (t.enc ++ r) = .ok (l ++ t.nodes p, r)
  | .leaf k x, f, p, d, l, r, h, hl, hf => by
    rw [Tr.size] at hf hl
    obtain ⟨f, rfl⟩ : ∃ g, f = g + 1 := ⟨f - 1, by omega⟩
    rw [Tr.ok] at h
    simp only [Bool.and_eq_true, decide_eq_true_eq] at h
    rw [nodeP, Tr.enc, leaf_split k x h.1, List.append_assoc, List.append_assoc, List.append_assoc, must_complete _ _ (by decide), Rd.then_ok,
      one_complete _ (typeOf k) _ (by unfold typeOf; split <;> decide) (by unfold typeOf; split <;> decide), Rd.then_ok, if_neg (by unfold typeOf; split <;> decide), leaf_complete k x _ h.1 h.2, Rd.then_ok, must_complete _ _ (by decide), Rd.then_ok, Tr.nodes]
  | .dir es, f, p, d, l, r, h, hl, hf => by
    rw [Tr.size] at hf hl
    obtain ⟨f, rfl⟩ : ∃ g, f = g + 1 := ⟨f - 1, by omega⟩
    rw [Tr.ok] at h
    have e : (Tr.dir es).enc ++ r = strsB [wOpen, wType] ++ (strB wDir ++ (es.enc ++ (strB wShut ++ r))) := by rw [Tr.enc]; simp only [strsB, List.append_assoc, List.append_nil]
    rw [nodeP, e, must_complete _ _ (by decide), Rd.then_ok, one_complete _ wDir _ (by decide) (by decide), Rd.then_ok, if_pos rfl,
      dir_complete es f p d [] (l ++ [(⟨p, 4, []⟩ : Nd)]) r h (by rw [List.length_append, List.length_singleton]; omega) (by omega), Tr.nodes, List.append_assoc]
    rfl
theorem dir_complete : ∀ (es : Es) (f : Nat) (p : List UInt8) (d : Nat) (last : List UInt8) (l : List Nd) (r : List UInt8), es.ok d last = true → l.length + es.size ≤ 256 → 2 * es.size + 1 ≤ f → dirP f p d last l (es.enc ++ (strB wShut ++ r)) = .ok (l ++ es.nodes p, r)
  | .nil, f, p, d, last, l, r, h, hl, hf => by
    obtain ⟨f, rfl⟩ : ∃ g, f = g + 1 := ⟨f - 1, by omega⟩
    rw [dirP, Es.enc, List.nil_append, one_complete _ wShut _ (by decide) (by decide), Rd.then_ok, if_pos rfl, Es.nodes, List.append_nil]
  | .cons nm t es, f, p, d, last, l, r, h, hl, hf => by
    rw [Es.size] at hf hl
    have hp := Tr.size_pos t
    obtain ⟨f, rfl⟩ : ∃ g, f = g + 1 := ⟨f - 1, by omega⟩
    rw [Es.ok] at h
    simp only [Bool.and_eq_true, Bool.not_eq_true', decide_eq_true_eq] at h
    obtain ⟨h1, h2, h3, h4, h5⟩ := h
    have e : (Es.cons nm t es).enc ++ (strB wShut ++ r) = strB wEntry ++ (strsB [wOpen, wName] ++ (strB nm ++ (strsB [wNode] ++ (t.enc ++ (strsB [wShut] ++ (es.enc ++ (strB wShut ++ r))))))) := by
      rw [Es.enc, entryB]; simp only [strsB, List.append_assoc, List.append_nil]
    rw [dirP, e, one_complete _ wEntry _ (by decide) (by decide), Rd.then_ok, if_neg (by decide), must_complete _ _ (by decide), Rd.then_ok, name_complete last d l.length nm _ h1 h2 (by omega) h3, Rd.then_ok,
      must_complete _ _ (by decide), Rd.then_ok, node_complete t f _ (d + 1) l _ h4 (by omega) (by omega), Rd.then_ok, must_complete _ _ (by decide), Rd.then_ok,
      dir_complete es f p d nm _ r h5 (by rw [List.length_append, Tr.nodes_length]; omega) (by omega), Es.nodes, List.append_assoc]
end
theorem one_less {l : List (List UInt8)} {s t r : List UInt8} (h : oneP l s = .ok (t, r)) : r.length + 8 ≤ s.length := by
  have := (one_sound h).2
  rw [this, List.length_append, strB_length]; omega
theorem must_less : ∀ {l : List (List UInt8)} {s r : List UInt8} {u : Unit}, mustP l s = .ok (u, r) → r.length ≤ s.length := by
  intro l s r u h
  have := must_sound h
  rw [this, List.length_append]; omega
theorem must_less1 {t : List UInt8} {l : List (List UInt8)} {s r : List UInt8} {u : Unit} (h : mustP (t :: l) s = .ok (u, r)) : r.length + 8 ≤ s.length := by
  have := must_sound h
  rw [this, strsB, List.length_append, List.length_append, strB_length]; omega
theorem name_less {last : List UInt8} {deep cnt : Nat} {s t r : List UInt8} (h : nameP last deep cnt s = .ok (t, r)) : r.length + 8 ≤ s.length := by
  have := (name_sound h).2.2.2.2
  rw [this, List.length_append, strB_length]; omega
theorem node_less {f : Nat} {p : List UInt8} {d : Nat} {l l' : List Nd} {s r : List UInt8} (hl : l.length < 256) (h : nodeP f p d l s = .ok (l', r)) : r.length ≤ s.length := by
  obtain ⟨t, _, _, e, _⟩ := node_sound f p d l l' s r h hl
  rw [e, List.length_append]; omega
theorem then_congr {α β : Type} {x : Rd α} {F G : α → List UInt8 → Rd β} (h : ∀ a r, x = .ok (a, r) → F a r = G a r) : x.then F = x.then G := by
  cases x with
  | error e => rfl
  | ok y => exact h y.1 y.2 rfl
mutual
theorem node_rounds : ∀ (f g : Nat) (p : List UInt8) (d : Nat) (l : List Nd) (s : List UInt8), s.length < f → s.length < g → l.length < 256 → nodeP f p d l s = nodeP g p d l s
  | 0, g, p, d, l, s, hf, hg, hl => by omega
  | f + 1, 0, p, d, l, s, hf, hg, hl => by omega
  | f + 1, g + 1, p, d, l, s, hf, hg, hl => by
    rw [nodeP, nodeP]
    refine then_congr fun _ r h1 => then_congr fun t r2 h2 => ?_
    have := must_less1 h1
    have := one_less h2
    split
    · exact dir_rounds f g p d [] _ r2 (by omega) (by omega) (by rw [List.length_append]; exact hl)
    · rfl
theorem dir_rounds : ∀ (f g : Nat) (p : List UInt8) (d : Nat) (last : List UInt8) (l : List Nd) (s : List UInt8), s.length < f → s.length < g → l.length ≤ 256 → dirP f p d last l s = dirP g p d last l s
  | 0, g, p, d, last, l, s, hf, hg, hl => by omega
  | f + 1, 0, p, d, last, l, s, hf, hg, hl => by omega
  | f + 1, g + 1, p, d, last, l, s, hf, hg, hl => by
    rw [dirP, dirP]
    refine then_congr fun t r h1 => ?_
    have := one_less h1
    split
    · rfl
    · refine then_congr fun _ r2 h2 => then_congr fun nm r3 h3 => then_congr fun _ r4 h4 => ?_
      have := must_less h2
      have := name_less h3
      have := must_less h4
      obtain ⟨_, _, hc, _, _⟩ := name_sound h3
      rw [node_rounds f g _ _ l r4 (by omega) (by omega) hc]
      refine then_congr fun l2 r5 h5 => then_congr fun _ r6 h6 => ?_
      have := node_less hc h5
      have := must_less h6
      obtain ⟨_, _, _, _, h7⟩ := node_sound g _ _ l l2 r4 r5 h5 hc
      exact dir_rounds f g p d nm l2 r6 (by omega) (by omega) h7
end
def notZero {α : Type} (x : Rd α) : Prop := x ≠ .error 0
theorem nz_then {α β : Type} {x : Rd α} {F : α → List UInt8 → Rd β} (h : notZero x) (h2 : ∀ a r, x = .ok (a, r) → notZero (F a r)) : notZero (x.then F) := by
  cases x with
  | error e => intro e2; exact h (by rw [Rd.then_error] at e2; injection e2 with e2; rw [e2])
  | ok y => exact h2 y.1 y.2 rfl
theorem nz_ok {α : Type} (y : α × List UInt8) : notZero (.ok y : Rd α) := fun h => by cases h
theorem nz_4 {α : Type} : notZero (.error 4 : Rd α) := fun h => by injection h with h; exact absurd h (by decide)
theorem nz_5 {α : Type} : notZero (.error 5 : Rd α) := fun h => by injection h with h; exact absurd h (by decide)
theorem nz_text (most : Nat) (s : List UInt8) : notZero (textP most s) := by
  unfold textP
  split
  · exact nz_5
  · split
    · exact nz_4
    · split
      · exact nz_5
      · split
        · exact nz_ok _
        · exact nz_4
theorem nz_one (l : List (List UInt8)) (s : List UInt8) : notZero (oneP l s) := nz_then (nz_text _ _) fun t r _ => by
  split
  · exact nz_ok _
  · exact nz_4
theorem nz_must : ∀ (l : List (List UInt8)) (s : List UInt8), notZero (mustP l s)
  | [], s => nz_ok _
  | t :: l, s => nz_then (nz_one _ _) fun _ r _ => nz_must l r
theorem nz_file (s : List UInt8) : notZero (fileP s) := nz_then (nz_one _ _) fun t r _ => by
  split
  · exact nz_then (nz_must _ _) fun _ r _ => nz_then (nz_text _ _) fun d r _ => nz_ok _
  · exact nz_then (nz_text _ _) fun d r _ => nz_ok _
theorem nz_link (s : List UInt8) : notZero (linkP s) := nz_then (nz_must _ _) fun t r _ => nz_then (nz_text _ _) fun d r _ => by
  split
  · exact nz_4
  · exact nz_ok _
theorem nz_name (last : List UInt8) (deep cnt : Nat) (s : List UInt8) : notZero (nameP last deep cnt s) := nz_then (nz_text _ _) fun t r _ => by
  split
  · exact nz_4
  · exact nz_ok _
mutual
theorem nz_node : ∀ (f : Nat) (p : List UInt8) (d : Nat) (l : List Nd) (s : List UInt8), s.length < f → l.length < 256 → notZero (nodeP f p d l s)
  | 0, p, d, l, s, hf, hl => by omega
  | f + 1, p, d, l, s, hf, hl => by
    rw [nodeP]
    refine nz_then (nz_must _ _) fun _ r h1 => nz_then (nz_one _ _) fun t r2 h2 => ?_
    have := must_less1 h1
    have := one_less h2
    split
    · exact nz_dir f p d [] _ r2 (by omega) (by rw [List.length_append]; exact hl)
    · refine nz_then ?_ fun x r _ => nz_then (nz_must _ _) fun _ r _ => nz_ok _
      split
      · exact nz_file _
      · exact nz_link _
theorem nz_dir : ∀ (f : Nat) (p : List UInt8) (d : Nat) (last : List UInt8) (l : List Nd) (s : List UInt8), s.length < f → l.length ≤ 256 → notZero (dirP f p d last l s)
  | 0, p, d, last, l, s, hf, hl => by omega
  | f + 1, p, d, last, l, s, hf, hl => by
    rw [dirP]
    refine nz_then (nz_one _ _) fun t r h1 => ?_
    have := one_less h1
    split
    · exact nz_ok _
    · refine nz_then (nz_must _ _) fun _ r2 h2 => nz_then (nz_name _ _ _ _) fun nm r3 h3 => nz_then (nz_must _ _) fun _ r4 h4 => ?_
      have := must_less h2
      have := name_less h3
      have := must_less h4
      obtain ⟨_, _, hc, _, _⟩ := name_sound h3
      refine nz_then (nz_node f _ _ l r4 (by omega) hc) fun l2 r5 h5 => nz_then (nz_must _ _) fun _ r6 h6 => ?_
      have := node_less hc h5
      have := must_less h6
      obtain ⟨_, _, _, _, h7⟩ := node_sound f _ _ l l2 r4 r5 h5 hc
      exact nz_dir f p d nm l2 r6 (by omega) h7
end
def getR (f : Nat) (s : List UInt8) : Rd (List Nd) := (mustP [wMark] s).then fun _ r => nodeP f [] 0 [] r
theorem getR_rounds (f g : Nat) (s : List UInt8) (hf : s.length < f) (hg : s.length < g) : getR f s = getR g s := by
  unfold getR
  refine then_congr fun _ r h => ?_
  have := must_less h
  exact node_rounds f g _ _ _ r (by omega) (by omega) (by decide)
theorem getP_R (s : List UInt8) (f : Nat) (hf : s.length < f) : getP s = match getR f s with | .error e => .error e | .ok (l, r) => if r = [] then .ok l else .error 4 := by
  rw [getR_rounds f (s.length + 1) s hf (by omega)]
  rfl
mutual
theorem Tr.enc_long : ∀ t : Tr, 16 * t.size ≤ t.enc.length
  | .leaf k x => by
    rw [Tr.enc, Tr.size]
    have h : (strsB [wOpen, wType]).length = 32 := by decide
    rw [List.length_append, List.length_append, h]; omega
  | .dir es => by
    have h2 := Es.enc_long es
    rw [Tr.enc, Tr.size]
    have h : (strsB [wOpen, wType]).length = 32 := by decide
    simp only [List.length_append, h]; omega
theorem Es.enc_long : ∀ es : Es, 16 * es.size ≤ es.enc.length
  | .nil => by rw [Es.size]; omega
  | .cons nm t es => by
    have h1 := Tr.enc_long t
    have h2 := Es.enc_long es
    rw [Es.enc, Es.size, entryB]
    simp only [List.length_append]; omega
end
theorem get_complete (t : Tr) (h : t.ok 0 = true) (hs : t.size ≤ 256) : getP (strB wMark ++ t.enc) = .ok (t.nodes []) := by
  have hl := Tr.enc_long t
  rw [getP_R _ ((strB wMark ++ t.enc).length + 1) (by omega)]
  have e : strB wMark ++ t.enc = strsB [wMark] ++ (t.enc ++ []) := by simp only [strsB, List.append_nil]
  have hr : getR ((strB wMark ++ t.enc).length + 1) (strB wMark ++ t.enc) = .ok (t.nodes [], []) := by
    unfold getR
    conv => lhs; arg 1; rw [e]
    rw [must_complete _ _ (by decide), Rd.then_ok, node_complete t _ [] 0 [] [] h (by rw [List.length_nil]; omega) (by rw [List.length_append]; omega), List.nil_append]
  rw [hr]
  exact if_pos rfl
def refName (path dir : List UInt8) : List UInt8 :=
  if Lib.hasPrefix path (headOf dir) then (if (path.drop (headOf dir).length).contains 47 then [] else path.drop (headOf dir).length) else []
theorem refName_in (p nm : List UInt8) (h : 47 ∉ nm) : refName (headOf p ++ nm) p = nm := by
  unfold refName
  rw [if_pos ((hasPrefix_iff _ _).2 ⟨nm, rfl⟩)]
  have : (headOf p ++ nm).drop (headOf p).length = nm := by simp
  rw [this, if_neg (by simpa using h)]
theorem refName_is {path p nm : List UInt8} (h : refName path p = nm) (hne : nm ≠ []) : path = headOf p ++ nm ∧ 47 ∉ nm := by
  unfold refName at h
  split at h
  · rename_i hp
    split at h
    · exact absurd h.symm hne
    · rename_i hc
      obtain ⟨t, ht⟩ := (hasPrefix_iff _ _).1 hp
      have : path.drop (headOf p).length = t := by rw [ht]; simp
      rw [this] at h hc
      rw [← h]
      exact ⟨ht, by simpa using hc⟩
  · exact absurd h.symm hne
theorem refName_stop {path p : List UInt8} (h : Lib.hasPrefix path (headOf p) = false) : refName path p = [] := by
  unfold refName; rw [if_neg (by rw [h]; decide)]
def takeDir : Nat → List UInt8 → List UInt8 → List Nd → List Nd
  | 0, _, _, l => l
  | _ + 1, _, _, [] => []
  | f + 1, p, last, n :: l =>
    if refName n.path p = [] ∨ (Op.bytesLess (refName n.path p) last || refName n.path p == last) = true then n :: l
    else takeDir f p (refName n.path p) (if n.kind = 4 then takeDir f n.path [] l else l)
theorem takeDir_stop (f : Nat) (p last : List UInt8) (rest : List Nd) (h : StopsAt (headOf p) rest) : takeDir f p last rest = rest := by
  cases f with
  | zero => rfl
  | succ f =>
    cases rest with
    | nil => rfl
    | cons n l => unfold takeDir; rw [if_pos (.inl (refName_stop (h n l rfl)))]
mutual
theorem Tr.take_in : ∀ (t : Tr) (d : Nat) (p last nm : List UInt8) (rest : List Nd) (f : Nat), t.ok (d + 1) = true → mayName nm = true → (Op.bytesLess nm last || nm == last) = false → StopsAt (headOf (headOf p ++ nm)) rest → t.size ≤ f →
    takeDir (f + 1) p last (t.nodes (headOf p ++ nm) ++ rest) = takeDir f p nm rest
  | .leaf k x, d, p, last, nm, rest, f, h, hnm, hlt, hs, hf => by
    rw [Tr.ok] at h
    simp only [Bool.and_eq_true, decide_eq_true_eq] at h
    have e := refName_in p nm (mayName_ne hnm).2
    rw [Tr.nodes, List.cons_append, List.nil_append, takeDir]
    simp only [e]
    rw [if_neg (by rw [hlt]; simp [(mayName_ne hnm).1]), if_neg (by omega)]
  | .dir es, d, p, last, nm, rest, f, h, hnm, hlt, hs, hf => by
    rw [Tr.ok] at h
    rw [Tr.size] at hf
    have e := refName_in p nm (mayName_ne hnm).2
    rw [Tr.nodes, List.cons_append, takeDir]
    simp only [e]
    rw [if_neg (by rw [hlt]; simp [(mayName_ne hnm).1]), if_pos trivial, Es.take_in es (d + 1) (headOf p ++ nm) [] rest f h hs (by omega)]
theorem Es.take_in : ∀ (es : Es) (d : Nat) (p last : List UInt8) (rest : List Nd) (f : Nat), es.ok d last = true → StopsAt (headOf p) rest → es.size + 1 ≤ f → takeDir f p last (es.nodes p ++ rest) = rest
  | .nil, d, p, last, rest, f, h, hs, hf => by rw [Es.nodes]; exact takeDir_stop f p last rest hs
  | .cons nm t es, d, p, last, rest, f, h, hs, hf => by
    have h' := h
    rw [Es.ok] at h
    simp only [Bool.and_eq_true, Bool.not_eq_true', decide_eq_true_eq] at h
    obtain ⟨h1, h2, h3, h4, h5⟩ := h
    rw [Es.size] at hf
    have hp := Tr.size_pos t
    obtain ⟨f, rfl⟩ : ∃ g, f = g + 1 := ⟨f - 1, by omega⟩
    rw [Es.nodes, List.append_assoc, Tr.take_in t d p last nm (es.nodes p ++ rest) f h4 h1 h2 (Es.stops d nm p _ es rest nm rfl (mayName_ne h1).1 h5 hs) (by omega)]
    exact Es.take_in es d p nm rest f h5 hs (by omega)
end
def slashes (p : List UInt8) : Nat := p.count 47
def refNode (n : Nd) : Bool := okNd n && (decide (slashes n.path < 64) && mayName (match cutSlash n.path with | none => n.path | some (_, nm) => nm))
theorem cut_in (p nm : List UInt8) (h : 47 ∉ nm) : (match cutSlash (headOf p ++ nm) with | none => headOf p ++ nm | some (_, x) => x) = nm := by
  by_cases hp : p = []
  · subst hp
    rw [show headOf [] ++ nm = nm from rfl, cutSlash_none nm h]
  · have e : headOf p ++ nm = p ++ 47 :: nm := by rw [headOf_ne hp]; simp
    rw [e, cutSlash_some p nm h]
theorem takeDir_tree : ∀ (f : Nat) (l : List Nd) (p last : List UInt8) (d : Nat), l.length < f → slashes (headOf p) = d → (∀ n ∈ l, refNode n = true) →
    ∃ es, l = Es.nodes p es ++ takeDir f p last l ∧ Es.ok d last es = true
  | 0, l, p, last, d, h, _, _ => by omega
  | f + 1, [], p, last, d, _, _, _ => ⟨.nil, by rw [Es.nodes]; rfl, by rw [Es.ok]⟩
  | f + 1, n :: l, p, last, d, hf, hd, hok => by
    unfold takeDir
    split
    · exact ⟨.nil, by rw [Es.nodes]; rfl, by rw [Es.ok]⟩
    · rename_i hc
      simp only [not_or, Bool.not_eq_true] at hc
      obtain ⟨hc1, hc2⟩ := hc
      obtain ⟨hp, h47⟩ := refName_is rfl hc1
      obtain ⟨nm, hnm⟩ : ∃ nm, nm = refName n.path p := ⟨_, rfl⟩
      rw [← hnm] at hp h47 hc1 hc2 ⊢
      have hn := hok n List.mem_cons_self
      unfold refNode at hn
      simp only [Bool.and_eq_true, decide_eq_true_eq] at hn
      obtain ⟨hk, hs, hm⟩ := hn
      rw [hp, cut_in p nm h47] at hm
      have hsl : slashes n.path = d := by
        rw [hp]; unfold slashes at hd ⊢
        rw [List.count_append, hd, List.count_eq_zero_of_not_mem h47]; rfl
      have hok' := fun x hx => hok x (List.mem_cons_of_mem _ hx)
      rw [List.length_cons] at hf
      rcases okNd_kind hk with hk3 | ⟨hk4, hdt⟩
      · rw [if_neg (by omega)]
        obtain ⟨es, e1, e2⟩ := takeDir_tree f l p nm d (by omega) hd hok'
        refine ⟨.cons nm (.leaf n.kind n.data) es, ?_, ?_⟩
        · rw [Es.nodes, Tr.nodes, ← hp]
          conv => lhs; rw [e1]
          rfl
        · rw [Es.ok, hm, hc2, decide_eq_true (by omega), Tr.ok, decide_eq_true hk3, e2, okNd_path, hk]; rfl
      · rw [if_pos hk4]
        have hsl2 : slashes (headOf n.path) = d + 1 := by
          rw [headOf_ne (by rw [hp]; intro e; exact hc1 (List.append_eq_nil_iff.1 e).2)]
          unfold slashes at hsl ⊢
          rw [List.count_append, hsl]; rfl
        obtain ⟨es1, e1, e2⟩ := takeDir_tree f l n.path [] (d + 1) (by omega) hsl2 hok'
        have hlen : (takeDir f n.path [] l).length ≤ l.length := by
          conv => rhs; rw [e1]
          rw [List.length_append]; omega
        obtain ⟨es2, f1, f2⟩ := takeDir_tree f (takeDir f n.path [] l) p nm d (by omega) hd (fun x hx => hok' x (by rw [e1]; exact List.mem_append_right _ hx))
        refine ⟨.cons nm (.dir es1) es2, ?_, ?_⟩
        · rw [Es.nodes, Tr.nodes, ← hp]
          have : n = ⟨n.path, 4, []⟩ := by rw [← hk4, ← hdt]
          conv => lhs; rw [this, e1, f1]
          simp [List.append_assoc]
        · rw [Es.ok, hm, hc2, decide_eq_true (by omega), Tr.ok, f2, e2]; rfl
def refMay (l : List Nd) : Bool :=
  match l with
  | [] => false
  | n :: r => decide ((n :: r).length ≤ 256) && (n.path == [] && (okNd n && (r.all refNode && (if n.kind = 4 then (takeDir (r.length + 1) [] [] r).isEmpty else r.isEmpty))))
theorem refMay_cons (n : Nd) (r : List Nd) : refMay (n :: r) = (decide ((n :: r).length ≤ 256) && (n.path == [] && (okNd n && (r.all refNode && (if n.kind = 4 then (takeDir (r.length + 1) [] [] r).isEmpty else r.isEmpty))))) := rfl
theorem refNode_in (p nm : List UInt8) (k : Int) (x : List UInt8) (hnm : mayName nm = true) (hd : slashes (headOf p) < 64) (hk : okNd ⟨[], k, x⟩ = true) : refNode ⟨headOf p ++ nm, k, x⟩ = true := by
  have h47 := (mayName_ne hnm).2
  unfold refNode
  have hs : slashes (headOf p ++ nm) < 64 := by
    unfold slashes at hd ⊢
    rw [List.count_append, List.count_eq_zero_of_not_mem h47]; exact hd
  simp only
  rw [cut_in p nm h47, hnm, decide_eq_true hs]
  have : okNd ⟨headOf p ++ nm, k, x⟩ = okNd ⟨[], k, x⟩ := rfl
  rw [this, hk]; rfl
mutual
theorem Tr.ref_nodes : ∀ (t : Tr) (d : Nat) (p nm : List UInt8), t.ok (d + 1) = true → mayName nm = true → slashes (headOf p) = d → d < 64 → ∀ n ∈ t.nodes (headOf p ++ nm), refNode n = true
  | .leaf k x, d, p, nm, h, hnm, hd, h64 => by
    rw [Tr.nodes]
    rw [Tr.ok] at h
    simp only [Bool.and_eq_true] at h
    intro n hn
    rw [List.mem_singleton.1 hn]
    exact refNode_in p nm k x hnm (by omega) h.2
  | .dir es, d, p, nm, h, hnm, hd, h64 => by
    rw [Tr.nodes]
    rw [Tr.ok] at h
    intro n hn
    rcases List.mem_cons.1 hn with rfl | hn
    · exact refNode_in p nm 4 [] hnm (by omega) (okNd_dir [])
    · refine Es.ref_nodes es (d + 1) [] (headOf p ++ nm) h ?_ n hn
      obtain ⟨hne, h47⟩ := mayName_ne hnm
      rw [headOf_ne (by intro e; exact hne (List.append_eq_nil_iff.1 e).2)]
      unfold slashes at hd ⊢
      rw [List.count_append, List.count_append, hd, List.count_eq_zero_of_not_mem h47]; rfl
theorem Es.ref_nodes : ∀ (es : Es) (d : Nat) (last p : List UInt8), es.ok d last = true → slashes (headOf p) = d → ∀ n ∈ es.nodes p, refNode n = true
  | .nil, d, last, p, h, hd => by rw [Es.nodes]; intro n hn; simp at hn
  | .cons nm t es, d, last, p, h, hd => by
    rw [Es.ok] at h
    simp only [Bool.and_eq_true, decide_eq_true_eq] at h
    rw [Es.nodes]
    intro n hn
    rcases List.mem_append.1 hn with hn | hn
    · exact Tr.ref_nodes t d p nm h.2.2.2.1 h.1 hd h.2.2.1 n hn
    · exact Es.ref_nodes es d nm p h.2.2.2.2 hd n hn
end
theorem refMay_is (l : List Nd) : refMay l = May l := by
  rw [Bool.eq_iff_iff]
  constructor
  · intro h
    cases l with
    | nil => cases h
    | cons n r =>
      rw [refMay_cons] at h
      simp only [Bool.and_eq_true, decide_eq_true_eq] at h
      obtain ⟨h1, h2, h3, h4, h5⟩ := h
      have hp : n.path = [] := by simpa using h2
      have hall : ∀ x ∈ r, refNode x = true := fun x hx => List.all_eq_true.1 h4 x hx
      rcases okNd_kind h3 with hk | ⟨hk, hd⟩
      · rw [if_neg (by omega)] at h5
        obtain rfl : r = [] := by simpa using h5
        have := tree_may (.leaf n.kind n.data) (by rw [Tr.ok, decide_eq_true hk, okNd_path, h3]; rfl) (by rw [Tr.size]; decide)
        rw [Tr.nodes, ← hp] at this
        exact this
      · rw [if_pos hk] at h5
        obtain ⟨es, e1, e2⟩ := takeDir_tree (r.length + 1) r [] [] 0 (by omega) rfl hall
        have h6 : takeDir (r.length + 1) [] [] r = [] := by simpa using h5
        rw [h6, List.append_nil] at e1
        have hsz : (Tr.dir es).size ≤ 256 := by
          rw [← Tr.nodes_length [] (.dir es), Tr.nodes, List.length_cons, ← e1]
          rw [List.length_cons] at h1; exact h1
        have := tree_may (.dir es) (by rw [Tr.ok]; exact e2) hsz
        rw [Tr.nodes, ← e1] at this
        have hn : n = ⟨[], 4, []⟩ := by
          cases n
          simp only at hp hk hd
          rw [hp, hk, hd]
        rw [hn]; exact this
  · intro h
    obtain ⟨t, ht, hl⟩ := may_tree l h
    have h256 := (show l.length ≤ 256 from by
      cases l with
      | nil => simp
      | cons n r => rw [May_cons] at h; simp only [Bool.and_eq_true, decide_eq_true_eq] at h; exact h.1)
    subst hl
    cases t with
    | leaf k x =>
      rw [Tr.nodes]
      rw [Tr.ok] at ht
      simp only [Bool.and_eq_true, decide_eq_true_eq] at ht
      rw [refMay_cons, if_neg (by show ¬ k = 4; omega), ht.2]
      simp
    | dir es =>
      rw [Tr.nodes] at h256 ⊢
      rw [Tr.ok] at ht
      have hr := Es.ref_nodes es 0 [] [] ht rfl
      have htk := Es.take_in es 0 [] [] [] ((es.nodes []).length + 1) ht (fun n l e => by cases e) (by rw [Es.nodes_length]; exact Nat.le_refl _)
      rw [List.append_nil] at htk
      rw [refMay_cons, if_pos rfl, htk, okNd_dir, List.all_eq_true.2 hr, decide_eq_true h256]
      rfl
def names6 : List (List UInt8) := [[97], [98, 46, 99], [98, 105, 110], [108, 105, 98], [120, 32, 121], [122]]
def name6 (k : Nat) : List UInt8 := names6.getD k []
def textAt (texts : List (List UInt8)) (i : Nat) : List UInt8 := if texts.length = 0 then [] else texts.getD (i % texts.length) []
def dir2E (texts : List (List UInt8)) : List UInt8 → Nat → Nat → Es
  | [], _, _ => .nil
  | n :: ns, k, cnt => if k < 6 ∧ cnt < 16 then .cons (name6 k) (.leaf 1 (textAt texts n.toNat)) (dir2E texts ns (k + 1) (cnt + 1)) else .nil
def dataOf (texts : List (List UInt8)) (kind : Nat) (a b c : UInt8) : List UInt8 :=
  if kind = 1 ∨ kind = 2 then textAt texts c.toNat ++ [a, b] else if kind = 3 then [116, 111, 47] ++ textAt names6 c.toNat else []
def dirE (texts : List (List UInt8)) : Nat → List UInt8 → Nat → Nat → Nat → Es
  | 0, _, _, _, _ => .nil
  | f + 1, ns, k, deep, cnt =>
    match ns with
    | a :: b :: c :: rest =>
      if k < 6 ∧ cnt < 14 then
        if 6 ≤ k + a.toNat % 3 then .nil
        else if b.toNat % 4 = 3 then
          if deep < 3 then
            .cons (name6 (k + a.toNat % 3)) (.dir (dirE texts f (rest.take (rest.length / 2)) 0 (deep + 1) (cnt + 1)))
              (dir2E texts (rest.drop (rest.length / 2)) (k + a.toNat % 3 + 1) (cnt + 1 + (dirE texts f (rest.take (rest.length / 2)) 0 (deep + 1) (cnt + 1)).size))
          else .cons (name6 (k + a.toNat % 3)) (.dir .nil) (dirE texts f rest (k + a.toNat % 3 + 1) deep (cnt + 1))
        else .cons (name6 (k + a.toNat % 3)) (.leaf (1 + (b.toNat % 4 : Nat)) (dataOf texts (1 + b.toNat % 4) a b c)) (dirE texts f rest (k + a.toNat % 3 + 1) deep (cnt + 1))
      else .nil
    | _ => .nil
def lastOf (k : Nat) : List UInt8 := match k with | 0 => [] | k + 1 => name6 k
def treeOf (ns : List UInt8) (texts : List (List UInt8)) : Tr :=
  match ns with
  | [] => .leaf 1 (textAt texts 0)
  | a :: r =>
    if a.toNat % 5 = 4 ∨ 3 < (a :: r).length ∨ a.toNat % 5 = 3 then .dir (dirE texts (a :: r).length (a :: r) 0 0 1)
    else if a.toNat % 5 = 2 then .leaf 3 [116, 111] else .leaf (1 + (a.toNat % 5 : Nat)) (116 :: textAt texts 0)
mutual
theorem Tr.path_le : ∀ (t : Tr) (d : Nat) (p : List UInt8), t.ok d = true → d ≤ 64 → ∀ n ∈ t.nodes p, n.path.length ≤ p.length + (64 - d) * 256
  | .leaf k x, d, p, h, hd, n, hn => by
    rw [Tr.nodes] at hn
    rw [List.mem_singleton.1 hn]
    show p.length ≤ _
    omega
  | .dir es, d, p, h, hd, n, hn => by
    rw [Tr.nodes] at hn
    rw [Tr.ok] at h
    rcases List.mem_cons.1 hn with rfl | hn
    · show p.length ≤ _
      omega
    · exact Es.path_le es d [] p h hd n hn
theorem Es.path_le : ∀ (es : Es) (d : Nat) (last p : List UInt8), es.ok d last = true → d ≤ 64 → ∀ n ∈ es.nodes p, n.path.length ≤ p.length + (64 - d) * 256
  | .nil, d, last, p, h, hd, n, hn => by rw [Es.nodes] at hn; simp at hn
  | .cons nm t es, d, last, p, h, hd, n, hn => by
    rw [Es.nodes] at hn
    rw [Es.ok] at h
    simp only [Bool.and_eq_true, decide_eq_true_eq] at h
    obtain ⟨h1, _, h3, h4, h5⟩ := h
    rcases List.mem_append.1 hn with hn | hn
    · have h6 := Tr.path_le t (d + 1) (headOf p ++ nm) h4 (by omega) n hn
      have h7 : nm.length ≤ 255 := by
        unfold mayName at h1
        simp only [Bool.and_eq_true, decide_eq_true_eq] at h1
        exact h1.2.1
      have h8 : (headOf p).length ≤ p.length + 1 := by
        unfold headOf
        split
        · simp
        · rw [List.length_append]; exact Nat.le_refl _
      rw [List.length_append] at h6
      have h9 : (64 - d) * 256 = (64 - (d + 1)) * 256 + 256 := by omega
      omega
    · exact Es.path_le es d nm p h5 hd n hn
end
theorem strsB_mod : ∀ l : List (List UInt8), (strsB l).length % 8 = 0
  | [] => rfl
  | s :: l => by
    have h1 := strB_mod s
    have h2 := strsB_mod l
    rw [strsB, List.length_append]; omega
theorem leafB_mod (n : Nd) : (leafB n).length % 8 = 0 := by
  unfold leafB
  split
  · exact strsB_mod _
  · split
    · exact strsB_mod _
    · exact strsB_mod _
mutual
theorem Tr.enc_mod : ∀ t : Tr, t.enc.length % 8 = 0
  | .leaf k x => by
    have h1 := strsB_mod [wOpen, wType]
    have h2 := leafB_mod ⟨[], k, x⟩
    have h3 := strsB_mod [wShut]
    rw [Tr.enc]
    simp only [List.length_append]; omega
  | .dir es => by
    have h1 := strsB_mod [wOpen, wType]
    have h2 := Es.enc_mod es
    have h3 := strsB_mod [wShut]
    have h4 := strsB_mod [wDir]
    rw [Tr.enc]
    simp only [List.length_append]; omega
theorem Es.enc_mod : ∀ es : Es, es.enc.length % 8 = 0
  | .nil => rfl
  | .cons nm t es => by
    have h1 := strsB_mod [wEntry, wOpen, wName, nm, wNode]
    have h2 := Tr.enc_mod t
    have h3 := strsB_mod [wShut]
    have h4 := Es.enc_mod es
    rw [Es.enc, entryB]
    simp only [List.length_append]; omega
end
theorem strsB_le (M : Nat) : ∀ (l : List (List UInt8)), (∀ s ∈ l, s.length ≤ M) → (strsB l).length ≤ l.length * (M + 15)
  | [], _ => by simp [strsB]
  | s :: l, h => by
    have h1 := strB_le s
    have h2 := h s List.mem_cons_self
    have h3 := strsB_le M l (fun z hz => h z (List.mem_cons_of_mem _ hz))
    rw [strsB, List.length_append, List.length_cons, Nat.succ_mul]
    omega
theorem leafB_le (n : Nd) (M : Nat) (hM : 10 ≤ M) (h : n.data.length ≤ M) : (leafB n).length ≤ 5 * (M + 15) := by
  unfold leafB
  split
  · refine Nat.le_trans (strsB_le M _ ?_) (Nat.mul_le_mul (by simp) (Nat.le_refl _))
    intro s hs
    simp only [List.mem_cons, List.not_mem_nil, or_false] at hs
    rcases hs with rfl | rfl | rfl <;> first | exact h | (refine Nat.le_trans ?_ hM; decide)
  · split
    · refine Nat.le_trans (strsB_le M _ ?_) (Nat.mul_le_mul (by simp) (Nat.le_refl _))
      intro s hs
      simp only [List.mem_cons, List.not_mem_nil, or_false] at hs
      rcases hs with rfl | rfl | rfl | rfl | rfl <;> first | exact h | (refine Nat.le_trans ?_ hM; decide)
    · refine Nat.le_trans (strsB_le M _ ?_) (Nat.mul_le_mul (by simp) (Nat.le_refl _))
      intro s hs
      simp only [List.mem_cons, List.not_mem_nil, or_false] at hs
      rcases hs with rfl | rfl | rfl <;> first | exact h | (refine Nat.le_trans ?_ hM; decide)
theorem mayStep_path {op op' : List Lv} {n : Nd} (h : mayStep op n = some op') : n.path ≠ [] := by
  intro he
  unfold mayStep withinP at h
  rw [he] at h
  simp only [cutSlash] at h
  split at h
  · cases h
  · rename_i i name hw
    split at hw
    · cases hw
    · injection hw with hw
      have h2 : name = [] := (congrArg Prod.snd hw).symm
      subst h2
      simp [mayName] at h
theorem mayGo_path : ∀ (l : List Nd) (op : List Lv), mayGo op l = true → ∀ n ∈ l, n.path ≠ []
  | [], _, _, n, hn => by simp at hn
  | m :: l, op, h, n, hn => by
    unfold mayGo at h
    split at h
    · cases h
    · rename_i op' hs
      rcases List.mem_cons.mp hn with rfl | hn
      · exact mayStep_path hs
      · exact mayGo_path l op' h n hn
theorem okNd_le (n : Nd) (h : okNd n = true) : n.data.length ≤ 65536 := by
  unfold okNd at h
  split at h
  · simpa using h
  · split at h
    · simp only [Bool.and_eq_true, decide_eq_true_eq] at h; omega
    · split at h
      · have : n.data = [] := by simpa using h
        rw [this]; simp
      · cases h
theorem may_parts {l : List Nd} (h : May l = true) : 0 < l.length ∧ l.length ≤ 256 ∧ (∀ n ∈ l, okNd n = true) ∧ (∀ j (hj : j < l.length), 0 < j → l[j].path ≠ []) := by
  unfold May at h
  split at h
  · cases h
  · rename_i n r
    simp only [Bool.and_eq_true, decide_eq_true_eq] at h
    obtain ⟨h1, _, h3, h4⟩ := h
    refine ⟨by simp, h1, fun m hm => List.all_eq_true.1 h3 m hm, fun j hj hj0 => ?_⟩
    obtain ⟨j, rfl⟩ : ∃ i, j = i + 1 := ⟨j - 1, by omega⟩
    rw [List.getElem_cons_succ]
    exact mayGo_path r _ h4 _ (List.getElem_mem _)
def eqNd (a b : Nd) : Bool := a.path == b.path && (a.kind == b.kind && a.data == b.data)
def sameN : List Nd → List Nd → Bool
  | [], [] => true
  | a :: l, b :: m => eqNd a b && sameN l m
  | _, _ => false
end Go.Proofs.YtncokgdfkbgflaaDoor

namespace Go.Proofs.YtncokgdfkbgflaaDoor
open Go.RowKit Go.Shelf Go.Lib Go.Proofs.YtncokgdfkbgflaaDoorW.PrintWords
set_option linter.unusedVariables false
set_option linter.unusedSimpArgs false
theorem leN_snoc : ∀ (l : List UInt8) (b : UInt8), leN (l ++ [b]) = leN l + b.toNat * 256 ^ l.length
  | [], b => by simp [leN]
  | a :: l, b => by
    rw [List.cons_append, leN, leN_snoc l b, leN, List.length_cons, Nat.pow_succ']
    rw [Nat.mul_add, ← Nat.mul_assoc, ← Nat.mul_assoc, Nat.mul_comm 256 b.toNat]
    omega
theorem leN_take (l : List UInt8) (i : Nat) (b : UInt8) (h : l[i]? = some b) : leN (l.take (i + 1)) = leN (l.take i) + b.toNat * 256 ^ i := by
  have hi : i < l.length := by
    rcases Nat.lt_or_ge i l.length with h2 | h2
    · exact h2
    · rw [List.getElem?_eq_none h2] at h; cases h
  rw [List.take_add_one, h]
  show leN (l.take i ++ [b]) = _
  rw [leN_snoc, List.length_take, Nat.min_eq_left (Nat.le_of_lt hi)]
theorem leN_lt : ∀ l : List UInt8, leN l < 256 ^ l.length
  | [] => by decide
  | b :: l => by
    have h := leN_lt l
    have hb := b.toNat_lt
    rw [leN, List.length_cons, Nat.pow_succ]
    omega
theorem leN_take_lt (l : List UInt8) (i : Nat) : leN (l.take i) < 256 ^ i := by
  have h := leN_lt (l.take i)
  have h2 : 256 ^ (l.take i).length ≤ 256 ^ i := Nat.pow_le_pow_right (by decide) (by rw [List.length_take]; exact Nat.min_le_left _ _)
  omega
theorem wraps_u64 (n : Int) (h₀ : 0 ≤ n) (h₁ : n < 2 ^ 64) : IntKind.u64.wrap n = n := by
  have : (2 : Int) ^ 64 = 18446744073709551616 := by decide
  simp [IntKind.wrap, IntKind.signed, IntKind.bits]; omega
theorem or_step (i n : Nat) (hi : i < 8) (hn : n < 256 ^ i) (b : UInt8) : bits .or .u64 (n : Int) (IntKind.u64.wrap (IntKind.u64.wrap (b.toNat : Int) * 2 ^ (8 * i))) = ((n + b.toNat * 256 ^ i : Nat) : Int) := by
  have hb := b.toNat_lt
  have p64 : (2 : Int) ^ 64 = 18446744073709551616 := by decide
  have p64n : (2 : Nat) ^ 64 = 18446744073709551616 := by decide
  have e : (2 : Nat) ^ (8 * i) = 256 ^ i := by rw [Nat.pow_mul]
  have e2 : ((2 : Int) ^ (8 * i)) = ((256 ^ i : Nat) : Int) := by rw [← e]; simp
  have hp : 256 ^ i ≤ 256 ^ 7 := Nat.pow_le_pow_right (by decide) (by omega)
  have h7 : (256 : Nat) ^ 7 = 72057594037927936 := by decide
  rw [h7] at hp
  have hb1 : IntKind.u64.wrap (b.toNat : Int) = (b.toNat : Int) := wraps_u64 _ (by omega) (by rw [p64]; omega)
  rw [e2, hb1]
  clear e2 hb1
  generalize hq : 256 ^ i = q at *
  have hm : b.toNat * q ≤ 255 * q := Nat.mul_le_mul (by omega) (Nat.le_refl _)
  have hc : (b.toNat : Int) * (q : Int) = ((b.toNat * q : Nat) : Int) := by simp
  have hw : IntKind.u64.wrap ((b.toNat * q : Nat) : Int) = ((b.toNat * q : Nat) : Int) := wraps_u64 _ (by omega) (by rw [p64]; omega)
  rw [hc, hw, (bits_nat .u64 64 (by decide) wraps_u64 n (b.toNat * q) (by rw [p64n]; omega) (by rw [p64n]; omega)).2]
  congr 1
  rw [Nat.or_comm, Nat.mul_comm b.toNat q, ← e, ← Nat.two_pow_add_eq_or_of_lt (by rw [e]; exact hn) b.toNat, Nat.add_comm]
structure TextAt (g : Nat) (s : ByteArray) (at_ most : Nat) (v : Value) (w : World) : Prop where
  hg : w.heap[g]? = some (.cells #[.string s, .int .i64 at_, v] 71 (0, 0))
  hat : at_ ≤ s.size
  hs : s.size < 1000000000
  hm : most ≤ 65536
set_option maxHeartbeats 4000000 in
set_option maxRecDepth 100000 in
theorem text_short (g : Nat) (s : ByteArray) (at_ most : Nat) (v : Value) (w : World) (h : TextAt g s at_ most v w) (h8 : s.size - at_ < 8) :
    Calls Tryd.prog 84 #[.pointer (some ⟨g, 0, none⟩), .int .i64 most] w fun e w' => e = .returned (.tuple #[.string ⟨#[]⟩, .int .i64 5]) ∧ ∃ n, w' = w.drewN n := by
  obtain ⟨hg, hat, hs, hm⟩ := h
  have c0 : w.cell? ⟨g, 0, none⟩ = some (.string s) := by rw [blk_cell hg]; rfl
  have c1 : w.cell? ⟨g, 1, none⟩ = some (.int .i64 at_) := by rw [blk_cell hg]; rfl
  have d2 : (0 : Int) ≤ (at_ : Int) := by omega
  have d3 : (at_ : Int) ≤ (s.size : Int) := by omega
  have d4 : decide (((s.size - at_ : Nat) : Int) < 8) = true := decide_eq_true (by omega)
  go_enter Tryd.func84, Tryd.ntmps84
  go_wp2
  go_region
  all_goals go_wp2
  all_goals go_ret2
  all_goals exact ⟨rfl, 1, rfl⟩
set_option maxHeartbeats 4000000 in
set_option maxRecDepth 100000 in
theorem text_great (g : Nat) (s : ByteArray) (at_ most : Nat) (v : Value) (w : World) (h : TextAt g s at_ most v w) (h8 : 8 ≤ s.size - at_) (hbig : most < leN ((s.extract at_ s.size).data.toList.take 8)) :
    Calls Tryd.prog 84 #[.pointer (some ⟨g, 0, none⟩), .int .i64 most] w fun e w' => e = .returned (.tuple #[.string ⟨#[]⟩, .int .i64 4]) ∧ ∃ n, w' = w.drewN n := by
  obtain ⟨hg, hat, hs, hm⟩ := h
  have c0 : w.cell? ⟨g, 0, none⟩ = some (.string s) := by rw [blk_cell hg]; rfl
  have c1 : w.cell? ⟨g, 1, none⟩ = some (.int .i64 at_) := by rw [blk_cell hg]; rfl
  have d2 : (0 : Int) ≤ (at_ : Int) := by omega
  have d3 : (at_ : Int) ≤ (s.size : Int) := by omega
  have hl : (s.extract at_ s.size).size = s.size - at_ := by rw [ByteArray.size_extract]; omega
  have d4 : decide (((s.size - at_ : Nat) : Int) < 8) = false := decide_eq_false (by omega)
  obtain ⟨left, hleft⟩ : ∃ left, left = s.extract at_ s.size := ⟨_, rfl⟩
  rw [← hleft] at hbig hl
  have hwm := wraps_u64 (most : Int) (by omega) (by rw [show (2 : Int) ^ 64 = 18446744073709551616 by decide]; omega)
  have t1 : decide ((most : Int) < ((leN (left.data.toList.take 8) : Nat) : Int)) = true := decide_eq_true (by omega)
  have t2 : (most : Int) < ((leN (left.data.toList.take 8) : Nat) : Int) := by omega
  have HW := Aside0.mk hwm
  go_enter Tryd.func84, Tryd.ntmps84
  go_wp2
  go_region
  all_goals go_wp2
  rw [← hleft]
  have HLEFT := Aside0.mk hleft
  clear hleft
  go_loopg [7, 8, 22] 8 (fun g v7 _ v22 wx => ∃ i : Nat, i + g = 8 ∧ v22 = .int .i64 i ∧ v7 = .int .u64 ((leN (left.data.toList.take i) : Nat) : Int) ∧ wx = w.drew)
  case atStart => exact ⟨0, rfl, rfl, rfl, rfl⟩
  case round =>
    obtain ⟨i, hig, rfl, rfl, rfl⟩ := hrel
    cases gk with
    | zero =>
      obtain rfl : i = 8 := by omega
      have e1 : decide (((8 : Nat) : Int) < 8) = false := by decide
      go_wp2
      go_ret2
      exact ⟨rfl, 1, rfl⟩
    | succ gk =>
      have hi : i < left.size := by rw [hl]; omega
      obtain ⟨x, hx⟩ : ∃ x : UInt8, left[i]'hi = x := ⟨_, rfl⟩
      have hx2 : left.data.toList[i]? = some x := by rw [← hx]; exact Lib.data_getElem? left i hi
      have e1 : decide ((i : Int) < 8) = true := decide_eq_true (by omega)
      have hor := or_step i (leN (left.data.toList.take i)) (by omega) (leN_take_lt _ _) x
      rw [← leN_take _ i x hx2] at hor
      have HX := Aside0.mk hx2
      clear hx2
      go_wp2
      go_roundg gk
      case measure => omega
      case rel => exact ⟨i + 1, by omega, by simp, by rw [← hor], rfl⟩
set_option maxHeartbeats 4000000 in
set_option maxRecDepth 100000 in
theorem text_more (g : Nat) (s : ByteArray) (at_ most : Nat) (v : Value) (w : World) (h : TextAt g s at_ most v w) (h8 : 8 ≤ s.size - at_) (N S : Nat) (hN : leN ((s.extract at_ s.size).data.toList.take 8) = N) (hbig : N ≤ most) (hS : S = (N + 7) / 8 * 8) (hlt : s.size - at_ - 8 < S) :
    Calls Tryd.prog 84 #[.pointer (some ⟨g, 0, none⟩), .int .i64 most] w fun e w' => e = .returned (.tuple #[.string ⟨#[]⟩, .int .i64 5]) ∧ ∃ n, w' = w.drewN n := by
  obtain ⟨hg, hat, hs, hm⟩ := h
  have c0 : w.cell? ⟨g, 0, none⟩ = some (.string s) := by rw [blk_cell hg]; rfl
  have c1 : w.cell? ⟨g, 1, none⟩ = some (.int .i64 at_) := by rw [blk_cell hg]; rfl
  have d2 : (0 : Int) ≤ (at_ : Int) := by omega
  have d3 : (at_ : Int) ≤ (s.size : Int) := by omega
  have hl : (s.extract at_ s.size).size = s.size - at_ := by rw [ByteArray.size_extract]; omega
  have d4 : decide (((s.size - at_ : Nat) : Int) < 8) = false := decide_eq_false (by omega)
  obtain ⟨left, hleft⟩ : ∃ left, left = s.extract at_ s.size := ⟨_, rfl⟩
  rw [← hleft] at hN hl
  have hwm := wraps_u64 (most : Int) (by omega) (by rw [show (2 : Int) ^ 64 = 18446744073709551616 by decide]; omega)
  have t1 : decide ((most : Int) < (N : Int)) = false := decide_eq_false (by omega)
  have t2 : ((N : Nat) : Int) ≤ (most : Int) := by omega
  have t3 : ((N : Int) + 8 - 1) / 8 * 8 = (S : Int) := by omega
  have t4 : ((s.size - at_ : Nat) : Int) - 8 < (S : Int) := by omega
  have t5 : ((s.size - at_ - 8 : Nat) : Int) < (S : Int) := by omega
  have t6 : decide (((s.size - at_ - 8 : Nat) : Int) < (S : Int)) = true := decide_eq_true t5
  have HW := Aside0.mk hwm
  go_enter Tryd.func84, Tryd.ntmps84
  go_wp2
  go_region
  all_goals go_wp2
  rw [← hleft]
  have HLEFT := Aside0.mk hleft
  clear hleft
  go_loopg [7, 8, 22] 8 (fun g v7 _ v22 wx => ∃ i : Nat, i + g = 8 ∧ v22 = .int .i64 i ∧ v7 = .int .u64 ((leN (left.data.toList.take i) : Nat) : Int) ∧ wx = w.drew)
  case atStart => exact ⟨0, rfl, rfl, rfl, rfl⟩
  case round =>
    obtain ⟨i, hig, rfl, rfl, rfl⟩ := hrel
    cases gk with
    | zero =>
      obtain rfl : i = 8 := by omega
      rw [hN]
      have e1 : decide (((8 : Nat) : Int) < 8) = false := by decide
      go_wp2
      go_ret2
      exact ⟨rfl, 1, rfl⟩
    | succ gk =>
      have hi : i < left.size := by rw [hl]; omega
      obtain ⟨x, hx⟩ : ∃ x : UInt8, left[i]'hi = x := ⟨_, rfl⟩
      have hx2 : left.data.toList[i]? = some x := by rw [← hx]; exact Lib.data_getElem? left i hi
      have e1 : decide ((i : Int) < 8) = true := decide_eq_true (by omega)
      have hor := or_step i (leN (left.data.toList.take i)) (by omega) (leN_take_lt _ _) x
      rw [← leN_take _ i x hx2] at hor
      have HX := Aside0.mk hx2
      clear hx2
      go_wp2
      go_roundg gk
      case measure => omega
      case rel => exact ⟨i + 1, by omega, by simp, by rw [← hor], rfl⟩
set_option maxHeartbeats 4000000 in
set_option maxRecDepth 100000 in
theorem text_full (g : Nat) (s : ByteArray) (at_ most : Nat) (v : Value) (w : World) (h : TextAt g s at_ most v w) (h8 : 8 ≤ s.size - at_) (N S : Nat) (hN : leN ((s.extract at_ s.size).data.toList.take 8) = N) (hbig : N ≤ most) (hS : S = (N + 7) / 8 * 8) (hlt : S ≤ s.size - at_ - 8) (hT : Lib.trimB (((s.extract at_ s.size).data.toList.drop (8 + N)).take (S - N)) 0 = []) :
    Calls Tryd.prog 84 #[.pointer (some ⟨g, 0, none⟩), .int .i64 most] w fun e w' => e = .returned (.tuple #[.string (((s.extract at_ s.size).extract 8 (s.size - at_)).extract 0 N), .int .i64 0]) ∧ ∃ n, w' = (w.setCell ⟨g, 1, none⟩ (.int .i64 ((at_ + (8 + S) : Nat) : Int))).drewN n := by
  obtain ⟨hg, hat, hs, hm⟩ := h
  have c0 : w.cell? ⟨g, 0, none⟩ = some (.string s) := by rw [blk_cell hg]; rfl
  have c1 : w.cell? ⟨g, 1, none⟩ = some (.int .i64 at_) := by rw [blk_cell hg]; rfl
  have d2 : (0 : Int) ≤ (at_ : Int) := by omega
  have d3 : (at_ : Int) ≤ (s.size : Int) := by omega
  have hl : (s.extract at_ s.size).size = s.size - at_ := by rw [ByteArray.size_extract]; omega
  have d4 : decide (((s.size - at_ : Nat) : Int) < 8) = false := decide_eq_false (by omega)
  obtain ⟨left, hleft⟩ : ∃ left, left = s.extract at_ s.size := ⟨_, rfl⟩
  rw [← hleft] at hN hl hT ⊢
  have hwm := wraps_u64 (most : Int) (by omega) (by rw [show (2 : Int) ^ 64 = 18446744073709551616 by decide]; omega)
  have t1 : decide ((most : Int) < (N : Int)) = false := decide_eq_false (by omega)
  have t2 : ((N : Nat) : Int) ≤ (most : Int) := by omega
  have t3 : ((N : Int) + 8 - 1) / 8 * 8 = (S : Int) := by omega
  have t4 : ¬ ((s.size - at_ : Nat) : Int) - 8 < (S : Int) := by omega
  have t5 : ¬ ((s.size - at_ - 8 : Nat) : Int) < (S : Int) := by omega
  have t6 : decide (((s.size - at_ - 8 : Nat) : Int) < (S : Int)) = false := decide_eq_false t5
  have t7 : (N : Int) ≤ (S : Int) := by omega
  have t8 : (S : Int) ≤ ((s.size - at_ - 8 : Nat) : Int) := by omega
  have hl2 : (left.extract 8 (s.size - at_)).size = s.size - at_ - 8 := by rw [ByteArray.size_extract]; omega
  have hmin : min (8 + S) (s.size - at_) - (8 + N) = S - N := by omega
  have hfz := blk_frozen hg 1
  obtain ⟨l2, hl2e⟩ : ∃ l2, l2 = left.extract 8 (s.size - at_) := ⟨_, rfl⟩
  have HS := Aside0.mk hS
  clear hS
  have HT := Aside0.mk hT
  have HM := Aside0.mk hmin
  clear hT hmin
  have HW := Aside0.mk hwm
  go_enter Tryd.func84, Tryd.ntmps84
  go_wp2
  go_region
  all_goals go_wp2
  rw [← hleft]
  have HLEFT := Aside0.mk hleft
  clear hleft
  go_loopg [7, 8, 22] 8 (fun g v7 _ v22 wx => ∃ i : Nat, i + g = 8 ∧ v22 = .int .i64 i ∧ v7 = .int .u64 ((leN (left.data.toList.take i) : Nat) : Int) ∧ wx = w.drew)
  case atStart => exact ⟨0, rfl, rfl, rfl, rfl⟩
  case round =>
    obtain ⟨i, hig, rfl, rfl, rfl⟩ := hrel
    cases gk with
    | zero =>
      obtain rfl : i = 8 := by omega
      rw [hN]
      have e1 : decide (((8 : Nat) : Int) < 8) = false := by decide
      go_wp2_with (go_at_call 110; refine (Tryd.strings_Trim_one _ 0 (by decide) _ ?hsz).mono ?_)
      case hsz => omega
      rintro _ w' rfl hw'
      rw [HM.out, HT.out]
      rcases hw' with rfl | rfl
      · go_wp2
        go_ret2
        refine ⟨rfl, 1, ?_⟩; push_cast; rfl
      · go_wp2
        go_ret2
        refine ⟨rfl, 2, ?_⟩; push_cast; rfl
    | succ gk =>
      have hi : i < left.size := by rw [hl]; omega
      obtain ⟨x, hx⟩ : ∃ x : UInt8, left[i]'hi = x := ⟨_, rfl⟩
      have hx2 : left.data.toList[i]? = some x := by rw [← hx]; exact Lib.data_getElem? left i hi
      have e1 : decide ((i : Int) < 8) = true := decide_eq_true (by omega)
      have hor := or_step i (leN (left.data.toList.take i)) (by omega) (leN_take_lt _ _) x
      rw [← leN_take _ i x hx2] at hor
      have HX := Aside0.mk hx2
      clear hx2
      go_wp2
      go_roundg gk
      case measure => omega
      case rel => exact ⟨i + 1, by omega, by simp, by rw [← hor], rfl⟩
set_option maxHeartbeats 4000000 in
set_option maxRecDepth 100000 in
theorem text_filled (g : Nat) (s : ByteArray) (at_ most : Nat) (v : Value) (w : World) (h : TextAt g s at_ most v w) (h8 : 8 ≤ s.size - at_) (N S : Nat) (hN : leN ((s.extract at_ s.size).data.toList.take 8) = N) (hbig : N ≤ most) (hS : S = (N + 7) / 8 * 8) (hlt : S ≤ s.size - at_ - 8) (hT : Lib.trimB (((s.extract at_ s.size).data.toList.drop (8 + N)).take (S - N)) 0 ≠ []) :
    Calls Tryd.prog 84 #[.pointer (some ⟨g, 0, none⟩), .int .i64 most] w fun e w' => e = .returned (.tuple #[.string ⟨#[]⟩, .int .i64 4]) ∧ ∃ n, w' = w.drewN n := by
  obtain ⟨hg, hat, hs, hm⟩ := h
  have c0 : w.cell? ⟨g, 0, none⟩ = some (.string s) := by rw [blk_cell hg]; rfl
  have c1 : w.cell? ⟨g, 1, none⟩ = some (.int .i64 at_) := by rw [blk_cell hg]; rfl
  have d2 : (0 : Int) ≤ (at_ : Int) := by omega
  have d3 : (at_ : Int) ≤ (s.size : Int) := by omega
  have hl : (s.extract at_ s.size).size = s.size - at_ := by rw [ByteArray.size_extract]; omega
  have d4 : decide (((s.size - at_ : Nat) : Int) < 8) = false := decide_eq_false (by omega)
  obtain ⟨left, hleft⟩ : ∃ left, left = s.extract at_ s.size := ⟨_, rfl⟩
  rw [← hleft] at hN hl hT
  have hwm := wraps_u64 (most : Int) (by omega) (by rw [show (2 : Int) ^ 64 = 18446744073709551616 by decide]; omega)
  have t1 : decide ((most : Int) < (N : Int)) = false := decide_eq_false (by omega)
  have t2 : ((N : Nat) : Int) ≤ (most : Int) := by omega
  have t3 : ((N : Int) + 8 - 1) / 8 * 8 = (S : Int) := by omega
  have t4 : ¬ ((s.size - at_ : Nat) : Int) - 8 < (S : Int) := by omega
  have t5 : ¬ ((s.size - at_ - 8 : Nat) : Int) < (S : Int) := by omega
  have t6 : decide (((s.size - at_ - 8 : Nat) : Int) < (S : Int)) = false := decide_eq_false t5
  have t7 : (N : Int) ≤ (S : Int) := by omega
  have t8 : (S : Int) ≤ ((s.size - at_ - 8 : Nat) : Int) := by omega
  have hl2 : (left.extract 8 (s.size - at_)).size = s.size - at_ - 8 := by rw [ByteArray.size_extract]; omega
  have hmin : min (8 + S) (s.size - at_) - (8 + N) = S - N := by omega
  have hfz := blk_frozen hg 1
  obtain ⟨l2, hl2e⟩ : ∃ l2, l2 = left.extract 8 (s.size - at_) := ⟨_, rfl⟩
  have HS := Aside0.mk hS
  clear hS
  obtain ⟨T, hTd⟩ : ∃ T, T = Lib.trimB ((left.data.toList.drop (8 + N)).take (S - N)) 0 := ⟨_, rfl⟩
  rw [← hTd] at hT
  have v1 : (T == ([] : List UInt8)) = false := by cases T with | nil => exact absurd rfl hT | cons _ _ => rfl
  have v2 : T.isEmpty = false := by cases T with | nil => exact absurd rfl hT | cons _ _ => rfl
  have v3 : (T.toArray.toList == ([] : List UInt8)) = false := v1
  have HT := Aside0.mk hTd.symm
  clear hTd
  have HM := Aside0.mk hmin
  clear hT hmin
  have HW := Aside0.mk hwm
  go_enter Tryd.func84, Tryd.ntmps84
  go_wp2
  go_region
  all_goals go_wp2
  rw [← hleft]
  have HLEFT := Aside0.mk hleft
  clear hleft
  go_loopg [7, 8, 22] 8 (fun g v7 _ v22 wx => ∃ i : Nat, i + g = 8 ∧ v22 = .int .i64 i ∧ v7 = .int .u64 ((leN (left.data.toList.take i) : Nat) : Int) ∧ wx = w.drew)
  case atStart => exact ⟨0, rfl, rfl, rfl, rfl⟩
  case round =>
    obtain ⟨i, hig, rfl, rfl, rfl⟩ := hrel
    cases gk with
    | zero =>
      obtain rfl : i = 8 := by omega
      rw [hN]
      have e1 : decide (((8 : Nat) : Int) < 8) = false := by decide
      go_wp2_with (go_at_call 110; refine (Tryd.strings_Trim_one _ 0 (by decide) _ ?hsz).mono ?_)
      case hsz => omega
      rintro _ w' rfl hw'
      rw [HM.out, HT.out]
      rcases hw' with rfl | rfl
      · go_wp2
        go_ret2
        exact ⟨rfl, 1, rfl⟩
      · go_wp2
        go_ret2
        exact ⟨rfl, 2, rfl⟩
    | succ gk =>
      have hi : i < left.size := by rw [hl]; omega
      obtain ⟨x, hx⟩ : ∃ x : UInt8, left[i]'hi = x := ⟨_, rfl⟩
      have hx2 : left.data.toList[i]? = some x := by rw [← hx]; exact Lib.data_getElem? left i hi
      have e1 : decide ((i : Int) < 8) = true := decide_eq_true (by omega)
      have hor := or_step i (leN (left.data.toList.take i)) (by omega) (leN_take_lt _ _) x
      rw [← leN_take _ i x hx2] at hor
      have HX := Aside0.mk hx2
      clear hx2
      go_wp2
      go_roundg gk
      case measure => omega
      case rel => exact ⟨i + 1, by omega, by simp, by rw [← hor], rfl⟩
end Go.Proofs.YtncokgdfkbgflaaDoor

namespace Go.Proofs.YtncokgdfkbgflaaDoor
open Go.RowKit Go.Shelf Go.Lib Go.Proofs.YtncokgdfkbgflaaDoorW.PrintWords
set_option linter.unusedVariables false
set_option linter.unusedSimpArgs false
def restB (s : ByteArray) (at_ : Nat) : List UInt8 := s.data.toList.drop at_
theorem restB_length (s : ByteArray) (at_ : Nat) : (restB s at_).length = s.size - at_ := by
  rw [restB, List.length_drop]; rfl
theorem restB_ext (s : ByteArray) (at_ : Nat) : (s.extract at_ s.size).data.toList = restB s at_ := by
  rw [ByteArray.data_extract, Array.toList_extract, List.extract_eq_take_drop, restB]
  exact List.take_of_length_le (by rw [List.length_drop]; exact Nat.le_refl _)
theorem restB_add (s : ByteArray) (a b : Nat) : (restB s a).drop b = restB s (a + b) := by
  rw [restB, List.drop_drop, restB]
theorem text_val (s : ByteArray) (at_ N : Nat) : ((s.extract at_ s.size).extract 8 (s.size - at_)).extract 0 N = ⟨(((restB s at_).drop 8).take N).toArray⟩ := by
  apply ByteArray.ext
  apply Array.toList_inj.1
  show _ = ((restB s at_).drop 8).take N
  rw [ByteArray.data_extract, Array.toList_extract, List.extract_eq_take_drop, List.drop_zero, Nat.sub_zero, ByteArray.data_extract, Array.toList_extract, List.extract_eq_take_drop, restB_ext, List.take_take]
  have hl := restB_length s at_
  rcases Nat.le_total N (s.size - at_ - 8) with h | h
  · rw [Nat.min_eq_left h]
  · rw [Nat.min_eq_right h, List.take_of_length_le (by rw [List.length_drop, hl]; exact Nat.le_refl _), List.take_of_length_le (by rw [List.length_drop, hl]; exact h)]
theorem dropWhile_nil {p : UInt8 → Bool} : ∀ l : List UInt8, l.dropWhile p = [] ↔ l.all p = true
  | [] => by simp
  | a :: l => by
    rw [List.dropWhile_cons, List.all_cons]
    cases hp : p a with
    | true => simpa using dropWhile_nil l
    | false => simp
theorem trim_zero (l : List UInt8) : Lib.trimB l 0 = [] ↔ l.all (· == 0) = true := by
  unfold Lib.trimB Lib.trimLeftB Lib.trimRightB
  rw [dropWhile_nil, List.all_reverse]
  constructor
  · intro h
    rw [← List.all_reverse]
    rw [← List.takeWhile_append_dropWhile (p := (· == (0 : UInt8))) (l := l.reverse), List.all_append, h, Bool.and_true, List.all_eq_true]
    exact fun x hx => List.all_eq_true.1 (List.all_takeWhile) x hx
  · intro h
    rw [← List.all_reverse] at h
    rw [(dropWhile_nil _).2 h]
    rfl
def TextPost (g : Nat) (s : ByteArray) (w : World) (x : Rd (List UInt8)) (e : Ending) (w' : World) : Prop :=
  (∃ c, x = .error c ∧ c ≠ 0 ∧ e = .returned (.tuple #[.string ⟨#[]⟩, .int .i64 c]) ∧ ∃ n, w' = w.drewN n) ∨
  (∃ t at', x = .ok (t, restB s at') ∧ at' ≤ s.size ∧ e = .returned (.tuple #[.string ⟨t.toArray⟩, .int .i64 0]) ∧ ∃ n, w' = (w.setCell ⟨g, 1, none⟩ (.int .i64 ((at' : Nat) : Int))).drewN n)
theorem text_is (g : Nat) (s : ByteArray) (at_ most : Nat) (v : Value) (w : World) (h : TextAt g s at_ most v w) :
    Calls Tryd.prog 84 #[.pointer (some ⟨g, 0, none⟩), .int .i64 most] w (TextPost g s w (textP most (restB s at_))) := by
  have hl := restB_length s at_
  have hat := h.hat
  unfold textP
  rw [hl]
  by_cases h8 : s.size - at_ < 8
  · rw [if_pos h8]
    exact (text_short g s at_ most v w h h8).mono fun e w' ⟨h1, h2⟩ => .inl ⟨5, rfl, by decide, h1, h2⟩
  · rw [if_neg h8]
    by_cases hb : most < leN ((restB s at_).take 8)
    · rw [if_pos hb]
      exact (text_great g s at_ most v w h (by omega) (by rw [restB_ext]; exact hb)).mono fun e w' ⟨h1, h2⟩ => .inl ⟨4, rfl, by decide, h1, h2⟩
    · rw [if_neg hb]
      obtain ⟨N, hN⟩ : ∃ N, leN ((restB s at_).take 8) = N := ⟨_, rfl⟩
      rw [hN] at hb ⊢
      have hN2 : leN ((s.extract at_ s.size).data.toList.take 8) = N := by rw [restB_ext]; exact hN
      by_cases hm : ((restB s at_).drop 8).length < (N + 7) / 8 * 8
      · rw [if_pos hm]
        rw [List.length_drop, hl] at hm
        exact (text_more g s at_ most v w h (by omega) N _ hN2 (by omega) rfl hm).mono fun e w' ⟨h1, h2⟩ => .inl ⟨5, rfl, by decide, h1, h2⟩
      · rw [if_neg hm]
        rw [List.length_drop, hl] at hm
        have hle : N ≤ (N + 7) / 8 * 8 := by omega
        have hf : (((restB s at_).drop 8).take ((N + 7) / 8 * 8)).drop N = ((s.extract at_ s.size).data.toList.drop (8 + N)).take ((N + 7) / 8 * 8 - N) := by
          rw [restB_ext, List.drop_take, List.drop_drop]
        rw [hf]
        by_cases hz : Lib.trimB (((s.extract at_ s.size).data.toList.drop (8 + N)).take ((N + 7) / 8 * 8 - N)) 0 = []
        · rw [if_pos (by rw [trim_zero] at hz; exact hz)]
          refine (text_full g s at_ most v w h (by omega) N _ hN2 (by omega) rfl (by omega) hz).mono fun e w' ⟨h1, h2⟩ => .inr ⟨((restB s at_).drop 8).take N, at_ + (8 + (N + 7) / 8 * 8), ?_, by omega, ?_, h2⟩
          · rw [restB_add, restB_add, Nat.add_assoc]
          · rw [h1, text_val]
        · rw [if_neg (by rw [trim_zero] at hz; exact hz)]
          exact (text_filled g s at_ most v w h (by omega) N _ hN2 (by omega) rfl (by omega) hz).mono fun e w' ⟨h1, h2⟩ => .inl ⟨4, rfl, by decide, h1, h2⟩
end Go.Proofs.YtncokgdfkbgflaaDoor

namespace Go.Proofs.YtncokgdfkbgflaaDoor
open Go.RowKit Go.Shelf Go.Lib Go.Proofs.YtncokgdfkbgflaaDoorW.PrintWords
set_option linter.unusedVariables false
set_option linter.unusedSimpArgs false
def bsB (l : List UInt8) : ByteArray := ⟨l.toArray⟩
def NdR (n : Nd) (cs : List Value) : Prop := cs = [.string (bsB n.path), .int .i64 n.kind, .string (bsB n.data)]
structure RdAt (B g : Nat) (s : ByteArray) (at_ : Nat) (l : List Nd) (w : World) : Prop where
  base : B ≤ g
  le : at_ ≤ s.size
  small : s.size < 1000000000
  blk : ∃ v, w.heap[g]? = some (.cells #[.string s, .int .i64 at_, v] 71 (0, 0)) ∧ OwnRow NdR 68 3 w B v l
structure RdStep (e : Option TypeId) (B g : Nat) (w w' : World) : Prop where
  below : Below B w w'
  kept : ∀ (k : Nat) (o : Obj), w.heap[k]? = some o → k ≠ g → (∀ c t fz, o = .cells c t fz → e ≠ some t) → w'.heap[k]? = some o
  third : e = none → ∀ (s : ByteArray) (at_ : Nat) (v : Value), w.heap[g]? = some (.cells #[.string s, .int .i64 at_, v] 71 (0, 0)) → ∃ at' : Nat, w'.heap[g]? = some (.cells #[.string s, .int .i64 at', v] 71 (0, 0))
theorem RdStep.refl (e : Option TypeId) (B g : Nat) (w : World) : RdStep e B g w w := ⟨Below.refl _ _, fun _ _ h _ _ => h, fun _ _ at_ _ h => ⟨at_, h⟩⟩
theorem RdStep.trans {e : Option TypeId} {B g : Nat} {a b c : World} (h : RdStep e B g a b) (k : RdStep e B g b c) : RdStep e B g a c :=
  ⟨h.below.trans k.below, fun i o hi hg he => k.kept i o (h.kept i o hi hg he) hg he, fun he s at_ v hv => by obtain ⟨a1, h1⟩ := h.third he s at_ v hv; exact k.third he s a1 v h1⟩
theorem RdStep.weak {e : Option TypeId} {B g : Nat} {a b : World} (h : RdStep none B g a b) : RdStep e B g a b :=
  ⟨h.below, fun i o hi hg he => h.kept i o hi hg (fun _ _ _ _ => by simp), fun _ => h.third rfl⟩
theorem RdStep.all {B g : Nat} {a b : World} (h : RdStep none B g a b) {k : Nat} {o : Obj} (hk : a.heap[k]? = some o) (hg : k ≠ g) : b.heap[k]? = some o := h.kept k o hk hg (fun _ _ _ _ => by simp)
theorem RdStep.alloc {e : Option TypeId} {B g : Nat} {a w : World} (h : RdStep e B g a w) (hB : B ≤ w.heap.size) (o : Obj) : RdStep e B g a (w.alloc o) :=
  ⟨h.below.alloc hB o, fun i c hi hg he => blk_alloc (h.kept i c hi hg he) o, fun he s at_ v hv => by obtain ⟨a1, h1⟩ := h.third he s at_ v hv; exact ⟨a1, blk_alloc h1 o⟩⟩
theorem RdStep.drew {e : Option TypeId} {B g : Nat} {a w : World} (h : RdStep e B g a w) : RdStep e B g a w.drew := ⟨below_drew h.below, h.kept, h.third⟩
theorem RdStep.drewN {e : Option TypeId} {B g : Nat} {a w : World} (h : RdStep e B g a w) (n : Nat) : RdStep e B g a (w.drewN n) := ⟨pw_below_drewN h.below n, h.kept, h.third⟩
theorem RdStep.move {e : Option TypeId} {B g : Nat} {a w : World} (h : RdStep e B g a w) (hB : B ≤ g) (at' : Nat) : RdStep e B g a (w.setCell ⟨g, 1, none⟩ (.int .i64 (at' : Int))) :=
  ⟨h.below.setCell (p := ⟨g, 1, none⟩) hB _, fun k o hk hg he => (Below.heap_setCell w ⟨g, 1, none⟩ _ k hg).trans (h.kept k o hk hg he), fun he s at_ v hv => by
    obtain ⟨a1, h1⟩ := h.third he s at_ v hv
    exact ⟨at', blk_put h1 1 _ rfl⟩⟩
theorem RdStep.put {e : Option TypeId} {B g : Nat} {a w : World} (h : RdStep e B g a w) (hB : B ≤ a.heap.size) {l : Nat} (hl : a.heap.size ≤ l) (hl2 : l < w.heap.size) (o : Obj) : RdStep e B g a (w.putObj l o) :=
  ⟨h.below.grown (grownBy_putObj' w l o) (by omega) (fun k ek => by cases ek; omega), fun k c hk hg he => (World.putObj_heap_other (by have := blk_lt hk; omega)).trans (h.kept k c hk hg he), fun he s at_ v hv => by
    obtain ⟨a1, h1⟩ := h.third he s at_ v hv
    exact ⟨a1, (World.putObj_heap_other (by have := blk_lt hv; omega)).trans h1⟩⟩
theorem RdStep.setOwn {e : Option TypeId} {B g : Nat} {a w : World} (h : RdStep e B g a w) (hB : B ≤ a.heap.size) {p : Addr} (hp : a.heap.size ≤ p.block) (u : Value) : RdStep e B g a (w.setCell p u) :=
  ⟨h.below.setCell (by omega) u, fun k o hk hg he => (Below.heap_setCell w p u k (by have := blk_lt hk; omega)).trans (h.kept k o hk hg he), fun he s at_ v hv => by
    obtain ⟨a1, h1⟩ := h.third he s at_ v hv
    exact ⟨a1, (Below.heap_setCell w p u g (by have := blk_lt hv; omega)).trans h1⟩⟩
theorem RdAt.lt {B g at_ : Nat} {s : ByteArray} {l : List Nd} {w : World} (h : RdAt B g s at_ l w) : g < w.heap.size := by
  obtain ⟨v, hb, _⟩ := h.blk
  exact blk_lt hb
theorem own_cong {w w' : World} {B : Nat} {v : Value} {l : List Nd} (h : OwnRow NdR 68 3 w B v l) (hm : ∀ k, v.ownBlock = some k → w'.heap[k]? = w.heap[k]?) : OwnRow NdR 68 3 w' B v l := by
  obtain ⟨inner, ho, hr⟩ := h
  exact ⟨inner, own_move ho hm, hr⟩
theorem RdAt.cong {B g at_ : Nat} {s : ByteArray} {l : List Nd} {w w' : World} (h : RdAt B g s at_ l w) (hk : ∀ (k : Nat) (c : Array Value) (t : TypeId) (fz : Nat × Nat), w.heap[k]? = some (Obj.cells c t fz) → t = 71 ∨ t = 68 → w'.heap[k]? = some (Obj.cells c t fz)) : RdAt B g s at_ l w' := by
  obtain ⟨v, hb, ho⟩ := h.blk
  refine ⟨h.base, h.le, h.small, v, hk _ _ _ _ hb (.inl rfl), own_cong ho fun k hv => ?_⟩
  obtain ⟨inner, hi, _⟩ := ho
  obtain ⟨cs, hc⟩ := own_typed hi k hv
  rw [hc]
  exact hk _ _ _ _ hc (.inr rfl)
theorem RdAt.alloc {B g at_ : Nat} {s : ByteArray} {l : List Nd} {w : World} (h : RdAt B g s at_ l w) (o : Obj) : RdAt B g s at_ l (w.alloc o) := h.cong fun _ _ _ _ hk _ => blk_alloc hk o
theorem RdAt.drew {B g at_ : Nat} {s : ByteArray} {l : List Nd} {w : World} (h : RdAt B g s at_ l w) : RdAt B g s at_ l w.drew := h.cong fun _ _ _ _ hk _ => hk
theorem RdAt.drewN {B g at_ : Nat} {s : ByteArray} {l : List Nd} {w : World} (h : RdAt B g s at_ l w) (n : Nat) : RdAt B g s at_ l (w.drewN n) := h.cong fun _ _ _ _ hk _ => hk
theorem RdAt.other {B g at_ k i : Nat} {s : ByteArray} {l : List Nd} {w : World} {cs : Array Value} {t : TypeId} (h : RdAt B g s at_ l w) (hk : w.heap[k]? = some (.cells cs t (0, 0))) (h1 : t ≠ 71) (h2 : t ≠ 68) (u : Value) : RdAt B g s at_ l (w.setCell ⟨k, i, none⟩ u) := by
  refine h.cong fun j c t' fz hj ht => ?_
  have hne : j ≠ k := by
    rintro rfl
    rw [hk] at hj
    cases hj
    rcases ht with rfl | rfl
    · exact h1 rfl
    · exact h2 rfl
  exact (Below.heap_setCell w ⟨k, i, none⟩ u j hne).trans hj
theorem RdAt.move {B g at_ at' : Nat} {s : ByteArray} {l : List Nd} {w : World} (h : RdAt B g s at_ l w) (hle : at' ≤ s.size) : RdAt B g s at' l (w.setCell ⟨g, 1, none⟩ (.int .i64 (at' : Int))) := by
  obtain ⟨v, hb, ho⟩ := h.blk
  refine ⟨h.base, hle, h.small, v, blk_put hb 1 _ rfl, own_cong ho fun k hv => Below.heap_setCell _ _ _ _ ?_⟩
  obtain ⟨inner, hi, _⟩ := ho
  obtain ⟨cs, hc⟩ := own_typed hi k hv
  exact blk_ne hc hb (by decide)
def RdS {α : Type} (B g : Nat) (s : ByteArray) (l : List Nd) (w : World) (x : Rd α) (ok : α → Value) (bad : Int → Value) (e : Ending) (w' : World) : Prop :=
  ∃ at', RdAt B g s at' l w' ∧ RdStep none B g w w' ∧ ((∃ c, x = .error c ∧ c ≠ 0 ∧ e = .returned (bad c)) ∨ (∃ t, x = .ok (t, restB s at') ∧ e = .returned (ok t)))
theorem text_rd (B g : Nat) (s : ByteArray) (at_ most : Nat) (l : List Nd) (w : World) (h : RdAt B g s at_ l w) (hm : most ≤ 65536) :
    Calls Tryd.prog 84 #[.pointer (some ⟨g, 0, none⟩), .int .i64 most] w (RdS B g s l w (textP most (restB s at_)) (fun t => .tuple #[.string (bsB t), .int .i64 0]) (fun c => .tuple #[.string ⟨#[]⟩, .int .i64 c])) := by
  obtain ⟨v, hb, ho⟩ := h.blk
  refine (text_is g s at_ most v w ⟨hb, h.le, h.small, hm⟩).mono fun e w' hp => ?_
  rcases hp with ⟨c, h1, h2, h3, n, rfl⟩ | ⟨t, at', h1, h2, h3, n, rfl⟩
  · exact ⟨at_, h.drewN n, (RdStep.refl _ _ _ _).drewN n, .inl ⟨c, h1, h2, h3⟩⟩
  · exact ⟨at', (h.move h2).drewN n, ((RdStep.refl _ _ _ _).move h.base at').drewN n, .inr ⟨t, h1, h3⟩⟩
theorem longest_snoc (l : List (List UInt8)) (t : List UInt8) : longest (l ++ [t]) = max (longest l) t.length := by
  induction l with
  | nil => simp [longest]
  | cons a l ih => rw [List.cons_append, longest, ih, longest]; omega
def bys (zs : List ByteArray) : List (List UInt8) := zs.map fun z => z.data.toList
end Go.Proofs.YtncokgdfkbgflaaDoor

namespace Go.Proofs.YtncokgdfkbgflaaDoor
open Go.RowKit Go.Shelf Go.Lib Go.Proofs.YtncokgdfkbgflaaDoorW.PrintWords Go.Proofs.YtncokgdfkbgflaaDoorW.PrintMore
set_option linter.unusedVariables false
set_option linter.unusedSimpArgs false
theorem longest_take (zs : List ByteArray) (i : Nat) (z : ByteArray) (h : zs[i]? = some z) : longest (bys (zs.take (i + 1))) = max (longest (bys (zs.take i))) z.size := by
  rw [List.take_add_one, h]
  show longest (bys (zs.take i ++ [z])) = _
  rw [bys, List.map_append]
  exact longest_snoc _ _
theorem longest_mem (l : List (List UInt8)) (h : 1 ≤ l.length) : ∃ t, t ∈ l ∧ t.length = longest l := by
  induction l with
  | nil => simp at h
  | cons a l ih =>
    rw [longest]
    by_cases hl : 1 ≤ l.length
    · obtain ⟨t, ht, he⟩ := ih hl
      rcases Nat.le_total a.length (longest l) with h2 | h2
      · exact ⟨t, List.mem_cons_of_mem _ ht, by omega⟩
      · exact ⟨a, List.mem_cons_self .., by omega⟩
    · obtain rfl : l = [] := List.length_eq_zero_iff.1 (by omega)
      exact ⟨a, List.mem_cons_self .., by simp [longest]⟩
theorem contains_bys (zs : List ByteArray) (t : List UInt8) : Lib.containsS zs (bsB t) = (bys zs).contains t := by
  apply Bool.eq_iff_iff.2
  rw [Lib.containsS_iff, List.contains_iff_mem, bys, List.mem_map]
  constructor
  · exact fun h => ⟨_, h, rfl⟩
  · rintro ⟨z, hz, rfl⟩
    exact hz
set_option maxHeartbeats 4000000 in
set_option maxRecDepth 100000 in
theorem one_rd (B g : Nat) (s : ByteArray) (at_ : Nat) (l : List Nd) (w : World) (h : RdAt B g s at_ l w) (b c : Nat) (zs : List ByteArray) (hb : w.heap[b]? = some (.cells (zs.map Value.string).toArray 9 (0, 0))) (hn : 1 ≤ zs.length) (hn2 : zs.length ≤ 1000) (hz : ∀ z ∈ zs, z.size ≤ 4096) :
    Calls Tryd.prog 61 #[.pointer (some ⟨g, 0, none⟩), .slice (some ⟨b, 0, none⟩) zs.length c] w (RdS B g s l w (oneP (bys zs) (restB s at_)) (fun t => .tuple #[.string (bsB t), .int .i64 0]) (fun c => .tuple #[.string ⟨#[]⟩, .int .i64 c])) := by
  have HB := Aside0.mk hb
  have HR := Aside0.mk h
  have HZ := Aside0.mk hz
  clear hb h hz
  go_enter Tryd.func61, Tryd.ntmps61
  go_wp2
  go_loopg [6, 8, 13] zs.length (fun g v6 _ v13 wx => ∃ i : Nat, i + g = zs.length ∧ v13 = .int .i64 i ∧ v6 = .int .i64 ((longest (bys (zs.take i)) : Nat) : Int) ∧ wx = w)
  case atStart => exact ⟨0, by omega, rfl, rfl, rfl⟩
  case round =>
    obtain ⟨i, hig, rfl, rfl, rfl⟩ := hrel
    cases gk with
    | zero =>
      obtain rfl : i = zs.length := by omega
      rw [List.take_length]
      have e1 : decide ((zs.length : Int) < (zs.length : Int)) = false := decide_eq_false (by omega)
      go_wp2_with (go_at_call 84; refine (text_rd B g s at_ _ l _ ?hr ?hm).mono ?_)
      case hr => exact HR.out
      case hm =>
        have : longest (bys zs) ≤ 4096 := by
          obtain ⟨t, ht, he⟩ := longest_mem (bys zs) (by simp [bys]; omega)
          rw [← he]
          obtain ⟨z, hz, rfl⟩ := List.mem_map.1 ht
          exact HZ.out z hz
        omega
      rintro e w1 ⟨at1, hr1, hst1, ⟨cc, hx, hc, rfl⟩ | ⟨t, hx, rfl⟩⟩
      · have u1 : (cc == 0) = false := beq_eq_false_iff_ne.2 hc
        have u2 : decide (cc = 0) = false := decide_eq_false hc
        have HX := Aside0.mk hx
        clear hx
        have HR1 := Aside0.mk hr1
        have HST := Aside0.mk hst1
        clear hr1 hst1
        go_wp2
        go_ret2
        have hone : oneP (bys zs) (restB s at_) = .error cc := by rw [oneP, HX.out]; rfl
        first
          | exact ⟨at1, HR1.out, HST.out, .inl ⟨cc, hone, hc, rfl⟩⟩
          | exact ⟨at1, HR1.out.drew, HST.out.drew, .inl ⟨cc, hone, hc, rfl⟩⟩
      · have HX := Aside0.mk hx
        clear hx
        have hb1 : w1.heap[b]? = some (.cells (zs.map Value.string).toArray 9 (0, 0)) := by
          obtain ⟨v, hv, _⟩ := HR.out.blk
          exact hst1.all HB.out (blk_ne HB.out hv (by decide))
        have HB1 := Aside0.mk hb1
        have HST := Aside0.mk hst1
        have HR1 := Aside0.mk hr1
        clear hb1 hst1 hr1
        have hcont : ∀ w2 : World, w2.heap = w1.heap → Calls Tryd.prog 85 #[.slice (some ⟨b, 0, none⟩) zs.length c, .string (bsB t)] w2 fun e w' => e = .returned (.bool ((bys zs).contains t)) ∧ w' = w2 := by
          intro w2 hw2
          have hb2 : w2.heap[b]? = some (.cells (zs.map Value.string).toArray 9 (0, 0)) := by rw [hw2]; exact HB1.out
          have := Tryd.slices_Contains_string b 0 zs.length c zs (bsB t) w2 (Nat.le_refl _) (by omega) (fun j hj => by
            rw [blk_cell hb2]
            simp [List.getD_eq_getElem?_getD, hj])
          rw [List.take_length, contains_bys] at this
          exact this
        have HCT := Aside0.mk hcont
        clear hcont
        obtain ⟨k, hk⟩ : ∃ k, k = (bys zs).contains t := ⟨_, rfl⟩
        rw [← hk] at HCT
        have HK := Aside0.mk hk
        clear hk
        cases k with
        | false =>
          go_wp2_with (go_at_call 85; refine (HCT.out _ rfl).mono ?_; rintro _ _ ⟨rfl, rfl⟩)
          go_ret2
          have hone : oneP (bys zs) (restB s at_) = .error 4 := by
            rw [oneP, HX.out, Rd.then_ok, if_neg (by rw [← HK.out]; decide)]
          first
            | exact ⟨at1, HR1.out, HST.out, .inl ⟨4, hone, by decide, rfl⟩⟩
            | exact ⟨at1, HR1.out.drew, HST.out.drew, .inl ⟨4, hone, by decide, rfl⟩⟩
        | true =>
          go_wp2_with (go_at_call 85; refine (HCT.out _ rfl).mono ?_; rintro _ _ ⟨rfl, rfl⟩)
          go_ret2
          have hone : oneP (bys zs) (restB s at_) = .ok (t, restB s at1) := by
            rw [oneP, HX.out, Rd.then_ok, if_pos HK.out.symm]
          first
            | exact ⟨at1, HR1.out, HST.out, .inr ⟨t, hone, rfl⟩⟩
            | exact ⟨at1, HR1.out.drew, HST.out.drew, .inr ⟨t, hone, rfl⟩⟩
    | succ gk =>
      have hi : i < zs.length := by omega
      obtain ⟨x, hx⟩ : ∃ x, zs[i]? = some x := ⟨_, List.getElem?_eq_getElem hi⟩
      have e1 : decide ((i : Int) < (zs.length : Int)) = true := decide_eq_true (by omega)
      have c1 : wr.cell? ⟨b, i, none⟩ = some (.string x) := by rw [blk_cell HB.out]; simp [hx]
      have hm := longest_take zs i x hx
      have HX := Aside0.mk hx
      clear hx
      go_wp2
      go_roundg gk
      case measure => omega
      case rel => exact ⟨i + 1, by omega, by simp, by rw [hm]; congr 1; omega, rfl⟩
end Go.Proofs.YtncokgdfkbgflaaDoor

namespace Go.Proofs.YtncokgdfkbgflaaDoor
open Go.RowKit Go.Shelf Go.Lib Go.Proofs.YtncokgdfkbgflaaDoorW.PrintWords Go.Proofs.YtncokgdfkbgflaaDoorW.PrintMore
attribute [local go_sem] Oper.semAt_some
set_option linter.unusedVariables false
set_option linter.unusedSimpArgs false
theorem must_here (zs : List ByteArray) (i : Nat) (x : ByteArray) (h : zs[i]? = some x) (r : List UInt8) : mustP (bys (zs.drop i)) r = (oneP (bys [x]) r).then fun _ r => mustP (bys (zs.drop (i + 1))) r := by
  have hi : i < zs.length := by
    rcases Nat.lt_or_ge i zs.length with h2 | h2
    · exact h2
    · rw [List.getElem?_eq_none h2] at h; cases h
  rw [List.drop_eq_getElem_cons hi]
  rw [List.getElem?_eq_getElem hi] at h
  cases h
  rfl
set_option maxRecDepth 100000 in
set_option maxHeartbeats 8000000 in
theorem all1_in (n : Nat) (hn : 1 ≤ n) (yl B g bl br b c at_ : Nat) (s : ByteArray) (l : List Nd) (zs : List ByteArray) (W : World)
    (hR : RdAt B g s at_ l W) (hl : W.heap[bl]? = some (.cells #[.slice (some ⟨b, 0, none⟩) zs.length c] 34 (0, 0))) (hr : W.heap[br]? = some (.cells #[.pointer (some ⟨g, 0, none⟩)] 69 (0, 0)))
    (hb : W.heap[b]? = some (.cells (zs.map Value.string).toArray 9 (0, 0))) (hz : ∀ z ∈ zs, z.size ≤ 4096) (hN : zs.length ≤ 1000) (hB : B ≤ W.heap.size) (Jx : Int → World → Prop)
    (hY : ∀ W1 c at', RdAt B g s at' l W1 → RdStep none B g W W1 → c ≠ 0 → YieldAt Fence.wide (n - 1) Tryd.prog yl #[.int .i64 c] W1 fun e W' => e = .returned (.bool false) ∧ Jx c W') :
    CallsIn Fence.wide n Tryd.prog 83 #[.func (.yield yl) #[] #[], .pointer (some ⟨bl, 0, none⟩), .pointer (some ⟨br, 0, none⟩)] W fun e W' => (∃ v, e = .returned v) ∧
      ((∃ at', mustP (bys zs) (restB s at_) = .ok ((), restB s at') ∧ RdAt B g s at' l W' ∧ RdStep none B g W W') ∨ (∃ c, mustP (bys zs) (restB s at_) = .error c ∧ c ≠ 0 ∧ Jx c W')) := by
  have HY := Aside0.mk hY
  have HR := Aside0.mk hR
  have HZ := Aside0.mk hz
  have HBB := Aside0.mk hB
  have hg : ∃ v, W.heap[g]? = some (.cells #[.string s, .int .i64 at_, v] 71 (0, 0)) := by obtain ⟨v, h1, _⟩ := hR.blk; exact ⟨v, h1⟩
  have hne : bl ≠ g ∧ br ≠ g ∧ b ≠ g := by obtain ⟨v, h1⟩ := hg; exact ⟨blk_ne hl h1 (by decide), blk_ne hr h1 (by decide), blk_ne hb h1 (by decide)⟩
  have HNE := Aside0.mk hne
  have HL := Aside0.mk hl
  have HRR := Aside0.mk hr
  have HB := Aside0.mk hb
  have e1 : W.cell? ⟨bl, 0, none⟩ = some (.slice (some ⟨b, 0, none⟩) zs.length c) := by rw [blk_cell hl]; rfl
  have hmix : Tryd.prog.follows .mixedOrders = true := by kernel_rfl
  clear hY hR hz hB hg hne hl hr hb
  refine callsIn_of_wp Tryd.func83 rfl trivial ?_ rfl
  simp only [Tryd.ntmps83, List.size_toArray, List.length_cons, List.length_nil, Nat.reduceAdd, Nat.reduceSub, Array.replicate_succ, Array.replicate_zero, List.push_toArray, List.append_toArray, List.nil_append, List.cons_append]
  gi_wp2
  gi_loopw [10] (fun v10 wr => ∃ (i at' : Nat), i ≤ zs.length ∧ v10 = .int .i64 (i : Int) ∧ Aside0 (RdAt B g s at' l wr) ∧ Aside0 (RdStep none B g W wr) ∧ Aside0 (mustP (bys zs) (restB s at_) = mustP (bys (zs.drop i)) (restB s at')))
    (fun v10 _ => zs.length - (intOf v10).toNat)
  case atStart =>
    exact ⟨0, at_, by omega, by go_num, HR, ⟨RdStep.refl _ _ _ _⟩, ⟨rfl⟩⟩
  case round =>
    obtain ⟨i, at1, hi1, rfl, HRt, HSt, HM⟩ := hrel
    have e2 : wr.cell? ⟨br, 0, none⟩ = some (.pointer (some ⟨g, 0, none⟩)) := by rw [blk_cell (HSt.out.all HRR.out HNE.out.2.1)]; rfl
    by_cases hlt : i < zs.length
    · have hd : decide ((i : Int) < (zs.length : Int)) = true := decide_eq_true (by omega)
      obtain ⟨x, hx⟩ : ∃ x, zs[i]? = some x := ⟨_, List.getElem?_eq_getElem hlt⟩
      have e3 : wr.cell? ⟨b, i, none⟩ = some (.string x) := by rw [blk_cell (HSt.out.all HB.out HNE.out.2.2)]; simp [hx]
      have hsz := HZ.out x (List.mem_of_getElem? hx)
      have HX := Aside0.mk hx
      clear hx
      have hBw : B ≤ wr.heap.size := Nat.le_trans HBB.out HSt.out.below.size
      have h1 := fun c => one_rd B g s at1 l (wr.alloc (.cells #[.string x] 9)) (HRt.out.alloc _) wr.heap.size c [x] (blk_new wr _) (by simp) (by simp) (fun z hz => by obtain rfl := List.mem_singleton.1 hz; exact hsz)
      have H1 := Aside0.mk h1
      clear h1
      gi_wp2_with (refine ⟨trivial, ?_⟩; gi_at_call 61; refine (callsIn_wide.2 (H1.out _)).mono ?_)
      rintro e w1 ⟨at2, hr1, hst1, ⟨cc, hx, hc, rfl⟩ | ⟨t, hx, rfl⟩⟩
      · have hst2 : RdStep none B g W w1 := (HSt.out.alloc hBw _).trans hst1
        have u1 : (cc == 0) = false := beq_eq_false_iff_ne.2 hc
        have u2 : decide (cc = 0) = false := decide_eq_false hc
        obtain ⟨fn, tmps, assign, body, hy, hRd⟩ := HY.out w1 cc at2 hr1 hst2 hc
        have hmu : mustP (bys zs) (restB s at_) = .error cc := by rw [HM.out, must_here zs i x HX.out, hx]; rfl
        have HMU := Aside0.mk hmu
        have HC := Aside0.mk hc
        clear hx hr1 hst1 hst2 hmu hc
        gi_wp2
        refine hRd.mono ?_
        rintro e W3 ⟨rfl, hJx3⟩
        have HJ3 := Aside0.mk hJx3
        clear hJx3
        gi_wp2
        refine bodyPost_ret (results_none rfl _ _ _) rfl ?_
        exact ⟨⟨_, rfl⟩, .inr ⟨cc, HMU.out, HC.out, HJ3.out⟩⟩
      · have hst2 : Aside0 (RdStep none B g W w1) := ⟨(HSt.out.alloc hBw _).trans hst1⟩
        have hmu : Aside0 (mustP (bys zs) (restB s at_) = mustP (bys (zs.drop (i + 1))) (restB s at2)) := ⟨by rw [HM.out, must_here zs i x HX.out, hx]; rfl⟩
        have HR1 := Aside0.mk hr1
        clear hx hr1 hst1
        gi_wp2
        go_roundw
        case rel => exact ⟨i + 1, at2, by omega, by go_num, HR1, hst2, hmu⟩
        case measure => simp [intOf]; omega
    · have hd : decide ((i : Int) < (zs.length : Int)) = false := decide_eq_false (by omega)
      gi_wp2
      go_end0
      refine ⟨⟨_, rfl⟩, .inl ⟨at1, ?_, HRt.out, HSt.out⟩⟩
      rw [HM.out, List.drop_eq_nil_of_le (by omega)]
      rfl
end Go.Proofs.YtncokgdfkbgflaaDoor

namespace Go.Proofs.YtncokgdfkbgflaaDoor
open Go.RowKit Go.Shelf Go.Lib Go.Proofs.YtncokgdfkbgflaaDoorW.PrintWords Go.Proofs.YtncokgdfkbgflaaDoorW.PrintMore
attribute [local go_sem] Oper.semAt_some
set_option linter.unusedVariables false
set_option linter.unusedSimpArgs false
set_option maxRecDepth 100000 in
set_option maxHeartbeats 4000000 in
theorem all_calls (g b n c : Nat) (W : World) :
    Calls Tryd.prog 60 #[.pointer (some ⟨g, 0, none⟩), .slice (some ⟨b, 0, none⟩) n c] W fun e w' => e = .returned (.func (.func 83) #[] #[.pointer (some ⟨W.heap.size + 1, 0, none⟩), .pointer (some ⟨W.heap.size, 0, none⟩)]) ∧
      w' = (W.alloc (.cells #[.pointer (some ⟨g, 0, none⟩)] 69)).alloc (.cells #[.slice (some ⟨b, 0, none⟩) n c] 34) := by
  go_enter Tryd.func60, Tryd.ntmps60
  go_wp2
  go_ret
  exact ⟨rfl, rfl⟩
theorem wpIn_rangeOnce {F : Fence} {n : Nat} {P : Program} {α : Type} {gv : Operand} {ps : Array Tmp} {assign body : Code} {Q : Exit → Act → World → Prop} {a : Act} {w : World}
    (hro : F.round = none) (h1 : 1 ≤ n) {gf : Nat} {lb : Array Value} (hg : a.eval gv = .func (.func gf) #[] lb) (hFg : F.fn gf) (eg : ∀ args w, (callFunc gf args).run P w = .ok (.enter gf args) w)
    (enc : α → Array Value) (hps : ∀ x, (enc x).size = ps.size) (Pre : World → World → α → Prop) (Done : World → World → Prop) (Bad : α → Prop)
    (hseq : ∀ (l : Nat) (Jx : α → World → Prop) (W : World), Below w.heap.size w W →
      (∀ W1 x, Pre W W1 x → YieldAt F (n - 1 - 1) P l (enc x) W1 fun e W' => e = .returned (.bool false) ∧ Jx x W') →
      CallsIn F (n - 1) P gf (#[.func (.yield l) #[] #[]] ++ lb) W fun e W' => (∃ v, e = .returned v) ∧ (Done W W' ∨ ∃ x, Bad x ∧ Jx x W'))
    (hPre : ∀ W W1 x (k : Nat) (o : Obj), Below w.heap.size w W → Pre W W1 x → W.heap[k]? = some o → o.isCells = false → W1.heap[k]? = some o)
    (hDone : ∀ W W1 (k : Nat) (o : Obj), Below w.heap.size w W → Done W W1 → W.heap[k]? = some o → o.isCells = false → W1.heap[k]? = some o)
    (a₁ : α → Act)
    (hassign : ∀ (l : Nat) (x : α) (W : World) (K : Act → World → Prop), K (a₁ x) W →
      assign.wpIn (F.inRound l) (n - 1 - 1) P (Exit.then K (fun _ _ _ => False)) { tmps := (ps.zip (enc x)).foldl (fun t (p, v) => t.setIfInBounds p v) a.tmps, defers := [] } W)
    (Ix : World → α → World → Prop)
    (hbody : ∀ (l : Nat) (x : α) (W W1 : World) (o : Obj), Below w.heap.size w W → W.heap.size = w.heap.size + 2 → Pre W W1 x → w.heap.size ≤ l → l < W.heap.size → (∃ o0 : Obj, W1.heap[l]? = some o0 ∧ o0.isCells = false) → o.isCells = false →
      body.wpIn (F.inRound l) (n - 1 - 1) P (fun e _ W' => e = .ret ∧ KeepsFrom w.heap.size (W1.putObj l o) W' ∧ ∀ o', Ix W x (W'.putObj l o')) (a₁ x) (W1.putObj l o))
    (hIx : ∀ W x W' (k : Nat) (o : Obj), Below w.heap.size w W → Ix W x W' → w.heap.size ≤ k → k < W.heap.size → (∃ o0 : Obj, W'.heap[k]? = some o0 ∧ o0.isCells = false) → Ix W x (W'.putObj k o))
    (hdone : ∀ (D l : Nat) (W W' : World) (o : Obj), Below w.heap.size w W → w.heap.size ≤ l → l < W.heap.size → w.heap.size ≤ D → D < W.heap.size → Done W W' → (∃ o0 : Obj, W'.heap[l]? = some o0 ∧ o0.isCells = false) → (W'.putObj l o).heap[D]? = some (.deferred (some [])) → Q .normal { a with defers := { target := .collected D, args := #[] } :: a.defers } (W'.putObj l o))
    (hstop : ∀ (D : Nat) (x : α) (W W' : World), Below w.heap.size w W → w.heap.size ≤ D → D < W.heap.size → Bad x → Ix W x W' → W'.heap[D]? = some (.deferred (some [])) → (Code.ret).wpIn F n P Q { a with defers := { target := .collected D, args := #[] } :: a.defers } W') :
    (Code.rangeFunc gv ps assign body).wpIn F n P Q a w := by
  refine wpIn_rangeFunc ?_
  intro fn hfn
  rw [hro]
  obtain ⟨rec, hrec⟩ : ∃ rec : LoopState → Option Code → Loop, rec = fun st pe => { state := st, pending := pe, fn, tmps := a.tmps, params := ps, assign, body, defers := w.heap.size } := ⟨_, rfl⟩
  obtain ⟨W1, hW1⟩ : ∃ W1, (w.alloc (.deferred (some []))).alloc (.loop (rec .ready none)) = W1 := ⟨_, rfl⟩
  have hsz : W1.heap.size = w.heap.size + 2 := by rw [← hW1]; simp
  have hL : W1.heap[w.heap.size + 1]? = some (.loop (rec .ready none)) := by
    rw [← hW1]; have := World.alloc_heap_new (w.alloc (.deferred (some []))) (.loop (rec .ready none)); rwa [World.size_alloc] at this
  have hD : W1.heap[w.heap.size]? = some (.deferred (some [])) := by
    rw [← hW1]; exact (Below.heap_alloc _ _ _ (by simp)).trans (World.alloc_heap_new w _)
  have hbW : Below w.heap.size w W1 := by rw [← hW1]; exact ((Below.refl _ w).alloc (Nat.le_refl _) _).alloc (by simp) _
  refine ⟨w.heap.size + 1, [{ target := .collected w.heap.size, args := #[] }], W1, { target := .fn (.func gf) lb, args := #[.func (.yield (w.heap.size + 1)) #[] #[]] }, W1, gf,
    #[.func (.yield (w.heap.size + 1)) #[] #[]] ++ lb, W1, ?_, ?_, ?_, ?_, fun _ => h1, ?_⟩
  · rw [← hW1, hrec]; exact run_enterLoop_outer _ _ _ _ _
  · simp only [resolve, hg]
    simp [go_sem]
  · intro f' hf'; simp [Target.leads] at hf'; subst hf'; exact hFg
  · simp [invoke, go_sem, eg]
  · refine (hseq (w.heap.size + 1) (fun x W => Ix W1 x W ∧ W.heap[w.heap.size + 1]? = some (.loop (rec .done (some .ret))) ∧ W.heap[w.heap.size]? = some (.deferred (some []))) W1 hbW ?_).mono ?_
    · intro V x hp
      have hl := hPre _ _ _ _ _ hbW hp hL rfl
      have hd := hPre _ _ _ _ _ hbW hp hD rfl
      have hlt := blk_lt hl
      have hy := run_yield (P := P) (args := enc x) hl (by rw [hrec]; exact hps x)
      rw [hrec] at hy
      refine ⟨fn, _, assign, body, hy, roundIn_of_wpIn hfn (hassign _ x V _ ⟨_, run_beginRound hl (by rw [hrec]), ?_⟩)⟩
      refine wpIn_mono (hbody (w.heap.size + 1) x W1 V _ hbW hsz hp (by omega) (by omega) ⟨_, hl, rfl⟩ rfl) ?_
      rintro e a3 W3 ⟨rfl, hk3, hi3⟩
      have hl3 := hk3.same _ _ (by omega) (World.putObj_heap_same hlt) rfl
      have hd3 := hk3.same _ _ (Nat.le_refl _) ((World.putObj_heap_other (by omega)).trans hd) rfl
      have hr := run_endRound (P := P) (some .ret) hl3
      refine ⟨_, _, hr, rfl, hi3 _, ?_, (World.putObj_heap_other (by omega)).trans hd3⟩
      rw [hrec]
      exact World.putObj_heap_same (blk_lt hl3)
    · rintro e W2 ⟨⟨v, rfl⟩, (hdn | ⟨x, hbad, hix, hl, hd⟩)⟩
      · have hl := hDone _ _ _ _ hbW hdn hL rfl
        have hd := hDone _ _ _ _ hbW hdn hD rfl
        exact ⟨none, _, by have := run_endLoop (P := P) hl (by rw [hrec]; simp); rw [hrec] at this; exact this, hdone _ _ W1 _ _ hbW (by omega) (by omega) (Nat.le_refl _) (by omega) hdn ⟨_, hl, rfl⟩ ((World.putObj_heap_other (by omega)).trans hd)⟩
      · exact ⟨some .ret, _, by have := run_endLoop (P := P) hl (by rw [hrec]; simp); rw [hrec] at this; exact this, hstop _ x W1 _ hbW (Nat.le_refl _) (by omega) hbad (hIx _ _ _ _ _ hbW hix (by omega) (by omega) ⟨_, hl, rfl⟩) ((World.putObj_heap_other (by omega)).trans hd)⟩
end Go.Proofs.YtncokgdfkbgflaaDoor

namespace Go.Proofs.YtncokgdfkbgflaaDoor
open Go.RowKit Go.Shelf Go.Lib Go.Proofs.YtncokgdfkbgflaaDoorW.PrintWords Go.Proofs.YtncokgdfkbgflaaDoorW.PrintMore
attribute [local go_sem] Oper.semAt_some
set_option linter.unusedVariables false
set_option linter.unusedSimpArgs false
theorem results_cell_int {fn : Func} {p : Tmp} (h : fn.results = #[.cell p 24]) (tmps : Array Value) (w : World) (b : Nat) (c : Int) (hp : tmps.getD p undef = .pointer (some ⟨b, 0, none⟩)) (hb : w.heap[b]? = some (.cells #[.int .i64 c] 24 (0, 0))) :
    (results fn tmps).run Tryd.prog w = .ok (.int .i64 c) w := by
  have c0 : w.cell? ⟨b, 0, none⟩ = some (.int .i64 c) := by rw [blk_cell hb]; rfl
  have hu := Tryd.underlying24
  rw [Array.getD_eq_getD_getElem?] at hp
  simp only [results, h]
  simp [Sem.run_bind, Result.andThen, hp, go_sem, hu, c0]
def MuPre (B g : Nat) (s : ByteArray) (l : List Nd) (W W1 : World) (c : Int) : Prop := ∃ at', RdAt B g s at' l W1 ∧ RdStep none B g W W1 ∧ c ≠ 0
def MuDone (B g : Nat) (s : ByteArray) (l : List Nd) (x : Rd Unit) (W W1 : World) : Prop := ∃ at', x = .ok ((), restB s at') ∧ RdAt B g s at' l W1 ∧ RdStep none B g W W1
theorem RdAt.put {B g at_ k : Nat} {s : ByteArray} {l : List Nd} {w : World} (h : RdAt B g s at_ l w) (hk : ∀ c t fz, w.heap[k]? ≠ some (Obj.cells c t fz)) (o : Obj) : RdAt B g s at_ l (w.putObj k o) := by
  refine h.cong fun j c t fz hj _ => ?_
  have hne : j ≠ k := by rintro rfl; exact hk _ _ _ hj
  exact (World.putObj_heap_other hne).trans hj
set_option maxRecDepth 100000 in
set_option maxHeartbeats 8000000 in
theorem must_rd (B g : Nat) (s : ByteArray) (at_ : Nat) (l : List Nd) (w : World) (h : RdAt B g s at_ l w) (hB : B ≤ w.heap.size) (b c : Nat) (zs : List ByteArray) (hb : w.heap[b]? = some (.cells (zs.map Value.string).toArray 9 (0, 0))) (hN : zs.length ≤ 1000) (hz : ∀ z ∈ zs, z.size ≤ 4096) :
    Calls Tryd.prog 41 #[.pointer (some ⟨g, 0, none⟩), .slice (some ⟨b, 0, none⟩) zs.length c] w (RdS B g s l w (mustP (bys zs) (restB s at_)) (fun _ => .int .i64 0) (fun c => .int .i64 c)) := by
  have hg : ∃ v, w.heap[g]? = some (.cells #[.string s, .int .i64 at_, v] 71 (0, 0)) := by obtain ⟨v, h1, _⟩ := h.blk; exact ⟨v, h1⟩
  have hgl := h.lt
  have HG := Aside0.mk hg
  have HR := Aside0.mk h
  have HB := Aside0.mk hb
  have HZ := Aside0.mk hz
  have HBB := Aside0.mk hB
  clear h hb hz hB hg
  refine (callsIn_wide (n := 3)).1 ?_
  refine callsIn_of_wp_marks Tryd.func41 rfl trivial ?_ rfl
  simp only [Tryd.ntmps41, List.size_toArray, List.length_cons, List.length_nil, Nat.reduceAdd, Nat.reduceSub, Array.replicate_succ, Array.replicate_zero, List.push_toArray, List.append_toArray, List.nil_append, List.cons_append]
  gi_wp2_with (refine ⟨trivial, ?_⟩; gi_at_call 60; refine (callsIn_wide.2 (all_calls g b zs.length c _)).mono ?_)
  rintro e w3 ⟨rfl, h3⟩
  have H3 := Aside0.mk h3
  clear h3
  gi_wp2
  have hsz : w3.heap.size = w.heap.size + 3 := by rw [H3.out]; simp
  have hw3 : RdStep none B g w w3 := by
    rw [H3.out]
    exact (((RdStep.refl none B g w).alloc HBB.out _).alloc (by have := HBB.out; simp; omega) _).alloc (by have := HBB.out; simp; omega) _
  have hR3 : RdAt B g s at_ l w3 := by rw [H3.out]; exact ((HR.out.alloc _).alloc _).alloc _
  have f4 : w3.heap[w.heap.size]? = some (.cells #[.int .i64 0] 24 (0, 0)) := by rw [H3.out]; exact blk_alloc (blk_alloc (blk_new w _) _) _
  have fr : w3.heap[w.heap.size + 1]? = some (.cells #[.pointer (some ⟨g, 0, none⟩)] 69 (0, 0)) := by
    rw [H3.out]
    have := blk_new (w.alloc (.cells #[.int .i64 0] 24)) (.cells #[.pointer (some ⟨g, 0, none⟩)] 69)
    rw [World.size_alloc] at this
    exact blk_alloc this _
  have fl : w3.heap[w.heap.size + 1 + 1]? = some (.cells #[.slice (some ⟨b, 0, none⟩) zs.length c] 34 (0, 0)) := by
    rw [H3.out]
    have := blk_new ((w.alloc (.cells #[.int .i64 0] 24)).alloc (.cells #[.pointer (some ⟨g, 0, none⟩)] 69)) (.cells #[.slice (some ⟨b, 0, none⟩) zs.length c] 34)
    rw [World.size_alloc, World.size_alloc] at this
    exact this
  have fb : w3.heap[b]? = some (.cells (zs.map Value.string).toArray 9 (0, 0)) := by
    rw [H3.out]; exact blk_alloc (blk_alloc (blk_alloc HB.out _) _) _
  have hg3 : ∃ v, w3.heap[g]? = some (.cells #[.string s, .int .i64 at_, v] 71 (0, 0)) := by obtain ⟨v, h1, _⟩ := hR3.blk; exact ⟨v, h1⟩
  have hB3 : B ≤ w3.heap.size := Nat.le_trans HBB.out hw3.below.size
  have hgne : w.heap.size ≠ g := by omega
  have hkeep : ∀ W W1 (k : Nat) (o : Obj), Below w3.heap.size w3 W → RdStep none B g W W1 → W.heap[k]? = some o → o.isCells = false → W1.heap[k]? = some o := by
    intro W W1 k o hbw hst hk ho
    refine hst.all hk ?_
    rintro rfl
    obtain ⟨v, hv⟩ := hg3
    have := blk_below hv hbw
    rw [hk] at this
    cases this
    simp [Obj.isCells] at ho
  have hstep : ∀ W W1, Below w3.heap.size w3 W → RdStep none B g W W1 → RdStep none B g w W1 := fun W W1 hbw hst =>
    ⟨(hw3.below.trans (hbw.mono hB3)).trans hst.below, fun k o hk hne _ => hst.all (blk_below (hw3.all hk hne) hbw) hne, fun _ s' a' v' hv => by
      obtain ⟨a1, h1⟩ := hw3.third rfl s' a' v' hv
      exact hst.third rfl s' a1 v' (blk_below h1 hbw)⟩
  have hf4 : ∀ W W1, Below w3.heap.size w3 W → RdStep none B g W W1 → W1.heap[w.heap.size]? = some (.cells #[.int .i64 0] 24 (0, 0)) := fun W W1 hbw hst => hst.all (blk_below f4 hbw) hgne
  refine wpIn_rangeOnce (α := Int) rfl (by decide) (gf := 83) (lb := #[.pointer (some ⟨w.heap.size + 1 + 1, 0, none⟩), .pointer (some ⟨w.heap.size + 1, 0, none⟩)]) rfl trivial (enters_of Tryd.func83 (by kernel_rfl) rfl)
    (fun c => #[.int .i64 c]) (fun _ => rfl) (MuPre B g s l) (MuDone B g s l (mustP (bys zs) (restB s at_))) (fun c => mustP (bys zs) (restB s at_) = .error c ∧ c ≠ 0) ?seq ?pre ?done (fun c' => { tmps := #[Value.pointer (some { block := g, off := 0 }), Value.slice (some { block := b, off := 0 }) zs.length c, undef, undef, Value.pointer (some { block := w.heap.size, off := 0 }), .int .i64 c', Value.pointer (some { block := g, off := 0 }), Value.slice (some { block := b, off := 0 }) zs.length c, Value.func (Fn.func 83) #[] #[Value.pointer (some { block := w.heap.size + 1 + 1, off := 0 }), Value.pointer (some { block := w.heap.size + 1, off := 0 })], .int .i64 c', undef], defers := [] }) ?assign
    (fun W c V => ∃ at', RdAt B g s at' l V ∧ RdStep none B g w V ∧ V.heap[w.heap.size]? = some (.cells #[.int .i64 c] 24 (0, 0))) ?body ?ix ?dn ?stop
  case seq =>
    intro yl Jx W hbw hY
    refine (all1_in 2 (by decide) yl B g (w.heap.size + 1 + 1) (w.heap.size + 1) b c at_ s l zs W ?_ (blk_below fl hbw) (blk_below fr hbw) (blk_below fb hbw) HZ.out hN (Nat.le_trans hB3 hbw.size) Jx ?_).mono ?_
    · exact hR3.cong fun k cc t fz hk _ => blk_below hk hbw
    · intro W1 cc at' h1 h2 h3
      exact hY W1 cc ⟨at', h1, h2, h3⟩
    · rintro e W' ⟨hv, ⟨at', h1, h2, h3⟩ | ⟨cc, h1, h2, h3⟩⟩
      · exact ⟨hv, .inl ⟨at', h1, h2, h3⟩⟩
      · exact ⟨hv, .inr ⟨cc, ⟨h1, h2⟩, h3⟩⟩
  case pre => exact fun W W1 x k o hbw ⟨at', _, hst, _⟩ hk ho => hkeep W W1 k o hbw hst hk ho
  case done => exact fun W W1 k o hbw ⟨at', _, _, hst⟩ hk ho => hkeep W W1 k o hbw hst hk ho
  case assign =>
    intro yl x V K hK
    gi_wp2
    exact hK
  case ix =>
    rintro W x V k o hbw ⟨at', h1, h2, h3⟩ hk1 hk2 ⟨o0, h4, h5⟩
    refine ⟨at', h1.put (fun cc t fz e => by rw [h4] at e; cases e; simp [Obj.isCells] at h5) o, h2.put HBB.out (by omega) (blk_lt h4) o, (World.putObj_heap_other (by omega)).trans h3⟩
  case body =>
    rintro yl x W W1 o hbw hW ⟨at', h1, h2, h3⟩ hl1 hl2 ⟨o0, h4, h5⟩ ho
    have hr1 := h1.put (fun cc t fz e => by rw [h4] at e; cases e; simp [Obj.isCells] at h5) o
    have hst1 := (hstep W W1 hbw h2).put HBB.out (show w.heap.size ≤ yl by omega) (blk_lt h4) o
    have hc1 : (W1.putObj yl o).heap[w.heap.size]? = some (.cells #[.int .i64 0] 24 (0, 0)) := (World.putObj_heap_other (by omega)).trans (hf4 W W1 hbw h2)
    have hyl : (W1.putObj yl o).heap[yl]? = some o := World.putObj_heap_same (blk_lt h4)
    obtain ⟨V, hV⟩ : ∃ V, V = W1.putObj yl o := ⟨_, rfl⟩
    rw [← hV] at hr1 hst1 hc1 hyl ⊢
    have cc0 : V.cell? ⟨w.heap.size, 0, none⟩ = some (.int .i64 0) := by rw [blk_cell hc1]; rfl
    have cfz := blk_frozen hc1 0
    have A1 := Aside0.mk hr1
    have A2 := Aside0.mk hst1
    have A3 := Aside0.mk hc1
    have A4 := Aside0.mk hyl
    have A5 := Aside0.mk ho
    clear hr1 hst1 hc1 hyl hkeep hstep hf4 hV h1 h2 h4 h5 ho
    gi_wp2
    have h7 : (V.setCell ⟨w.heap.size, 0, none⟩ (.int .i64 x)).heap[yl]? = some o := (Below.heap_setCell V ⟨w.heap.size, 0, none⟩ (.int .i64 x) yl (by show yl ≠ w.heap.size; omega)).trans A4.out
    refine ⟨KeepsFrom.of_grownBy (grownBy_setCell' V _ _) (fun j e => by cases e; omega), fun o' => ⟨⟨at', ?_⟩, ?_, ?_⟩⟩
    · exact (A1.out.other A3.out (by decide) (by decide) _).put (fun cc t fz e => by rw [h7] at e; cases e; have := A5.out; simp [Obj.isCells] at this) o'
    · exact (A2.out.setOwn HBB.out (Nat.le_refl _) _).put HBB.out (by omega) (blk_lt h7) o'
    · exact (World.putObj_heap_other (by omega)).trans (blk_put A3.out 0 _ rfl)
  case dn =>
    rintro D yl W W1 o hbw hl1 hl2 hD1 hD2 ⟨at', hx, h1, h2⟩ ⟨o0, h4, h5⟩ hDf
    have hr1 := h1.put (fun cc t fz e => by rw [h4] at e; cases e; simp [Obj.isCells] at h5) o
    have hst1 := (hstep W W1 hbw h2).put HBB.out (show w.heap.size ≤ yl by omega) (blk_lt h4) o
    have hc1 : (W1.putObj yl o).heap[w.heap.size]? = some (.cells #[.int .i64 0] 24 (0, 0)) := (World.putObj_heap_other (by omega)).trans (hf4 W W1 hbw h2)
    obtain ⟨V, hV⟩ : ∃ V, V = W1.putObj yl o := ⟨_, rfl⟩
    rw [← hV] at hr1 hst1 hc1 hDf ⊢
    have cc0 : V.cell? ⟨w.heap.size, 0, none⟩ = some (.int .i64 0) := by rw [blk_cell hc1]; rfl
    have cfz := blk_frozen hc1 0
    have A1 := Aside0.mk hr1
    have A2 := Aside0.mk hst1
    have A3 := Aside0.mk hc1
    have A4 := Aside0.mk hDf
    have A5 := Aside0.mk hx
    clear hr1 hst1 hc1 hkeep hstep hf4 hV h1 h2 h4 h5 hDf hx
    gi_wp2
    have h7 : (V.setCell ⟨w.heap.size, 0, none⟩ (.int .i64 0)).heap[D]? = some (.deferred (some [])) := (Below.heap_setCell V ⟨w.heap.size, 0, none⟩ (.int .i64 0) D (by show D ≠ w.heap.size; omega)).trans A4.out
    refine ⟨by simp, .inl ⟨_, _, rfl, run_takeDeferred h7, ?_⟩⟩
    refine ⟨_, results_cell_int rfl _ _ w.heap.size 0 rfl ((World.putObj_heap_other (by omega)).trans (blk_put A3.out 0 _ rfl)), at', ?_, ?_, .inr ⟨(), A5.out, rfl⟩⟩
    · exact (A1.out.other A3.out (by decide) (by decide) _).put (fun cc t fz e => by rw [h7] at e; cases e) _
    · exact (A2.out.setOwn HBB.out (Nat.le_refl _) _).put HBB.out (by omega) (blk_lt h7) _
  case stop =>
    rintro D x W V hbw hD1 hD2 ⟨hx, hc⟩ ⟨at', h1, h2, h3⟩ hDf
    have A1 := Aside0.mk h1
    have A2 := Aside0.mk h2
    have A3 := Aside0.mk h3
    have A4 := Aside0.mk hDf
    have A5 := Aside0.mk hx
    have A6 := Aside0.mk hc
    clear hkeep hstep hf4 h1 h2 h3 hDf hx hc
    gi_wp2
    refine ⟨by simp, .inl ⟨_, _, rfl, run_takeDeferred A4.out, ?_⟩⟩
    refine ⟨_, results_cell_int rfl _ _ w.heap.size x rfl ((World.putObj_heap_other (by omega)).trans A3.out), at', ?_, ?_, .inl ⟨x, A5.out, A6.out, rfl⟩⟩
    · exact A1.out.put (fun cc t fz e => by rw [A4.out] at e; cases e) _
    · exact A2.out.put HBB.out (by omega) (blk_lt A4.out) _
end Go.Proofs.YtncokgdfkbgflaaDoor

namespace Go.Proofs.YtncokgdfkbgflaaDoor
open Go.RowKit Go.Shelf Go.Lib Go.Proofs.YtncokgdfkbgflaaDoorW.PrintWords Go.Proofs.YtncokgdfkbgflaaDoorW.PrintMore
set_option linter.unusedVariables false
set_option linter.unusedSimpArgs false
theorem RdStep.belowOf {B g : Nat} {w w' : World} (h : Below w.heap.size w w') (hB : B ≤ w.heap.size) : RdStep none B g w w' :=
  ⟨h.mono hB, fun k o hk _ _ => blk_below hk h, fun _ s a v hv => ⟨a, blk_below hv h⟩⟩
theorem RdAt.belowOf {B g at_ : Nat} {s : ByteArray} {l : List Nd} {w w' : World} (hr : RdAt B g s at_ l w) (h : Below w.heap.size w w') : RdAt B g s at_ l w' := hr.cong fun _ _ _ _ hk _ => blk_below hk h
set_option maxRecDepth 100000 in
set_option maxHeartbeats 8000000 in
theorem name_rd (B g : Nat) (s : ByteArray) (at_ : Nat) (l : List Nd) (w : World) (h : RdAt B g s at_ l w) (last : List UInt8) (deep : Nat) (hl : l.length ≤ 100000) (hd : deep ≤ 100000)
    (hMay : ∀ (t : List UInt8) (w : World), t.length ≤ 255 → Calls Tryd.prog 133 #[.string (bsB t)] w fun e w' => e = .returned (.bool (mayName t)) ∧ Below w.heap.size w w') :
    Calls Tryd.prog 112 #[.pointer (some ⟨g, 0, none⟩), .string (bsB last), .int .i64 deep] w (RdS B g s l w (nameP last deep l.length (restB s at_)) (fun t => .tuple #[.string (bsB t), .int .i64 0]) (fun c => .tuple #[.string ⟨#[]⟩, .int .i64 c])) := by
  have HR := Aside0.mk h
  have HMAY := Aside0.mk hMay
  clear h hMay
  go_enter Tryd.func112, Tryd.ntmps112
  go_wp2_with (go_at_call 84; refine (text_rd B g s at_ 255 l _ HR.out (by decide)).mono ?_)
  rintro e w1 ⟨at1, hr1, hst1, ⟨cc, hx, hc, rfl⟩ | ⟨t, hx, rfl⟩⟩
  · have u1 : (cc == 0) = false := beq_eq_false_iff_ne.2 hc
    have u2 : decide (cc = 0) = false := decide_eq_false hc
    have HR1 := Aside0.mk hr1
    have HST := Aside0.mk hst1
    have HX := Aside0.mk hx
    have HC := Aside0.mk hc
    clear hr1 hst1 hx hc
    go_wp2
    go_ret2
    exact ⟨at1, HR1.out, HST.out, .inl ⟨cc, by rw [nameP, HX.out]; rfl, HC.out, rfl⟩⟩
  · have HR1 := Aside0.mk hr1
    have HST := Aside0.mk hst1
    have HX := Aside0.mk hx
    obtain ⟨v, hv, hov⟩ := hr1.blk
    obtain ⟨A, cp, rfl, hcap⟩ := hov.slice_
    have c2 : w1.cell? ⟨g, 2, none⟩ = some (.slice A l.length cp) := by rw [blk_cell hv]; rfl
    have htl := Aside0.mk (text_sound hx).2
    have HV := Aside0.mk hv
    have HB1 : Aside0 (B ≤ w1.heap.size) := ⟨Nat.le_trans hr1.base (Nat.le_of_lt hr1.lt)⟩
    clear hr1 hst1 hx hov hv
    have hres : ∀ m : Bool, mayName t = m → ∀ q : Bool, (Op.bytesLess t last || t == last) = q → nameP last deep l.length (restB s at_) = (if m = false ∨ q = true ∨ 256 ≤ l.length ∨ 64 ≤ deep then .error 4 else .ok (t, restB s at1)) := by
      intro m hm q hq
      rw [nameP, HX.out, Rd.then_ok, hm, hq]
    obtain ⟨m, hm⟩ : ∃ m, mayName t = m := ⟨_, rfl⟩
    obtain ⟨q, hq⟩ : ∃ q, (Op.bytesLess t last || t == last) = q := ⟨_, rfl⟩
    have HRES := Aside0.mk (hres m hm q hq)
    have hq1 : (Op.bytesLess (bsB t).toList (bsB last).toList || (bsB t).toList == (bsB last).toList) = q := by rw [← hq, toList_data, toList_data]; rfl
    have hq2 := hq1
    have HM := Aside0.mk hm
    have HQ := Aside0.mk hq
    clear hres hm hq
    by_cases h256 : 256 ≤ l.length
    all_goals by_cases h64 : 64 ≤ deep
    all_goals cases m
    all_goals cases q
    all_goals
      go_wp2_with (go_at_call 133; refine (HMAY.out t _ htl.out).mono ?_)
      rw [HM.out]
      rintro _ wz ⟨rfl, hbz⟩
      have HRZ : Aside0 (RdAt B g s at1 l wz) := ⟨HR1.out.belowOf hbz⟩
      have HSTZ : Aside0 (RdStep none B g w wz) := ⟨HST.out.trans (RdStep.belowOf hbz HB1.out)⟩
      have c2z : wz.cell? ⟨g, 2, none⟩ = some (.slice A l.length cp) := by rw [blk_cell (blk_below HV.out hbz)]; rfl
      clear hbz
      go_wp2
    all_goals first
      | (go_ret2
         first
           | exact ⟨at1, HRZ.out, HSTZ.out, .inl ⟨4, by rw [HRES.out]; simp [h256, h64], by decide, rfl⟩⟩
           | exact ⟨at1, HRZ.out, HSTZ.out, .inr ⟨t, by rw [HRES.out]; simp [h256, h64], rfl⟩⟩)
end Go.Proofs.YtncokgdfkbgflaaDoor

namespace Go.Proofs.YtncokgdfkbgflaaDoor
open Go.RowKit Go.Shelf Go.Lib Go.Proofs.YtncokgdfkbgflaaDoorW.PrintWords Go.Proofs.YtncokgdfkbgflaaDoorW.PrintMore
set_option linter.unusedVariables false
set_option linter.unusedSimpArgs false
structure NodeAt (B g k : Nat) (n : Nd) (w : World) : Prop where
  base : B ≤ k
  ne : k ≠ g
  blk : w.heap[k]? = some (.cells #[.string (bsB n.path), .int .i64 n.kind, .string (bsB n.data)] 68 (0, 0))
  apart : ∀ s at_ v, w.heap[g]? = some (.cells #[.string s, .int .i64 at_, v] 71 (0, 0)) → v.ownBlock ≠ some k
theorem contains_zero (t : List UInt8) : decide (0 ≤ Lib.indexByte t 0) = hasZero t := by
  rw [← Lib.contains_iff_indexByte, hasZero, List.contains_eq_any_beq]
  congr 1
  funext c
  exact BEq.comm
theorem RdAt.node {B g k i at_ : Nat} {s : ByteArray} {l : List Nd} {w : World} {n : Nd} (h : RdAt B g s at_ l w) (hn : NodeAt B g k n w) (u : Value) : RdAt B g s at_ l (w.setCell ⟨k, i, none⟩ u) := by
  obtain ⟨v, hb, ho⟩ := h.blk
  refine ⟨h.base, h.le, h.small, v, ?_, own_cong ho fun j hj => Below.heap_setCell _ _ _ _ ?_⟩
  · exact (Below.heap_setCell w ⟨k, i, none⟩ u g (fun e => hn.ne e.symm)).trans hb
  · rintro rfl
    exact hn.apart _ _ _ hb hj
theorem NodeAt.step {B g k at_ : Nat} {s : ByteArray} {l : List Nd} {w w' : World} {n : Nd} (hn : NodeAt B g k n w) (h : RdAt B g s at_ l w) (hst : RdStep none B g w w') : NodeAt B g k n w' := by
  obtain ⟨v, hb, ho⟩ := h.blk
  refine ⟨hn.base, hn.ne, hst.all hn.blk hn.ne, fun s1 a1 v1 h1 => ?_⟩
  obtain ⟨a2, h2⟩ := hst.third rfl _ _ _ hb
  rw [h2] at h1
  cases h1
  exact hn.apart _ _ _ hb
theorem NodeAt.set {B g k i : Nat} {w : World} {n n' : Nd} (hn : NodeAt B g k n w) (u : Value) (e : (#[.string (bsB n.path), .int .i64 n.kind, .string (bsB n.data)] : Array Value).setIfInBounds i u = #[.string (bsB n'.path), .int .i64 n'.kind, .string (bsB n'.data)]) : NodeAt B g k n' (w.setCell ⟨k, i, none⟩ u) :=
  ⟨hn.base, hn.ne, blk_put hn.blk i u e, fun s a v h => hn.apart s a v ((Below.heap_setCell w ⟨k, i, none⟩ u g (fun e => hn.ne e.symm)).symm.trans h)⟩
end Go.Proofs.YtncokgdfkbgflaaDoor

namespace Go.Proofs.YtncokgdfkbgflaaDoor
open Go.RowKit Go.Shelf Go.Lib Go.Proofs.YtncokgdfkbgflaaDoorW.PrintWords Go.Proofs.YtncokgdfkbgflaaDoorW.PrintMore
set_option linter.unusedVariables false
set_option linter.unusedSimpArgs false
def NdS (B g k : Nat) (s : ByteArray) (l : List Nd) (n : Nd) (w : World) (x : Rd (Int × List UInt8)) (e : Ending) (w' : World) : Prop :=
  ∃ at' n', RdAt B g s at' l w' ∧ NodeAt B g k n' w' ∧ (∀ a : World, B ≤ a.heap.size → a.heap.size ≤ k → RdStep none B g a w → RdStep none B g a w') ∧
    ((∃ c, x = .error c ∧ c ≠ 0 ∧ e = .returned (.int .i64 c)) ∨ (∃ d, x = .ok (d, restB s at') ∧ n' = ⟨n.path, d.1, d.2⟩ ∧ e = .returned (.int .i64 0)))
set_option maxRecDepth 100000 in
set_option maxHeartbeats 8000000 in
theorem link_rd (B g k : Nat) (s : ByteArray) (at_ : Nat) (l : List Nd) (n : Nd) (w : World) (h : RdAt B g s at_ l w) (hn : NodeAt B g k n w) (hB : B ≤ w.heap.size) :
    Calls Tryd.prog 64 #[.pointer (some ⟨g, 0, none⟩), .pointer (some ⟨k, 0, none⟩)] w (NdS B g k s l n w (linkP (restB s at_))) := by
  have hst0 : RdStep none B g w (w.alloc (.cells #[.string (bsB wTarget)] 9)) := (RdStep.refl none B g w).alloc hB _
  have hmu := must_rd B g s at_ l (w.alloc (.cells #[.string (bsB wTarget)] 9)) (h.alloc _) (Nat.le_trans hB hst0.below.size) w.heap.size 1 [bsB wTarget] (blk_new w _) (by simp) (fun z hz => by obtain rfl := List.mem_singleton.1 hz; decide)
  have HMU := Aside0.mk hmu
  have HR := Aside0.mk h
  have HN := Aside0.mk hn
  have HBB := Aside0.mk hB
  have HST0 := Aside0.mk hst0
  clear hmu h hn hB hst0
  go_enter Tryd.func64, Tryd.ntmps64
  go_wp2_with (go_at_call 41; refine HMU.out.mono ?_)
  rintro e w1 ⟨at1, hr1, hst1, ⟨cc, hx, hc, rfl⟩ | ⟨t, hx, rfl⟩⟩
  · have u1 : (cc == 0) = false := beq_eq_false_iff_ne.2 hc
    have u2 : decide (cc = 0) = false := decide_eq_false hc
    have HR1 := Aside0.mk hr1
    have HST := Aside0.mk (HST0.out.trans hst1)
    have HX : Aside0 (mustP [wTarget] (restB s at_) = .error cc) := ⟨hx⟩
    have HC := Aside0.mk hc
    clear hr1 hst1 hx hc
    go_wp2
    go_ret
    exact ⟨at1, n, HR1.out, HN.out.step HR.out HST.out, fun a _ _ ha => ha.trans HST.out, .inl ⟨cc, by rw [linkP, HX.out]; rfl, HC.out, rfl⟩⟩
  · have HR1 := Aside0.mk hr1
    have HST := Aside0.mk (HST0.out.trans hst1)
    have HX : Aside0 (mustP [wTarget] (restB s at_) = .ok ((), restB s at1)) := ⟨hx⟩
    have HN1 := Aside0.mk (HN.out.step HR.out HST.out)
    clear hr1 hst1 hx
    go_wp2_with (go_at_call 84; refine (text_rd B g s at1 4096 l _ HR1.out (by decide)).mono ?_)
    rintro e w2 ⟨at2, hr2, hst2, ⟨cc, hx, hc, rfl⟩ | ⟨t, hx, rfl⟩⟩
    · have u1 : (cc == 0) = false := beq_eq_false_iff_ne.2 hc
      have u2 : decide (cc = 0) = false := decide_eq_false hc
      have HR2 := Aside0.mk hr2
      have HST2 := Aside0.mk hst2
      have HX2 := Aside0.mk hx
      have HC := Aside0.mk hc
      clear hr2 hst2 hx hc
      go_wp2
      go_ret
      exact ⟨at2, n, HR2.out, HN1.out.step HR1.out HST2.out, fun a _ _ ha => (ha.trans HST.out).trans HST2.out, .inl ⟨cc, by rw [linkP, HX.out, Rd.then_ok, HX2.out]; rfl, HC.out, rfl⟩⟩
    · have HR2 := Aside0.mk hr2
      have HST2 := Aside0.mk hst2
      have HX2 := Aside0.mk hx
      have hn2 := HN1.out.step HR1.out hst2
      have HN2 := Aside0.mk hn2
      have f1 := blk_frozen hn2.blk 1
      have f2 := blk_frozen hn2.blk 2
      have f3 : ∀ u, (w2.setCell ⟨k, 1, none⟩ u).frozen? ⟨k, 2, none⟩ = false := fun u => blk_frozen (blk_set hn2.blk 1 u) 2
      have k1 : w2.cell? ⟨k, 1, none⟩ = some (.int .i64 n.kind) := by rw [blk_cell hn2.blk]; rfl
      have k2 : w2.cell? ⟨k, 2, none⟩ = some (.string (bsB n.data)) := by rw [blk_cell hn2.blk]; rfl
      have k3 : ∀ u, (w2.setCell ⟨k, 1, none⟩ u).cell? ⟨k, 2, none⟩ = some (.string (bsB n.data)) := fun u => by rw [blk_cell (blk_set hn2.blk 1 u)]; rfl
      clear hr2 hst2 hx hn2
      have hlk : linkP (restB s at_) = if t = [] ∨ hasZero t = true then .error 4 else .ok ((3, t), restB s at2) := by rw [linkP, HX.out, Rd.then_ok, HX2.out, Rd.then_ok]
      have HLK := Aside0.mk hlk
      clear hlk
      by_cases ht : t = []
      · have v1 : ((bsB t).toList == ([] : List UInt8)) = true := by rw [toList_data, ht]; rfl
        have v2 : (bsB t).toList.isEmpty = true := by rw [toList_data, ht]; rfl
        have v3 : (bsB t).toList = [] := by rw [toList_data, ht]; rfl
        have HT := Aside0.mk ht
        clear ht
        go_wp2
        go_ret
        exact ⟨at2, n, HR2.out, HN2.out, fun a _ _ ha => (ha.trans HST.out).trans HST2.out, .inl ⟨4, by rw [HLK.out, if_pos (.inl HT.out)], by decide, rfl⟩⟩
      · have v0 : (bsB t).toList = t := toList_data _
        have v1 : ((bsB t).toList == ([] : List UInt8)) = false := by rw [v0]; exact beq_eq_false_iff_ne.2 ht
        have v2 : (bsB t).toList.isEmpty = false := by rw [v0]; cases t with | nil => exact absurd rfl ht | cons _ _ => rfl
        have v3 : ¬ (bsB t).toList = [] := by rw [v0]; exact ht
        have HT := Aside0.mk ht
        clear ht v0
        obtain ⟨z, hz⟩ : ∃ z, hasZero t = z := ⟨_, rfl⟩
        have HZ : Aside0 (decide (0 ≤ Lib.indexByte (bsB t).data.toList 0) = z) := ⟨(contains_zero t).trans hz⟩
        have HZ2 := Aside0.mk hz
        clear hz
        cases z with
        | true =>
          go_wp2_with (go_at_call 87; refine (Tryd.strings_Contains_one (bsB t) 0 _).mono ?_; rw [HZ.out]; rintro _ _ ⟨rfl, rfl⟩)
          go_ret
          exact ⟨at2, n, HR2.out, HN2.out, fun a _ _ ha => (ha.trans HST.out).trans HST2.out, .inl ⟨4, by rw [HLK.out, if_pos (.inr HZ2.out)], by decide, rfl⟩⟩
        | false =>
          go_wp2_with (go_at_call 87; refine (Tryd.strings_Contains_one (bsB t) 0 _).mono ?_; rw [HZ.out]; rintro _ _ ⟨rfl, rfl⟩)
          go_ret
          have h1 := HN2.out.set (i := 1) (n' := ⟨n.path, 3, n.data⟩) (.int .i64 3) rfl
          have h2 := h1.set (i := 2) (n' := ⟨n.path, 3, t⟩) (.string (bsB t)) rfl
          exact ⟨at2, _, (HR2.out.node HN2.out _).node h1 _, h2, fun a hB ha hs => (((hs.trans HST.out).trans HST2.out).setOwn hB ha _).setOwn hB ha _, .inr ⟨(3, t), by rw [HLK.out, if_neg (fun e => by rcases e with e | e; exact HT.out e; rw [HZ2.out] at e; cases e)], rfl, rfl⟩⟩
end Go.Proofs.YtncokgdfkbgflaaDoor

namespace Go.Proofs.YtncokgdfkbgflaaDoor
open Go.RowKit Go.Shelf Go.Lib Go.Proofs.YtncokgdfkbgflaaDoorW.PrintWords Go.Proofs.YtncokgdfkbgflaaDoorW.PrintMore
set_option linter.unusedVariables false
set_option linter.unusedSimpArgs false
set_option maxRecDepth 100000 in
set_option maxHeartbeats 8000000 in
theorem file_rd (B g k : Nat) (s : ByteArray) (at_ : Nat) (l : List Nd) (n : Nd) (w : World) (h : RdAt B g s at_ l w) (hn : NodeAt B g k n w) (hB : B ≤ w.heap.size) :
    Calls Tryd.prog 63 #[.pointer (some ⟨g, 0, none⟩), .pointer (some ⟨k, 0, none⟩)] w (NdS B g k s l n w (fileP (restB s at_))) := by
  have hst0 : RdStep none B g w (w.alloc (.cells #[.string (bsB wExec), .string (bsB wContents)] 9)) := (RdStep.refl none B g w).alloc hB _
  have hmu := one_rd B g s at_ l (w.alloc (.cells #[.string (bsB wExec), .string (bsB wContents)] 9)) (h.alloc _) w.heap.size 2 [bsB wExec, bsB wContents] (blk_new w _) (by simp) (by simp) (fun z hz => by simp only [List.mem_cons, List.not_mem_nil, or_false] at hz; rcases hz with rfl | rfl; all_goals decide)
  have HMU := Aside0.mk hmu
  have HR := Aside0.mk h
  have HN := Aside0.mk hn
  have HBB := Aside0.mk hB
  have HST0 := Aside0.mk hst0
  clear hmu h hn hB hst0
  go_enter Tryd.func63, Tryd.ntmps63
  go_wp2_with (go_at_call 61; refine HMU.out.mono ?_)
  rintro e w1 ⟨at1, hr1, hst1, ⟨cc, hx, hc, rfl⟩ | ⟨t, hx, rfl⟩⟩
  · have u1 : (cc == 0) = false := beq_eq_false_iff_ne.2 hc
    have u2 : decide (cc = 0) = false := decide_eq_false hc
    have HR1 := Aside0.mk hr1
    have HST := Aside0.mk (HST0.out.trans hst1)
    have HX : Aside0 (oneP [wExec, wContents] (restB s at_) = .error cc) := ⟨hx⟩
    have HC := Aside0.mk hc
    clear hr1 hst1 hx hc
    go_wp2
    go_ret
    exact ⟨at1, n, HR1.out, HN.out.step HR.out HST.out, fun a _ _ ha => ha.trans HST.out, .inl ⟨cc, by rw [fileP, HX.out]; rfl, HC.out, rfl⟩⟩
  · have HR1 := Aside0.mk hr1
    have HST := Aside0.mk (HST0.out.trans hst1)
    have HX : Aside0 (oneP [wExec, wContents] (restB s at_) = .ok (t, restB s at1)) := ⟨hx⟩
    have hn1 := HN.out.step HR.out HST.out
    have HN1 := Aside0.mk hn1
    have f1 := blk_frozen hn1.blk 1
    have k1 : w1.cell? ⟨k, 1, none⟩ = some (.int .i64 n.kind) := by rw [blk_cell hn1.blk]; rfl
    clear hr1 hst1 hx hn1
    by_cases ht : t = wExec
    · have v0 : (bsB t).toList = t := toList_data _
      have v1 : ((bsB t).toList == [101, 120, 101, 99, 117, 116, 97, 98, 108, 101]) = true := by rw [v0, ht]; rfl
      have v3 : (bsB t).toList = [101, 120, 101, 99, 117, 116, 97, 98, 108, 101] := by rw [v0, ht]; rfl
      have hn2 := HN1.out.set (i := 1) (n' := ⟨n.path, 1, n.data⟩) (.int .i64 1) rfl
      have hr2 := HR1.out.node (i := 1) HN1.out (.int .i64 1)
      have hn4 := hn2.set (i := 1) (n' := ⟨n.path, 2, n.data⟩) (.int .i64 2) rfl
      have hr4 := hr2.node (i := 1) hn2 (.int .i64 2)
      have f1' := blk_frozen hn2.blk 1
      have k1' : (w1.setCell ⟨k, 1, none⟩ (.int .i64 1)).cell? ⟨k, 1, none⟩ = some (.int .i64 1) := by rw [blk_cell hn2.blk]; rfl
      obtain ⟨wz, hwz⟩ : ∃ wz, wz = (w1.setCell ⟨k, 1, none⟩ (.int .i64 1)).setCell ⟨k, 1, none⟩ (.int .i64 2) := ⟨_, rfl⟩
      have hsz : wz.heap.size = w1.heap.size := by rw [hwz]; simp [World.setCell]
      rw [← hwz] at hn4 hr4
      have hBz : B ≤ wz.heap.size := by rw [hsz]; exact Nat.le_trans HBB.out HST.out.below.size
      have hmu2 := must_rd B g s at1 l (wz.alloc (.cells #[.string (bsB []), .string (bsB wContents)] 9)) (hr4.alloc _) (Nat.le_trans hBz (by simp)) wz.heap.size 2 [bsB [], bsB wContents] (blk_new wz _) (by simp) (fun z hz => by simp only [List.mem_cons, List.not_mem_nil, or_false] at hz; rcases hz with rfl | rfl; all_goals decide)
      have hst4 : RdStep none B g wz (wz.alloc (.cells #[.string (bsB []), .string (bsB wContents)] 9)) := (RdStep.refl none B g wz).alloc hBz _
      have hfl : fileP (restB s at_) = (mustP [[], wContents] (restB s at1)).then fun _ r => (textP 65536 r).then fun d r => .ok ((2, d), r) := by rw [fileP, HX.out, Rd.then_ok, if_pos ht]
      have HFL := Aside0.mk hfl
      have HN4 := Aside0.mk hn4
      have HR4 := Aside0.mk hr4
      have HST4 := Aside0.mk hst4
      have hall : ∀ a : World, B ≤ a.heap.size → a.heap.size ≤ k → RdStep none B g a w → RdStep none B g a wz := fun a hB ha hs => by rw [hwz]; exact ((hs.trans HST.out).setOwn hB ha _).setOwn hB ha _
      have HALL := Aside0.mk hall
      rw [hsz, hwz] at hmu2
      have HMU2 := Aside0.mk hmu2
      clear hfl hn4 hr4 hst4 hall hmu2 hn2 hr2 ht v0
      go_wp2_with (go_at_call 41; refine HMU2.out.mono ?_)
      rw [← hwz]
      rintro e w2 ⟨at2, hr2, hst2, hh⟩
      have hst5 := HST4.out.trans hst2
      have hn5 := HN4.out.step HR4.out hst5
      have HN5 := Aside0.mk hn5
      have HR5 := Aside0.mk hr2
      have HST5 := Aside0.mk hst5
      clear hn5 hr2 hst2 hst5
      rcases hh with ⟨cc, hx, hc, rfl⟩ | ⟨d, hx, rfl⟩
      · have u1 : (cc == 0) = false := beq_eq_false_iff_ne.2 hc
        have u2 : decide (cc = 0) = false := decide_eq_false hc
        have HX2 : Aside0 (mustP [[], wContents] (restB s at1) = .error cc) := ⟨hx⟩
        have HC := Aside0.mk hc
        clear hx hc
        go_wp2
        go_ret
        exact ⟨at2, _, HR5.out, HN5.out, fun a hB ha hs => (HALL.out a hB ha hs).trans HST5.out, .inl ⟨cc, by rw [HFL.out, HX2.out]; rfl, HC.out, rfl⟩⟩
      · have HX2 : Aside0 (mustP [[], wContents] (restB s at1) = .ok ((), restB s at2)) := ⟨hx⟩
        clear hx
        go_wp2_with (go_at_call 84; refine (text_rd B g s at2 65536 l _ HR5.out (by decide)).mono ?_)
        rintro e w3 ⟨at3, hr3, hst3, hh⟩
        have hn3 := HN5.out.step HR5.out hst3
        have f2 := blk_frozen hn3.blk 2
        have k2 : w3.cell? ⟨k, 2, none⟩ = some (.string (bsB n.data)) := by rw [blk_cell hn3.blk]; rfl
        have HN3 := Aside0.mk hn3
        have HR3 := Aside0.mk hr3
        have HST3 := Aside0.mk hst3
        clear hn3 hr3 hst3
        rcases hh with ⟨cc, hx, hc, rfl⟩ | ⟨d, hx, rfl⟩
        · have HX3 := Aside0.mk hx
          have HC := Aside0.mk hc
          clear hx hc
          go_wp2
          go_ret
          have h2 := HN3.out.set (i := 2) (n' := ⟨n.path, 2, []⟩) (.string ⟨#[]⟩) rfl
          exact ⟨at3, _, HR3.out.node HN3.out _, h2, fun a hB ha hs => (((HALL.out a hB ha hs).trans HST5.out).trans HST3.out).setOwn hB ha _, .inl ⟨cc, by rw [HFL.out, HX2.out, Rd.then_ok, HX3.out]; rfl, HC.out, rfl⟩⟩
        · have HX3 := Aside0.mk hx
          clear hx
          go_wp2
          go_ret
          have h2 := HN3.out.set (i := 2) (n' := ⟨n.path, 2, d⟩) (.string (bsB d)) rfl
          exact ⟨at3, _, HR3.out.node HN3.out _, h2, fun a hB ha hs => (((HALL.out a hB ha hs).trans HST5.out).trans HST3.out).setOwn hB ha _, .inr ⟨(2, d), by rw [HFL.out, HX2.out, Rd.then_ok, HX3.out]; rfl, rfl, rfl⟩⟩
    · have v0 : (bsB t).toList = t := toList_data _
      have v1 : ((bsB t).toList == wExec) = false := by rw [v0]; exact beq_eq_false_iff_ne.2 ht
      have v2 : ((bsB t).toList == [101, 120, 101, 99, 117, 116, 97, 98, 108, 101]) = false := v1
      have v3 : ¬ (bsB t).toList = [101, 120, 101, 99, 117, 116, 97, 98, 108, 101] := by rw [v0]; exact ht
      have HT := Aside0.mk ht
      clear ht v0
      have hn2 := HN1.out.set (i := 1) (n' := ⟨n.path, 1, n.data⟩) (.int .i64 1) rfl
      have hr2 := HR1.out.node (i := 1) HN1.out (.int .i64 1)
      have HN2 := Aside0.mk hn2
      have HR2 := Aside0.mk hr2
      clear hn2 hr2
      go_wp2_with (go_at_call 84; refine (text_rd B g s at1 65536 l _ HR2.out (by decide)).mono ?_)
      rintro e w2 ⟨at2, hr2, hst2, hh⟩
      have hn3 := HN2.out.step HR2.out hst2
      have f2 := blk_frozen hn3.blk 2
      have k2 : w2.cell? ⟨k, 2, none⟩ = some (.string (bsB n.data)) := by rw [blk_cell hn3.blk]; rfl
      have HN3 := Aside0.mk hn3
      have HR3 := Aside0.mk hr2
      have HST2 := Aside0.mk hst2
      clear hn3 hr2 hst2
      have hfl : fileP (restB s at_) = (textP 65536 (restB s at1)).then fun d r => .ok ((1, d), r) := by rw [fileP, HX.out, Rd.then_ok, if_neg HT.out]
      have HFL := Aside0.mk hfl
      clear hfl
      rcases hh with ⟨cc, hx, hc, rfl⟩ | ⟨d, hx, rfl⟩
      · have HX2 := Aside0.mk hx
        have HC := Aside0.mk hc
        clear hx hc
        go_wp2
        go_ret
        have h2 := HN3.out.set (i := 2) (n' := ⟨n.path, 1, []⟩) (.string ⟨#[]⟩) rfl
        exact ⟨at2, _, HR3.out.node HN3.out _, h2, fun a hB ha hs => (((hs.trans HST.out).setOwn hB ha _).trans HST2.out).setOwn hB ha _, .inl ⟨cc, by rw [HFL.out, HX2.out]; rfl, HC.out, rfl⟩⟩
      · have HX2 := Aside0.mk hx
        clear hx
        go_wp2
        go_ret
        have h2 := HN3.out.set (i := 2) (n' := ⟨n.path, 1, d⟩) (.string (bsB d)) rfl
        exact ⟨at2, _, HR3.out.node HN3.out _, h2, fun a hB ha hs => (((hs.trans HST.out).setOwn hB ha _).trans HST2.out).setOwn hB ha _, .inr ⟨(1, d), by rw [HFL.out, HX2.out]; rfl, rfl, rfl⟩⟩
end Go.Proofs.YtncokgdfkbgflaaDoor

namespace Go.Proofs.YtncokgdfkbgflaaDoor
open Go.RowKit Go.Shelf Go.Lib Go.Proofs.YtncokgdfkbgflaaDoorW.PrintWords Go.Proofs.YtncokgdfkbgflaaDoorW.PrintMore
set_option linter.unusedVariables false
theorem info68 : (Tryd.prog.info? 68).map (fun i => (i.zero, i.size, i.bytes)) = some (some (.agg #[(.string ⟨#[]⟩), (.int .i64 0), (.string ⟨#[]⟩)]), 3, 40) := by kernel_rfl
theorem NodeAt.new {B g at_ : Nat} {s : ByteArray} {l : List Nd} {w : World} (h : RdAt B g s at_ l w) (hB : B ≤ w.heap.size) (n : Nd) : NodeAt B g w.heap.size n (w.alloc (.cells #[.string (bsB n.path), .int .i64 n.kind, .string (bsB n.data)] 68)) := by
  obtain ⟨v, hb, inner, ho, _⟩ := h.blk
  refine ⟨hB, ?_, blk_new w _, ?_⟩
  · have := h.lt; omega
  · intro s1 a1 v1 h1 hk
    rw [blk_alloc hb] at h1
    cases h1
    have := own_lt ho _ hk
    omega
end Go.Proofs.YtncokgdfkbgflaaDoor

namespace Go.Proofs.YtncokgdfkbgflaaDoor
open Go.RowKit Go.Shelf Go.Lib Go.Proofs.YtncokgdfkbgflaaDoorW.PrintWords Go.Proofs.YtncokgdfkbgflaaDoorW.PrintMore
set_option linter.unusedVariables false
set_option linter.unusedSimpArgs false
def NdK : Kd Nd where
  sz := 3
  E := []
  K := fun _ n cs => NdR n cs
  M := fun _ _ _ n cs => NdR n cs
  K_len := fun h => by rw [h]; rfl
  K_one := fun h u hu => by
    rw [h] at hu
    simp only [List.mem_cons, List.not_mem_nil, or_false] at hu
    rcases hu with rfl | rfl | rfl
    all_goals rfl
  K_below := fun _ h => h
  K_of_M := fun h => h
  M_mono := fun _ h => h
  M_bound := fun h => h
  M_move := fun _ h => h
  M_lower := fun _ h => h
theorem R_of_row {w : World} {B : Nat} {v : Value} {l : List Nd} (h : OwnRow NdR 68 3 w B v l) : NdK.R 68 w B (fun _ => True) v l := ⟨fun _ _ => trivial, h⟩
theorem row_of_R {w : World} {B : Nat} {ok : Nat → Prop} {v : Value} {l : List Nd} (h : NdK.R 68 w B ok v l) : OwnRow NdR 68 3 w B v l := h.2
theorem RdAt.appended {B g at_ : Nat} {s : ByteArray} {l l1 : List Nd} {w w1 : World} {v v1 : Value} (hb : w.heap[g]? = some (.cells #[.string s, .int .i64 at_, v] 71 (0, 0))) (hB : B ≤ g) (hle : at_ ≤ s.size) (hsm : s.size < 1000000000)
    (ho : OwnRow NdR 68 3 w B v l) (h1 : OwnRow NdR 68 3 w1 B v1 l1) (hbl : Below B w w1) (hg : w.grownBy w1 v.ownBlock) (hn : v1.ownBlock = v.ownBlock ∨ ∃ b, v1.ownBlock = some b ∧ w.heap.size ≤ b) :
    RdAt B g s at_ l1 (w1.setCell ⟨g, 2, none⟩ v1) ∧ RdStep (some 68) B g w (w1.setCell ⟨g, 2, none⟩ v1) := by
  have hne := ho.ne_block hb (by decide)
  have hb1 : w1.heap[g]? = some (.cells #[.string s, .int .i64 at_, v] 71 (0, 0)) := blk_grown hb hg hne
  have hgl := blk_lt hb
  have hne1 : v1.ownBlock ≠ some g := by
    rcases hn with hn | ⟨b, hn, hbb⟩
    · rw [hn]; exact fun e => hne e.symm
    · rw [hn]; intro e; injection e with e; omega
  refine ⟨⟨hB, hle, hsm, v1, blk_put hb1 2 v1 rfl, own_cong h1 fun k hk => Below.heap_setCell _ _ _ _ (fun e => hne1 (by rw [hk, e]))⟩, ⟨hbl.setCell (p := ⟨g, 2, none⟩) hB v1, fun k o hk hkg he => ?_, fun e => by cases e⟩⟩
  refine (Below.heap_setCell w1 ⟨g, 2, none⟩ v1 k hkg).trans (blk_grown hk hg fun e => ?_)
  obtain ⟨inner, hi, _⟩ := ho
  obtain ⟨cs, hc⟩ := own_typed hi k e.symm
  rw [hc] at hk
  cases hk
  exact he _ _ _ rfl rfl
theorem RdAt.stored {B g at_ b c i : Nat} {s : ByteArray} {l : List Nd} {w : World} (hb : w.heap[g]? = some (.cells #[.string s, .int .i64 at_, .slice (some ⟨b, 0, none⟩) l.length c] 71 (0, 0))) (hB : B ≤ g) (hle : at_ ≤ s.size) (hsm : s.size < 1000000000)
    (ho : OwnRow NdR 68 3 w B (.slice (some ⟨b, 0, none⟩) l.length c) l) (hi : i < l.length) (x : Nd) :
    RdAt B g s at_ (l.set i x) (w.setCells b (i * 3) [.string (bsB x.path), .int .i64 x.kind, .string (bsB x.data)]) ∧ RdStep (some 68) B g w (w.setCells b (i * 3) [.string (bsB x.path), .int .i64 x.kind, .string (bsB x.data)]) := by
  have hR := R_of_row ho
  obtain ⟨cs, hc1, hc2, hc3, _⟩ := Kd.R_elem hR ⟨[], 0, []⟩ (i : Int) (by omega) (by omega)
  have hne := ho.ne_block hb (by decide)
  have hbg : g ≠ b := fun e => hne (by rw [e]; simp [Value.ownBlock])
  have hbb : B ≤ b := by
    obtain ⟨inner, hi, _⟩ := ho
    exact own_base hi b (by simp [Value.ownBlock])
  obtain ⟨h1, h2⟩ := Kd.R_seg (okp := fun _ => False) (c := cs) (j := 0) (seg := [.string (bsB x.path), .int .i64 x.kind, .string (bsB x.data)]) (x' := x) hR (i : Int) (by omega) (by omega) hc1 hc3 (by show 0 + 3 ≤ 3; omega)
    (by show NdR x _; rw [NdR, List.take_zero, List.drop_eq_nil_of_le (by rw [hc1]; show 3 ≤ 0 + 3; omega)]; rfl) (fun _ h => h.elim)
  rw [show (i : Int).toNat * NdK.sz + 0 = i * 3 from by rw [Int.toNat_natCast, Nat.add_zero]; rfl] at h1 h2
  rw [Int.toNat_natCast] at h1
  refine ⟨⟨hB, hle, hsm, _, (setCells_far _ _ g hbg).trans hb, ?_⟩, ⟨⟨h2.os, h2.tape, h2.output, h2.size, fun k hk => setCells_far _ _ k (by omega)⟩, fun k o hk hkg he => ?_, fun e => by cases e⟩⟩
  · exact row_of_R h1
  · refine (setCells_far _ _ k ?_).trans hk
    rintro rfl
    obtain ⟨inner, hi, _⟩ := ho
    obtain ⟨cs, hc⟩ := own_typed hi k (by simp [Value.ownBlock])
    rw [hc] at hk
    cases hk
    exact he _ _ _ rfl rfl
theorem RdAt.row {B g at_ : Nat} {s : ByteArray} {l : List Nd} {w : World} (h : RdAt B g s at_ l w) (hl : l ≠ []) : ∃ b c, w.heap[g]? = some (.cells #[.string s, .int .i64 at_, .slice (some ⟨b, 0, none⟩) l.length c] 71 (0, 0)) ∧ OwnRow NdR 68 3 w B (.slice (some ⟨b, 0, none⟩) l.length c) l ∧ l.length ≤ c ∧
    (∀ i, i < l.length → ∀ j, j < 3 → w.frozen? ⟨b, i * 3 + j, none⟩ = false ∧ ∃ u, w.cell? ⟨b, i * 3 + j, none⟩ = some u) := by
  obtain ⟨v, hb, ho⟩ := h.blk
  have ho' := ho
  obtain ⟨inner, ho1, hr⟩ := ho
  have hlen : 0 < l.length := by cases l with | nil => exact absurd rfl hl | cons _ _ => simp
  obtain ⟨A, c, hv, hc⟩ := ho'.slice_
  rcases ho1.2 with ⟨hv2, h0⟩ | ⟨b, cap, cur, hv2, _⟩
  · rw [hv] at hv2; injection hv2 with _ h2 _; omega
  · refine ⟨b, cap, by rw [← hv2]; exact hb, by rw [← hv2]; exact ho', ?_, fun i hi j hj => ?_⟩
    · rw [hv] at hv2; injection hv2 with _ _ h3; omega
    · rw [hv2] at ho'
      obtain ⟨cs, hc1, hc2, hc3, hc4⟩ := Kd.R_elem (R_of_row ho') ⟨[], 0, []⟩ (i : Int) (by omega) (by omega)
      refine ⟨hc4 j, cs[j]'(by rw [hc1]; exact hj), hc3 j _ (List.getElem?_eq_getElem _)⟩
end Go.Proofs.YtncokgdfkbgflaaDoor

namespace Go.Proofs.YtncokgdfkbgflaaDoor
open Go.RowKit Go.Shelf Go.Lib Go.Proofs.YtncokgdfkbgflaaDoorW.PrintWords Go.Proofs.YtncokgdfkbgflaaDoorW.PrintMore
set_option linter.unusedVariables false
set_option linter.unusedSimpArgs false
def NoS (B g : Nat) (s : ByteArray) (w : World) (x : Rd (List Nd)) (e : Ending) (w' : World) : Prop :=
  ∃ at' l', RdAt B g s at' l' w' ∧ RdStep (some 68) B g w w' ∧ ((∃ c, x = .error c ∧ c ≠ 0 ∧ e = .returned (.int .i64 c)) ∨ (x = .ok (l', restB s at') ∧ e = .returned (.int .i64 0)))
def NodeOK (f : Nat) : Prop := ∀ (B g : Nat) (s : ByteArray) (at_ : Nat) (l : List Nd) (w : World) (path : List UInt8) (deep : Nat), RdAt B g s at_ l w → B ≤ w.heap.size → l.length < 256 → deep ≤ 64 → path.length ≤ 256 * deep → (restB s at_).length < f →
  Calls Tryd.prog 42 #[.pointer (some ⟨g, 0, none⟩), .string (bsB path), .int .i64 deep] w (NoS B g s w (nodeP f path deep l (restB s at_)))
def DirOK (f : Nat) : Prop := ∀ (B g : Nat) (s : ByteArray) (at_ : Nat) (l : List Nd) (w : World) (path : List UInt8) (deep : Nat), RdAt B g s at_ l w → B ≤ w.heap.size → l.length ≤ 256 → deep ≤ 64 → path.length ≤ 256 * deep → (restB s at_).length < f →
  Calls Tryd.prog 62 #[.pointer (some ⟨g, 0, none⟩), .string (bsB path), .int .i64 deep] w (NoS B g s w (dirP f path deep [] l (restB s at_)))
set_option maxRecDepth 100000 in
set_option maxHeartbeats 8000000 in
theorem node_rd (f : Nat) (hdir : DirOK f) : NodeOK (f + 1) := by
  intro B g s at_ l w path deep h hB hl hd hp hf
  have hst0 : RdStep none B g w (w.alloc (.cells #[.string (bsB wOpen), .string (bsB wType)] 9)) := (RdStep.refl none B g w).alloc hB _
  have hmu := must_rd B g s at_ l (w.alloc (.cells #[.string (bsB wOpen), .string (bsB wType)] 9)) (h.alloc _) (Nat.le_trans hB hst0.below.size) w.heap.size 2 [bsB wOpen, bsB wType] (blk_new w _) (by simp) (fun z hz => by simp only [List.mem_cons, List.not_mem_nil, or_false] at hz; rcases hz with rfl | rfl; all_goals decide)
  have HMU := Aside0.mk hmu
  have HR := Aside0.mk h
  have HBB := Aside0.mk hB
  have HST0 := Aside0.mk hst0
  have HDIR := Aside0.mk hdir
  have HF := Aside0.mk hf
  clear hmu h hB hst0 hdir hf
  go_enter Tryd.func42, Tryd.ntmps42
  go_wp2_with (go_at_call 41; refine HMU.out.mono ?_)
  rintro e w1 ⟨at1, hr1, hst1, ⟨cc, hx, hc, rfl⟩ | ⟨t, hx, rfl⟩⟩
  · have u1 : (cc == 0) = false := beq_eq_false_iff_ne.2 hc
    have u2 : decide (cc = 0) = false := decide_eq_false hc
    have HR1 := Aside0.mk hr1
    have HST := Aside0.mk (HST0.out.trans hst1)
    have HX : Aside0 (mustP [wOpen, wType] (restB s at_) = .error cc) := ⟨hx⟩
    have HC := Aside0.mk hc
    clear hr1 hst1 hx hc
    go_wp2
    go_ret
    exact ⟨at1, l, HR1.out, HST.out.weak, .inl ⟨cc, by rw [nodeP, HX.out]; rfl, HC.out, rfl⟩⟩
  · have HR1 := Aside0.mk hr1
    have HST := Aside0.mk (HST0.out.trans hst1)
    have HX : Aside0 (mustP [wOpen, wType] (restB s at_) = .ok ((), restB s at1)) := ⟨hx⟩
    have hB1 : B ≤ w1.heap.size := Nat.le_trans HBB.out HST.out.below.size
    have hst2 : RdStep none B g w1 (w1.alloc (.cells #[.string (bsB wRegular), .string (bsB wSymlink), .string (bsB wDir)] 9)) := (RdStep.refl none B g w1).alloc hB1 _
    have hon := one_rd B g s at1 l (w1.alloc (.cells #[.string (bsB wRegular), .string (bsB wSymlink), .string (bsB wDir)] 9)) (hr1.alloc _) w1.heap.size 3 [bsB wRegular, bsB wSymlink, bsB wDir] (blk_new w1 _) (by simp) (by simp) (fun z hz => by simp only [List.mem_cons, List.not_mem_nil, or_false] at hz; rcases hz with rfl | rfl | rfl; all_goals decide)
    have HON := Aside0.mk hon
    have HST2 := Aside0.mk hst2
    clear hr1 hst1 hx hst2 hon hB1
    go_wp2_with (go_at_call 61; refine HON.out.mono ?_)
    rintro e w2 ⟨at2, hr2, hst3, ⟨cc, hx, hc, rfl⟩ | ⟨t, hx, rfl⟩⟩
    · have u1 : (cc == 0) = false := beq_eq_false_iff_ne.2 hc
      have u2 : decide (cc = 0) = false := decide_eq_false hc
      have HR2 := Aside0.mk hr2
      have HST3 := Aside0.mk ((HST.out.trans HST2.out).trans hst3)
      have HX2 : Aside0 (oneP [wRegular, wSymlink, wDir] (restB s at1) = .error cc) := ⟨hx⟩
      have HC := Aside0.mk hc
      clear hr2 hst3 hx hc
      go_wp2
      go_ret
      exact ⟨at2, l, HR2.out, HST3.out.weak, .inl ⟨cc, by rw [nodeP, HX.out, Rd.then_ok, HX2.out]; rfl, HC.out, rfl⟩⟩
    · have HR2 := Aside0.mk hr2
      have HST3 := Aside0.mk ((HST.out.trans HST2.out).trans hst3)
      have HX2 : Aside0 (oneP [wRegular, wSymlink, wDir] (restB s at1) = .ok (t, restB s at2)) := ⟨hx⟩
      obtain ⟨v, hv, hov⟩ := hr2.blk
      have hB2 : B ≤ w2.heap.size := Nat.le_trans HBB.out HST3.out.below.size
      obtain ⟨A, cp, rfl, hcap⟩ := hov.slice_
      have c2 : w2.cell? ⟨g, 2, none⟩ = some (.slice A l.length cp) := by rw [blk_cell hv]; rfl
      have HV := Aside0.mk hv
      have HOV := Aside0.mk hov
      have HB2 := Aside0.mk hB2
      clear hr2 hst3 hx hB2 hv hov
      go_wp2_with (at_builtin; refine OwnRow.append (w0 := w2) (W := w2) B rfl (.tmp 36) (.tmp 39) 23 68 (.agg #[(.string ⟨#[]⟩), (.int .i64 0), (.string ⟨#[]⟩)]) 3 40 rfl Tryd.underlying23 info68 rfl (by decide) (by decide) (.slice A l.length cp) l ⟨path, 4, []⟩ [.string (bsB path), .int .i64 4, .string ⟨#[]⟩] rfl rfl rfl rfl ?aH HOV.out (Below.refl _ _) HB2.out ?aL ?_)
      case aH => intro u hu; simp only [List.mem_cons, List.not_mem_nil, or_false] at hu; rcases hu with rfl | rfl | rfl; all_goals rfl
      case aL => omega
      rintro v1 w3 ho3 hb3 hg3 hn3
      obtain ⟨A3, cp3, hv1, hcap3⟩ := ho3.slice_
      rw [List.length_append, List.length_singleton] at hv1
      subst hv1
      obtain ⟨hr4, hst4⟩ := RdAt.appended HV.out HR2.out.base HR2.out.le HR2.out.small HOV.out ho3 hb3 hg3 hn3
      have hg3b : w3.heap[g]? = some (.cells #[.string s, .int .i64 at2, .slice A l.length cp] 71 (0, 0)) := blk_grown HV.out hg3 (HOV.out.ne_block HV.out (by decide))
      have c3 : w3.cell? ⟨g, 2, none⟩ = some (.slice A l.length cp) := by rw [blk_cell hg3b]; rfl
      have f3 := blk_frozen hg3b 2
      have HR4 := Aside0.mk hr4
      have HST4 := Aside0.mk (HST3.out.weak.trans hst4)
      have HB4 : Aside0 (B ≤ (w3.setCell ⟨g, 2, none⟩ (.slice A3 (l.length + 1) cp3)).heap.size) := ⟨Nat.le_trans HB2.out hst4.below.size⟩
      clear hr4 hst4 hg3b ho3 hb3 hg3 hn3 c2
      have HLT : Aside0 ((restB s at2).length < f) := ⟨by
        have h1 := must_less1 HX.out
        have h2 := one_less HX2.out
        have := HF.out
        omega⟩
      by_cases ht : t = wDir
      · have v0 : (bsB t).toList = t := toList_data _
        have v1' : ((bsB t).toList == [100, 105, 114, 101, 99, 116, 111, 114, 121]) = true := by rw [v0, ht]; rfl
        have v3 : (bsB t).toList = [100, 105, 114, 101, 99, 116, 111, 114, 121] := by rw [v0, ht]; rfl
        have HNP : Aside0 (nodeP (f + 1) path deep l (restB s at_) = dirP f path deep [] (l ++ [⟨path, 4, []⟩]) (restB s at2)) := ⟨by rw [nodeP, HX.out, Rd.then_ok, HX2.out, Rd.then_ok, if_pos ht]⟩
        clear ht v0
        have hd1 := HDIR.out B g s at2 (l ++ [⟨path, 4, []⟩]) _ path deep HR4.out HB4.out (by simp; omega) hd hp HLT.out
        have HD1 := Aside0.mk hd1
        clear hd1
        go_wp2_with (go_at_call 62; refine HD1.out.mono ?_)
        rintro e w5 ⟨at3, l3, hr5, hst5, hh⟩
        have HR5 := Aside0.mk hr5
        have HST5 := Aside0.mk hst5
        clear hr5 hst5
        rcases hh with ⟨cc, hx, hc, rfl⟩ | ⟨hx, rfl⟩
        · have HX3 := Aside0.mk hx
          have HC := Aside0.mk hc
          clear hx hc
          go_wp2
          go_ret
          exact ⟨at3, l3, HR5.out, HST4.out.trans HST5.out, .inl ⟨cc, by rw [HNP.out, HX3.out], HC.out, rfl⟩⟩
        · have HX3 := Aside0.mk hx
          clear hx
          go_wp2
          go_ret
          exact ⟨at3, l3, HR5.out, HST4.out.trans HST5.out, .inr ⟨by rw [HNP.out, HX3.out], rfl⟩⟩
      · have v0 : (bsB t).toList = t := toList_data _
        have v1' : ((bsB t).toList == [100, 105, 114, 101, 99, 116, 111, 114, 121]) = false := by rw [v0]; exact beq_eq_false_iff_ne.2 ht
        have v3 : ¬ (bsB t).toList = [100, 105, 114, 101, 99, 116, 111, 114, 121] := by rw [v0]; exact ht
        have HT := Aside0.mk ht
        clear ht v0
        have hsz4 : (w3.setCell ⟨g, 2, none⟩ (.slice A3 (l.length + 1) cp3)).heap.size = w3.heap.size := by simp [World.setCell]
        have hn4 := NodeAt.new HR4.out HB4.out ⟨path, 0, []⟩
        have hr4 := HR4.out.alloc (.cells #[.string (bsB path), .int .i64 0, .string (bsB [])] 68)
        have hBn : B ≤ ((w3.setCell ⟨g, 2, none⟩ (.slice A3 (l.length + 1) cp3)).alloc (.cells #[.string (bsB path), .int .i64 0, .string (bsB [])] 68)).heap.size := Nat.le_trans HB4.out (by simp)
        have hfi := file_rd B g _ s at2 _ _ _ hr4 hn4 hBn
        have hli := link_rd B g _ s at2 _ _ _ hr4 hn4 hBn
        have hal : RdStep none B g (w3.setCell ⟨g, 2, none⟩ (.slice A3 (l.length + 1) cp3)) ((w3.setCell ⟨g, 2, none⟩ (.slice A3 (l.length + 1) cp3)).alloc (.cells #[.string (bsB path), .int .i64 0, .string (bsB [])] 68)) := (RdStep.refl none B g _).alloc HB4.out _
        rw [hsz4] at hfi hli
        have HFI := Aside0.mk hfi
        have HLI := Aside0.mk hli
        have HAL := Aside0.mk hal
        have HSZ4 := Aside0.mk hsz4
        clear hn4 hr4 hBn hfi hli hal hsz4
        by_cases ht2 : t = wRegular
        · have v0 : (bsB t).toList = t := toList_data _
          have u1' : ((bsB t).toList == [114, 101, 103, 117, 108, 97, 114]) = true := by rw [v0, ht2]; rfl
          have u3' : (bsB t).toList = [114, 101, 103, 117, 108, 97, 114] := by rw [v0, ht2]; rfl
          have HLF : Aside0 (nodeP (f + 1) path deep l (restB s at_) = (fileP (restB s at2)).then fun x r => (mustP [wShut] r).then fun _ r => .ok (l ++ [⟨path, x.1, x.2⟩], r)) := ⟨by rw [nodeP, HX.out, Rd.then_ok, HX2.out, Rd.then_ok, if_neg HT.out, if_pos ht2]⟩
          clear ht2 v0
          go_wp2_with (go_at_call 63; refine HFI.out.mono ?_)
          rintro e w5 ⟨at3, n3, hr5, hn5, hst5, hh⟩
          have HST5 : Aside0 (RdStep none B g (w3.setCell ⟨g, 2, none⟩ (.slice A3 (l.length + 1) cp3)) w5) := ⟨hst5 _ HB4.out (by rw [HSZ4.out]; exact Nat.le_refl _) HAL.out⟩
          obtain ⟨b5, c5, hb5, ho5, hc5, hcells⟩ := hr5.row (by simp)
          rw [List.length_append, List.length_singleton] at hb5 ho5 hc5
          have g2 : w5.cell? ⟨g, 2, none⟩ = some (.slice (some ⟨b5, 0, none⟩) (l.length + 1) c5) := by rw [blk_cell hb5]; rfl
          have n0 : w5.cell? ⟨w3.heap.size, 0, none⟩ = some (.string (bsB n3.path)) := by rw [blk_cell hn5.blk]; rfl
          have n1 : w5.cell? ⟨w3.heap.size, 1, none⟩ = some (.int .i64 n3.kind) := by rw [blk_cell hn5.blk]; rfl
          have n2 : w5.cell? ⟨w3.heap.size, 2, none⟩ = some (.string (bsB n3.data)) := by rw [blk_cell hn5.blk]; rfl
          obtain ⟨z0, y0, q0⟩ := hcells l.length (by simp) 0 (by decide)
          obtain ⟨z1, y1, q1⟩ := hcells l.length (by simp) 1 (by decide)
          obtain ⟨z2, y2, q2⟩ := hcells l.length (by simp) 2 (by decide)
          rw [Nat.add_zero] at z0 q0
          have ix1 : ((l.length : Int) < ((l.length + 1 : Nat) : Int)) := by omega
          have hstd := RdAt.stored (i := l.length) (l := l ++ [(⟨path, 4, []⟩ : Nd)]) (by rw [List.length_append, List.length_singleton]; exact hb5) hr5.base hr5.le hr5.small (by rw [List.length_append, List.length_singleton]; exact ho5) (by simp) n3
          have HSTD := Aside0.mk hstd
          have HR5 := Aside0.mk hr5
          have HN5 := Aside0.mk hn5
          have hmix : Tryd.prog.follows .mixedOrders = true := by kernel_rfl
          clear hstd hr5 hn5 hst5 hb5 ho5 hcells
          rcases hh with ⟨cc, hx, hc, rfl⟩ | ⟨d, hx, hd3, rfl⟩
          · have uu1 : (cc == 0) = false := beq_eq_false_iff_ne.2 hc
            have uu2 : decide (cc = 0) = false := decide_eq_false hc
            have HX3 := Aside0.mk hx
            have HC := Aside0.mk hc
            clear hx hc
            go_wp2
            go_region
            go_wp2
            go_ret
            exact ⟨at3, _, HSTD.out.1.drew, ((HST4.out.trans HST5.out.weak).trans HSTD.out.2).drew, .inl ⟨cc, by rw [HLF.out, HX3.out]; rfl, HC.out, rfl⟩⟩
          · have HX3 := Aside0.mk hx
            have HD3 := Aside0.mk hd3
            clear hx hd3
            go_wp2
            go_region
            obtain ⟨w6, hw6⟩ : ∃ w6, w6 = (((w5.setCell ⟨b5, l.length * 3, none⟩ (.string (bsB n3.path))).setCell ⟨b5, l.length * 3 + 1, none⟩ (.int .i64 n3.kind)).setCell ⟨b5, l.length * 3 + 2, none⟩ (.string (bsB n3.data))).drew := ⟨_, rfl⟩
            have hr6 : RdAt B g s at3 ((l ++ [(⟨path, 4, []⟩ : Nd)]).set l.length n3) w6 := by rw [hw6]; exact HSTD.out.1.drew
            have hst6 : RdStep (some 68) B g w w6 := by rw [hw6]; exact ((HST4.out.trans HST5.out.weak).trans HSTD.out.2).drew
            rw [← hw6]
            have hset : (l ++ [(⟨path, 4, []⟩ : Nd)]).set l.length n3 = l ++ [⟨path, d.1, d.2⟩] := by rw [HD3.out]; simp
            rw [hset] at hr6
            have hB6 : B ≤ w6.heap.size := Nat.le_trans HBB.out hst6.below.size
            have hst7 : RdStep none B g w6 (w6.alloc (.cells #[.string (bsB wShut)] 9)) := (RdStep.refl none B g w6).alloc hB6 _
            have hmu := must_rd B g s at3 _ (w6.alloc (.cells #[.string (bsB wShut)] 9)) (hr6.alloc _) (Nat.le_trans hB6 hst7.below.size) w6.heap.size 1 [bsB wShut] (blk_new w6 _) (by simp) (fun z hz => by obtain rfl := List.mem_singleton.1 hz; decide)
            have HMU6 := Aside0.mk hmu
            have HST6 := Aside0.mk (hst6.trans hst7.weak)
            clear hr6 hst6 hset hB6 hst7 hmu hw6
            go_wp2_with (go_at_call 41; refine HMU6.out.mono ?_)
            rintro e w7 ⟨at4, hr7, hst7, ⟨cc, hx, hc, rfl⟩ | ⟨t7, hx, rfl⟩⟩
            · have HX4 : Aside0 (mustP [wShut] (restB s at3) = .error cc) := ⟨hx⟩
              have HR7 := Aside0.mk hr7
              have HST7 := Aside0.mk hst7
              have HC := Aside0.mk hc
              clear hx hc hr7 hst7
              go_wp2
              go_ret
              exact ⟨at4, _, HR7.out, HST6.out.trans HST7.out.weak, .inl ⟨cc, by rw [HLF.out, HX3.out, Rd.then_ok, HX4.out]; rfl, HC.out, rfl⟩⟩
            · have HX4 : Aside0 (mustP [wShut] (restB s at3) = .ok ((), restB s at4)) := ⟨hx⟩
              have HR7 := Aside0.mk hr7
              have HST7 := Aside0.mk hst7
              clear hx hr7 hst7
              go_wp2
              go_ret
              exact ⟨at4, _, HR7.out, HST6.out.trans HST7.out.weak, .inr ⟨by rw [HLF.out, HX3.out, Rd.then_ok, HX4.out]; rfl, rfl⟩⟩
        · have v0 : (bsB t).toList = t := toList_data _
          have u1' : ((bsB t).toList == [114, 101, 103, 117, 108, 97, 114]) = false := by rw [v0]; exact beq_eq_false_iff_ne.2 ht2
          have u3' : ¬ (bsB t).toList = [114, 101, 103, 117, 108, 97, 114] := by rw [v0]; exact ht2
          have HLF : Aside0 (nodeP (f + 1) path deep l (restB s at_) = (linkP (restB s at2)).then fun x r => (mustP [wShut] r).then fun _ r => .ok (l ++ [⟨path, x.1, x.2⟩], r)) := ⟨by rw [nodeP, HX.out, Rd.then_ok, HX2.out, Rd.then_ok, if_neg HT.out, if_neg ht2]⟩
          clear ht2 v0
          go_wp2_with (go_at_call 64; refine HLI.out.mono ?_)
          rintro e w5 ⟨at3, n3, hr5, hn5, hst5, hh⟩
          have HST5 : Aside0 (RdStep none B g (w3.setCell ⟨g, 2, none⟩ (.slice A3 (l.length + 1) cp3)) w5) := ⟨hst5 _ HB4.out (by rw [HSZ4.out]; exact Nat.le_refl _) HAL.out⟩
          obtain ⟨b5, c5, hb5, ho5, hc5, hcells⟩ := hr5.row (by simp)
          rw [List.length_append, List.length_singleton] at hb5 ho5 hc5
          have g2 : w5.cell? ⟨g, 2, none⟩ = some (.slice (some ⟨b5, 0, none⟩) (l.length + 1) c5) := by rw [blk_cell hb5]; rfl
          have n0 : w5.cell? ⟨w3.heap.size, 0, none⟩ = some (.string (bsB n3.path)) := by rw [blk_cell hn5.blk]; rfl
          have n1 : w5.cell? ⟨w3.heap.size, 1, none⟩ = some (.int .i64 n3.kind) := by rw [blk_cell hn5.blk]; rfl
          have n2 : w5.cell? ⟨w3.heap.size, 2, none⟩ = some (.string (bsB n3.data)) := by rw [blk_cell hn5.blk]; rfl
          obtain ⟨z0, y0, q0⟩ := hcells l.length (by simp) 0 (by decide)
          obtain ⟨z1, y1, q1⟩ := hcells l.length (by simp) 1 (by decide)
          obtain ⟨z2, y2, q2⟩ := hcells l.length (by simp) 2 (by decide)
          rw [Nat.add_zero] at z0 q0
          have ix1 : ((l.length : Int) < ((l.length + 1 : Nat) : Int)) := by omega
          have hstd := RdAt.stored (i := l.length) (l := l ++ [(⟨path, 4, []⟩ : Nd)]) (by rw [List.length_append, List.length_singleton]; exact hb5) hr5.base hr5.le hr5.small (by rw [List.length_append, List.length_singleton]; exact ho5) (by simp) n3
          have HSTD := Aside0.mk hstd
          have HR5 := Aside0.mk hr5
          have HN5 := Aside0.mk hn5
          have hmix : Tryd.prog.follows .mixedOrders = true := by kernel_rfl
          clear hstd hr5 hn5 hst5 hb5 ho5 hcells
          rcases hh with ⟨cc, hx, hc, rfl⟩ | ⟨d, hx, hd3, rfl⟩
          · have uu1 : (cc == 0) = false := beq_eq_false_iff_ne.2 hc
            have uu2 : decide (cc = 0) = false := decide_eq_false hc
            have HX3 := Aside0.mk hx
            have HC := Aside0.mk hc
            clear hx hc
            go_wp2
            go_region
            go_wp2
            go_ret
            exact ⟨at3, _, HSTD.out.1.drew, ((HST4.out.trans HST5.out.weak).trans HSTD.out.2).drew, .inl ⟨cc, by rw [HLF.out, HX3.out]; rfl, HC.out, rfl⟩⟩
          · have HX3 := Aside0.mk hx
            have HD3 := Aside0.mk hd3
            clear hx hd3
            go_wp2
            go_region
            obtain ⟨w6, hw6⟩ : ∃ w6, w6 = (((w5.setCell ⟨b5, l.length * 3, none⟩ (.string (bsB n3.path))).setCell ⟨b5, l.length * 3 + 1, none⟩ (.int .i64 n3.kind)).setCell ⟨b5, l.length * 3 + 2, none⟩ (.string (bsB n3.data))).drew := ⟨_, rfl⟩
            have hr6 : RdAt B g s at3 ((l ++ [(⟨path, 4, []⟩ : Nd)]).set l.length n3) w6 := by rw [hw6]; exact HSTD.out.1.drew
            have hst6 : RdStep (some 68) B g w w6 := by rw [hw6]; exact ((HST4.out.trans HST5.out.weak).trans HSTD.out.2).drew
            rw [← hw6]
            have hset : (l ++ [(⟨path, 4, []⟩ : Nd)]).set l.length n3 = l ++ [⟨path, d.1, d.2⟩] := by rw [HD3.out]; simp
            rw [hset] at hr6
            have hB6 : B ≤ w6.heap.size := Nat.le_trans HBB.out hst6.below.size
            have hst7 : RdStep none B g w6 (w6.alloc (.cells #[.string (bsB wShut)] 9)) := (RdStep.refl none B g w6).alloc hB6 _
            have hmu := must_rd B g s at3 _ (w6.alloc (.cells #[.string (bsB wShut)] 9)) (hr6.alloc _) (Nat.le_trans hB6 hst7.below.size) w6.heap.size 1 [bsB wShut] (blk_new w6 _) (by simp) (fun z hz => by obtain rfl := List.mem_singleton.1 hz; decide)
            have HMU6 := Aside0.mk hmu
            have HST6 := Aside0.mk (hst6.trans hst7.weak)
            clear hr6 hst6 hset hB6 hst7 hmu hw6
            go_wp2_with (go_at_call 41; refine HMU6.out.mono ?_)
            rintro e w7 ⟨at4, hr7, hst7, ⟨cc, hx, hc, rfl⟩ | ⟨t7, hx, rfl⟩⟩
            · have HX4 : Aside0 (mustP [wShut] (restB s at3) = .error cc) := ⟨hx⟩
              have HR7 := Aside0.mk hr7
              have HST7 := Aside0.mk hst7
              have HC := Aside0.mk hc
              clear hx hc hr7 hst7
              go_wp2
              go_ret
              exact ⟨at4, _, HR7.out, HST6.out.trans HST7.out.weak, .inl ⟨cc, by rw [HLF.out, HX3.out, Rd.then_ok, HX4.out]; rfl, HC.out, rfl⟩⟩
            · have HX4 : Aside0 (mustP [wShut] (restB s at3) = .ok ((), restB s at4)) := ⟨hx⟩
              have HR7 := Aside0.mk hr7
              have HST7 := Aside0.mk hst7
              clear hx hr7 hst7
              go_wp2
              go_ret
              exact ⟨at4, _, HR7.out, HST6.out.trans HST7.out.weak, .inr ⟨by rw [HLF.out, HX3.out, Rd.then_ok, HX4.out]; rfl, rfl⟩⟩
end Go.Proofs.YtncokgdfkbgflaaDoor

namespace Go.Proofs.YtncokgdfkbgflaaDoor
open Go.RowKit Go.Shelf Go.Lib Go.Proofs.YtncokgdfkbgflaaDoorW.PrintWords Go.Proofs.YtncokgdfkbgflaaDoorW.PrintMore
set_option linter.unusedVariables false
set_option linter.unusedSimpArgs false
def entryP (f : Nat) (path : List UInt8) (deep : Nat) (last : List UInt8) (l : List Nd) (s : List UInt8) : Rd (List UInt8 × List Nd) :=
  (mustP [wOpen, wName] s).then fun _ r => (nameP last deep l.length r).then fun nm r => (mustP [wNode] r).then fun _ r =>
    (nodeP f (headOf path ++ nm) (deep + 1) l r).then fun l r => (mustP [wShut] r).then fun _ r => .ok ((nm, l), r)
theorem Rd.then_then {α β γ : Type} (x : Rd α) (f : α → List UInt8 → Rd β) (g : β → List UInt8 → Rd γ) : (x.then f).then g = x.then fun a r => (f a r).then g := by
  cases x with
  | error e => rfl
  | ok y => rfl
theorem dirP_is (f : Nat) (path : List UInt8) (deep : Nat) (last : List UInt8) (l : List Nd) (s : List UInt8) :
    dirP (f + 1) path deep last l s = (oneP [wEntry, wShut] s).then fun t r => if t = wShut then .ok (l, r) else (entryP f path deep last l r).then fun x r => dirP f path deep x.1 x.2 r := by
  rw [dirP]
  congr 1
  funext t r
  by_cases ht : t = wShut
  · rw [if_pos ht, if_pos ht]
  · rw [if_neg ht, if_neg ht, entryP]
    simp only [Rd.then_then]
    rfl
def MayOK : Prop := ∀ (t : List UInt8) (w : World), t.length ≤ 255 → Calls Tryd.prog 133 #[.string (bsB t)] w fun e w' => e = .returned (.bool (mayName t)) ∧ Below w.heap.size w w'
def EnS (B g : Nat) (s : ByteArray) (w : World) (x : Rd (List UInt8 × List Nd)) (e : Ending) (w' : World) : Prop :=
  ∃ at' l', RdAt B g s at' l' w' ∧ RdStep (some 68) B g w w' ∧ ((∃ c u, x = .error c ∧ c ≠ 0 ∧ e = .returned (.tuple #[.string u, .int .i64 c])) ∨ (∃ nm, x = .ok ((nm, l'), restB s at') ∧ e = .returned (.tuple #[.string (bsB nm), .int .i64 0])))
theorem bsB_add (a b : List UInt8) : bsB a ++ bsB b = bsB (a ++ b) := by
  apply ByteArray.ext
  simp [bsB]
set_option maxRecDepth 100000 in
set_option maxHeartbeats 8000000 in
theorem entry_rd (f : Nat) (hnode : NodeOK f) (hMay : MayOK) (B g : Nat) (s : ByteArray) (at_ : Nat) (l : List Nd) (w : World) (path last : List UInt8) (deep : Nat) (h : RdAt B g s at_ l w) (hB : B ≤ w.heap.size) (hl : l.length ≤ 256) (hd : deep ≤ 64) (hp : path.length ≤ 256 * deep) (hf : (restB s at_).length < f + 1) :
    Calls Tryd.prog 86 #[.pointer (some ⟨g, 0, none⟩), .string (bsB path), .string (bsB last), .int .i64 deep] w (EnS B g s w (entryP f path deep last l (restB s at_))) := by
  have hst0 : RdStep none B g w (w.alloc (.cells #[.string (bsB wOpen), .string (bsB wName)] 9)) := (RdStep.refl none B g w).alloc hB _
  have hmu := must_rd B g s at_ l (w.alloc (.cells #[.string (bsB wOpen), .string (bsB wName)] 9)) (h.alloc _) (Nat.le_trans hB hst0.below.size) w.heap.size 2 [bsB wOpen, bsB wName] (blk_new w _) (by simp) (fun z hz => by simp only [List.mem_cons, List.not_mem_nil, or_false] at hz; rcases hz with rfl | rfl; all_goals decide)
  have HMU := Aside0.mk hmu
  have HR := Aside0.mk h
  have HBB := Aside0.mk hB
  have HST0 := Aside0.mk hst0
  have HNODE := Aside0.mk hnode
  have HMAY := Aside0.mk hMay
  have HF := Aside0.mk hf
  clear hmu h hB hst0 hnode hf hMay
  go_enter Tryd.func86, Tryd.ntmps86
  go_wp2_with (go_at_call 41; refine HMU.out.mono ?_)
  rintro e w1 ⟨at1, hr1, hst1, ⟨cc, hx, hc, rfl⟩ | ⟨t, hx, rfl⟩⟩
  · have u1 : (cc == 0) = false := beq_eq_false_iff_ne.2 hc
    have u2 : decide (cc = 0) = false := decide_eq_false hc
    have HR1 := Aside0.mk hr1
    have HST := Aside0.mk (HST0.out.trans hst1)
    have HX : Aside0 (mustP [wOpen, wName] (restB s at_) = .error cc) := ⟨hx⟩
    have HC := Aside0.mk hc
    clear hr1 hst1 hx hc
    go_wp2
    go_ret2
    exact ⟨at1, l, HR1.out, HST.out.weak, .inl ⟨cc, _, by rw [entryP, HX.out]; rfl, HC.out, rfl⟩⟩
  have HR1 := Aside0.mk hr1
  have HST := Aside0.mk (HST0.out.trans hst1)
  have HX : Aside0 (mustP [wOpen, wName] (restB s at_) = .ok ((), restB s at1)) := ⟨hx⟩
  clear hr1 hst1 hx
  go_wp2_with (go_at_call 112; refine (name_rd B g s at1 l _ HR1.out last deep (by omega) (by omega) HMAY.out).mono ?_)
  rintro e w2 ⟨at2, hr2, hst2, ⟨cc, hx, hc, rfl⟩ | ⟨nm, hx, rfl⟩⟩
  · have u1 : (cc == 0) = false := beq_eq_false_iff_ne.2 hc
    have u2 : decide (cc = 0) = false := decide_eq_false hc
    have HR2 := Aside0.mk hr2
    have HST2 := Aside0.mk (HST.out.trans hst2)
    have HX2 := Aside0.mk hx
    have HC := Aside0.mk hc
    clear hr2 hst2 hx hc
    go_wp2
    go_ret2
    exact ⟨at2, l, HR2.out, HST2.out.weak, .inl ⟨cc, _, by rw [entryP, HX.out, Rd.then_ok, HX2.out]; rfl, HC.out, rfl⟩⟩
  have HR2 := Aside0.mk hr2
  have HST2 := Aside0.mk (HST.out.trans hst2)
  have HX2 := Aside0.mk hx
  have hB2 : B ≤ w2.heap.size := Nat.le_trans HBB.out HST2.out.below.size
  have hst3 : RdStep none B g w2 (w2.alloc (.cells #[.string (bsB wNode)] 9)) := (RdStep.refl none B g w2).alloc hB2 _
  have hmu := must_rd B g s at2 l (w2.alloc (.cells #[.string (bsB wNode)] 9)) (hr2.alloc _) (Nat.le_trans hB2 hst3.below.size) w2.heap.size 1 [bsB wNode] (blk_new w2 _) (by simp) (fun z hz => by obtain rfl := List.mem_singleton.1 hz; decide)
  have HMU2 := Aside0.mk hmu
  have HST3 := Aside0.mk hst3
  have HNM := Aside0.mk (name_sound hx)
  clear hr2 hst2 hx hst3 hmu hB2
  go_wp2_with (go_at_call 41; refine HMU2.out.mono ?_)
  rintro e w3 ⟨at3, hr3, hst3, ⟨cc, hx, hc, rfl⟩ | ⟨t, hx, rfl⟩⟩
  · have u1 : (cc == 0) = false := beq_eq_false_iff_ne.2 hc
    have u2 : decide (cc = 0) = false := decide_eq_false hc
    have HR3 := Aside0.mk hr3
    have HST4 := Aside0.mk ((HST2.out.trans HST3.out).trans hst3)
    have HX3 : Aside0 (mustP [wNode] (restB s at2) = .error cc) := ⟨hx⟩
    have HC := Aside0.mk hc
    clear hr3 hst3 hx hc
    go_wp2
    go_ret2
    exact ⟨at3, l, HR3.out, HST4.out.weak, .inl ⟨cc, _, by rw [entryP, HX.out, Rd.then_ok, HX2.out, Rd.then_ok, HX3.out]; rfl, HC.out, rfl⟩⟩
  have HR3 := Aside0.mk hr3
  have HST4 := Aside0.mk ((HST2.out.trans HST3.out).trans hst3)
  have HX3 : Aside0 (mustP [wNode] (restB s at2) = .ok ((), restB s at3)) := ⟨hx⟩
  have HLT : Aside0 ((restB s at3).length < f) := ⟨by
    have h1 := must_less1 HX.out
    have h2 := name_less HX2.out
    have h3 := must_less1 hx
    have := HF.out
    omega⟩
  have hnl := mayName_le HNM.out.1
  have hd64 := HNM.out.2.2.2.1
  have hl256 := HNM.out.2.2.1
  have HB3 : Aside0 (B ≤ w3.heap.size) := ⟨Nat.le_trans HBB.out HST4.out.below.size⟩
  have hdd : Tryd.prog.follows .mixedOrders = true := by kernel_rfl
  have key : ∀ q : List UInt8, q = headOf path → Calls Tryd.prog 42 #[.pointer (some ⟨g, 0, none⟩), .string (bsB q ++ bsB nm), .int .i64 ((deep : Int) + 1)] w3 (NoS B g s w3 (nodeP f (headOf path ++ nm) (deep + 1) l (restB s at3))) := by
    rintro q rfl
    rw [bsB_add]
    exact HNODE.out B g s at3 l w3 (headOf path ++ nm) (deep + 1) hr3 HB3.out hl256 (by omega) (by
      rw [List.length_append]
      have : (headOf path).length ≤ path.length + 1 := by unfold headOf; split <;> simp
      omega) HLT.out
  have KEY := Aside0.mk key
  have sz1 : (bsB path).size = path.length := by simp [bsB, ByteArray.size]
  have sz2 : (bsB nm).size = nm.length := by simp [bsB, ByteArray.size]
  have sz3 : (9223372036854775807 < (bsB path).size + (bsB nm).size) = False := eq_false (by rw [sz1, sz2]; omega)
  have sz4 : (9223372036854775807 < (bsB path).size + 1) = False := eq_false (by rw [sz1]; omega)
  have sz5 : (9223372036854775807 < (bsB path).size + 1 + (bsB nm).size) = False := eq_false (by rw [sz1, sz2]; omega)
  clear hr3 hst3 hx key sz1 sz2
  have wr1 : wrap64 ((deep : Int) + 1) = (deep : Int) + 1 := by unfold wrap64; omega
  have WR := Aside0.mk wr1
  clear wr1
  by_cases hpe : path = []
  · have v0 : (bsB path).toList = path := toList_data _
    have v1 : ((bsB path).toList == ([] : List UInt8)) = true := by rw [v0, hpe]; rfl
    have v2 : (bsB path).toList.isEmpty = true := by rw [v0, hpe]; rfl
    have v3 : (bsB path).toList = [] := by rw [v0, hpe]
    have HPE := Aside0.mk hpe
    clear hpe v0
    have KEY2 := Aside0.mk (KEY.out path (by rw [headOf, if_pos HPE.out, HPE.out]))
    go_wp2_with (go_at_call 42; refine KEY2.out.mono ?_)
    rintro e w4 ⟨at4, l4, hr4, hst5, ⟨cc, hx, hc, rfl⟩ | ⟨hx, rfl⟩⟩
    · have u1 : (cc == 0) = false := beq_eq_false_iff_ne.2 hc
      have u2 : decide (cc = 0) = false := decide_eq_false hc
      have HR4 := Aside0.mk hr4
      have HST5 := Aside0.mk (HST4.out.weak.trans hst5)
      have HX4 := Aside0.mk hx
      have HC := Aside0.mk hc
      clear hr4 hst5 hx hc
      go_wp2
      go_ret2
      exact ⟨at4, l4, HR4.out, HST5.out, .inl ⟨cc, _, by rw [entryP, HX.out, Rd.then_ok, HX2.out, Rd.then_ok, HX3.out, Rd.then_ok, HX4.out]; rfl, HC.out, rfl⟩⟩
    · have HX4 := Aside0.mk hx
      have HST5 := Aside0.mk (HST4.out.weak.trans hst5)
      have hB4 : B ≤ w4.heap.size := Nat.le_trans HBB.out HST5.out.below.size
      have hst6 : RdStep none B g w4 (w4.alloc (.cells #[.string (bsB wShut)] 9)) := (RdStep.refl none B g w4).alloc hB4 _
      have hmu := must_rd B g s at4 l4 (w4.alloc (.cells #[.string (bsB wShut)] 9)) (hr4.alloc _) (Nat.le_trans hB4 hst6.below.size) w4.heap.size 1 [bsB wShut] (blk_new w4 _) (by simp) (fun z hz => by obtain rfl := List.mem_singleton.1 hz; decide)
      have HMU4 := Aside0.mk hmu
      have HST6 := Aside0.mk (HST5.out.trans hst6.weak)
      clear hr4 hst5 hx hst6 hmu hB4
      go_wp2_with (go_at_call 41; refine HMU4.out.mono ?_)
      rintro e w5 ⟨at5, hr5, hst5, ⟨cc, hx, hc, rfl⟩ | ⟨t, hx, rfl⟩⟩
      · have HR5 := Aside0.mk hr5
        have HST7 := Aside0.mk (HST6.out.trans hst5.weak)
        have HX5 : Aside0 (mustP [wShut] (restB s at4) = .error cc) := ⟨hx⟩
        have HC := Aside0.mk hc
        clear hr5 hst5 hx hc
        go_wp2
        go_ret2
        exact ⟨at5, l4, HR5.out, HST7.out, .inl ⟨cc, _, by rw [entryP, HX.out, Rd.then_ok, HX2.out, Rd.then_ok, HX3.out, Rd.then_ok, HX4.out, Rd.then_ok, HX5.out]; rfl, HC.out, rfl⟩⟩
      · have HR5 := Aside0.mk hr5
        have HST7 := Aside0.mk (HST6.out.trans hst5.weak)
        have HX5 : Aside0 (mustP [wShut] (restB s at4) = .ok ((), restB s at5)) := ⟨hx⟩
        clear hr5 hst5 hx
        go_wp2
        go_ret2
        exact ⟨at5, l4, HR5.out, HST7.out, .inr ⟨nm, by rw [entryP, HX.out, Rd.then_ok, HX2.out, Rd.then_ok, HX3.out, Rd.then_ok, HX4.out, Rd.then_ok, HX5.out]; rfl, rfl⟩⟩
  · have v0 : (bsB path).toList = path := toList_data _
    have v1 : ((bsB path).toList == ([] : List UInt8)) = false := by rw [v0]; exact beq_eq_false_iff_ne.2 hpe
    have v2 : (bsB path).toList.isEmpty = false := by rw [v0]; cases path with | nil => exact absurd rfl hpe | cons _ _ => rfl
    have v3 : ¬ (bsB path).toList = [] := by rw [v0]; exact hpe
    have HPE := Aside0.mk hpe
    clear hpe v0
    have key2 := KEY.out (path ++ [47]) (by rw [headOf, if_neg HPE.out])
    rw [← bsB_add path [47]] at key2
    have KEY2 := Aside0.mk key2
    clear key2
    go_wp2_with (go_at_call 42; refine KEY2.out.mono ?_)
    rintro e w4 ⟨at4, l4, hr4, hst5, ⟨cc, hx, hc, rfl⟩ | ⟨hx, rfl⟩⟩
    · have u1 : (cc == 0) = false := beq_eq_false_iff_ne.2 hc
      have u2 : decide (cc = 0) = false := decide_eq_false hc
      have HR4 := Aside0.mk hr4
      have HST5 := Aside0.mk (HST4.out.weak.trans hst5)
      have HX4 := Aside0.mk hx
      have HC := Aside0.mk hc
      clear hr4 hst5 hx hc
      go_wp2
      go_ret2
      exact ⟨at4, l4, HR4.out, HST5.out, .inl ⟨cc, _, by rw [entryP, HX.out, Rd.then_ok, HX2.out, Rd.then_ok, HX3.out, Rd.then_ok, HX4.out]; rfl, HC.out, rfl⟩⟩
    · have HX4 := Aside0.mk hx
      have HST5 := Aside0.mk (HST4.out.weak.trans hst5)
      have hB4 : B ≤ w4.heap.size := Nat.le_trans HBB.out HST5.out.below.size
      have hst6 : RdStep none B g w4 (w4.alloc (.cells #[.string (bsB wShut)] 9)) := (RdStep.refl none B g w4).alloc hB4 _
      have hmu := must_rd B g s at4 l4 (w4.alloc (.cells #[.string (bsB wShut)] 9)) (hr4.alloc _) (Nat.le_trans hB4 hst6.below.size) w4.heap.size 1 [bsB wShut] (blk_new w4 _) (by simp) (fun z hz => by obtain rfl := List.mem_singleton.1 hz; decide)
      have HMU4 := Aside0.mk hmu
      have HST6 := Aside0.mk (HST5.out.trans hst6.weak)
      clear hr4 hst5 hx hst6 hmu hB4
      go_wp2_with (go_at_call 41; refine HMU4.out.mono ?_)
      rintro e w5 ⟨at5, hr5, hst5, ⟨cc, hx, hc, rfl⟩ | ⟨t, hx, rfl⟩⟩
      · have HR5 := Aside0.mk hr5
        have HST7 := Aside0.mk (HST6.out.trans hst5.weak)
        have HX5 : Aside0 (mustP [wShut] (restB s at4) = .error cc) := ⟨hx⟩
        have HC := Aside0.mk hc
        clear hr5 hst5 hx hc
        go_wp2
        go_ret2
        exact ⟨at5, l4, HR5.out, HST7.out, .inl ⟨cc, _, by rw [entryP, HX.out, Rd.then_ok, HX2.out, Rd.then_ok, HX3.out, Rd.then_ok, HX4.out, Rd.then_ok, HX5.out]; rfl, HC.out, rfl⟩⟩
      · have HR5 := Aside0.mk hr5
        have HST7 := Aside0.mk (HST6.out.trans hst5.weak)
        have HX5 : Aside0 (mustP [wShut] (restB s at4) = .ok ((), restB s at5)) := ⟨hx⟩
        clear hr5 hst5 hx
        go_wp2
        go_ret2
        exact ⟨at5, l4, HR5.out, HST7.out, .inr ⟨nm, by rw [entryP, HX.out, Rd.then_ok, HX2.out, Rd.then_ok, HX3.out, Rd.then_ok, HX4.out, Rd.then_ok, HX5.out]; rfl, rfl⟩⟩
end Go.Proofs.YtncokgdfkbgflaaDoor

namespace Go.Proofs.YtncokgdfkbgflaaDoor
open Go.RowKit Go.Shelf Go.Lib Go.Proofs.YtncokgdfkbgflaaDoorW.PrintWords Go.Proofs.YtncokgdfkbgflaaDoorW.PrintMore
set_option linter.unusedVariables false
set_option linter.unusedSimpArgs false
theorem entry_less {f : Nat} {path last : List UInt8} {deep : Nat} {l l1 : List Nd} {nm s r : List UInt8} (h : entryP f path deep last l s = .ok ((nm, l1), r)) : r.length + 8 ≤ s.length ∧ l1.length ≤ 256 := by
  rw [entryP] at h
  obtain ⟨_, r1, h1, h⟩ := Rd.then_is h
  obtain ⟨nm2, r2, h2, h⟩ := Rd.then_is h
  obtain ⟨_, r3, h3, h⟩ := Rd.then_is h
  obtain ⟨l4, r4, h4, h⟩ := Rd.then_is h
  obtain ⟨_, r5, h5, h⟩ := Rd.then_is h
  cases h
  have e1 := must_less1 h1
  have e2 := name_less h2
  have e3 := must_less1 h3
  have hl := (name_sound h2).2.2.1
  have e4 := node_less hl h4
  have e5 := must_less1 h5
  obtain ⟨t, _, _, _, h6⟩ := node_sound _ _ _ _ _ _ _ h4 hl
  exact ⟨by omega, h6⟩
set_option maxRecDepth 100000 in
set_option maxHeartbeats 8000000 in
theorem dir_rd (f : Nat) (hN : ∀ f', f' < f → NodeOK f') (hMay : MayOK) : DirOK f := by
  intro B g s at_ l w path deep h hB hl hd hp hf
  have HR := Aside0.mk h
  have HBB := Aside0.mk hB
  have HNN := Aside0.mk hN
  have HMAY := Aside0.mk hMay
  have HF := Aside0.mk hf
  clear h hB hN hf hMay
  go_enter Tryd.func62, Tryd.ntmps62
  go_wp2
  go_loopg [7, 8, 9] f (fun gk v7 _ _ wx => ∃ (last : List UInt8) (at1 : Nat) (l1 : List Nd), v7 = .string (bsB last) ∧ Aside0 (RdAt B g s at1 l1 wx) ∧ Aside0 (RdStep (some 68) B g w wx) ∧ Aside0 (l1.length ≤ 256) ∧ Aside0 ((restB s at1).length < gk ∧ gk ≤ f) ∧ Aside0 (dirP f path deep [] l (restB s at_) = dirP gk path deep last l1 (restB s at1)))
  case atStart => exact ⟨[], at_, l, rfl, HR, ⟨RdStep.refl _ _ _ _⟩, ⟨hl⟩, ⟨HF.out, Nat.le_refl _⟩, ⟨rfl⟩⟩
  case round =>
    obtain ⟨last, at1, l1, rfl, HR1, HST1, HL1, HG, HD⟩ := hrel
    cases gk with
    | zero => exact absurd HG.out.1 (by omega)
    | succ gk =>
      have hB1 : B ≤ wr.heap.size := Nat.le_trans HBB.out HST1.out.below.size
      have hst2 : RdStep none B g wr (wr.alloc (.cells #[.string (bsB wEntry), .string (bsB wShut)] 9)) := (RdStep.refl none B g wr).alloc hB1 _
      have hon := one_rd B g s at1 l1 (wr.alloc (.cells #[.string (bsB wEntry), .string (bsB wShut)] 9)) (HR1.out.alloc _) wr.heap.size 2 [bsB wEntry, bsB wShut] (blk_new wr _) (by simp) (by simp) (fun z hz => by simp only [List.mem_cons, List.not_mem_nil, or_false] at hz; rcases hz with rfl | rfl; all_goals decide)
      have HON := Aside0.mk hon
      have HST2 := Aside0.mk (HST1.out.trans hst2.weak)
      clear hst2 hon hB1
      go_wp2_with (go_at_call 61; refine HON.out.mono ?_)
      rintro e w2 ⟨at2, hr2, hst3, ⟨cc, hx, hc, rfl⟩ | ⟨t, hx, rfl⟩⟩
      · have u1 : (cc == 0) = false := beq_eq_false_iff_ne.2 hc
        have u2 : decide (cc = 0) = false := decide_eq_false hc
        have u3 : (cc != 0) = true := bne_iff_ne.2 hc
        have HR2 := Aside0.mk hr2
        have HST3 := Aside0.mk (HST2.out.trans hst3.weak)
        have HX2 : Aside0 (oneP [wEntry, wShut] (restB s at1) = .error cc) := ⟨hx⟩
        have HC := Aside0.mk hc
        clear hr2 hst3 hx hc
        go_wp2
        go_ret
        exact ⟨at2, l1, HR2.out, HST3.out, .inl ⟨cc, by rw [HD.out, dirP, HX2.out]; rfl, HC.out, rfl⟩⟩
      · have HR2 := Aside0.mk hr2
        have HST3 := Aside0.mk (HST2.out.trans hst3.weak)
        have HX2 : Aside0 (oneP [wEntry, wShut] (restB s at1) = .ok (t, restB s at2)) := ⟨hx⟩
        have HLS := Aside0.mk (one_less hx)
        clear hr2 hst3 hx
        by_cases ht : t = wShut
        · have v0 : (bsB t).toList = t := toList_data _
          have v1 : ((bsB t).toList == [41]) = true := by rw [v0, ht]; rfl
          have v3 : (bsB t).toList = [41] := by rw [v0, ht]; rfl
          have HT := Aside0.mk ht
          clear ht v0
          go_wp2
          go_ret
          exact ⟨at2, l1, HR2.out, HST3.out, .inr ⟨by rw [HD.out, dirP, HX2.out, Rd.then_ok, if_pos HT.out], rfl⟩⟩
        · have v0 : (bsB t).toList = t := toList_data _
          have v1 : ((bsB t).toList == [41]) = false := by rw [v0]; exact beq_eq_false_iff_ne.2 ht
          have v3 : ¬ (bsB t).toList = [41] := by rw [v0]; exact ht
          have HT := Aside0.mk ht
          clear ht v0
          have hen := entry_rd gk (HNN.out gk (by have := HG.out.2; omega)) HMAY.out B g s at2 l1 w2 path last deep HR2.out (Nat.le_trans HBB.out HST3.out.below.size) HL1.out hd hp (by have := HG.out.1; have := HLS.out; omega)
          have HEN := Aside0.mk hen
          have HDE : Aside0 (dirP f path deep [] l (restB s at_) = (entryP gk path deep last l1 (restB s at2)).then fun x r => dirP gk path deep x.1 x.2 r) := ⟨by rw [HD.out, dirP_is, HX2.out, Rd.then_ok, if_neg HT.out]⟩
          clear hen
          go_wp2_with (go_at_call 86; refine HEN.out.mono ?_)
          rintro e w3 ⟨at3, l3, hr3, hst4, ⟨cc, u, hx, hc, rfl⟩ | ⟨nm, hx, rfl⟩⟩
          · have u1 : (cc == 0) = false := beq_eq_false_iff_ne.2 hc
            have u2 : decide (cc = 0) = false := decide_eq_false hc
            have HR3 := Aside0.mk hr3
            have HST4 := Aside0.mk (HST3.out.trans hst4)
            have HX3 := Aside0.mk hx
            have HC := Aside0.mk hc
            clear hr3 hst4 hx hc
            go_wp2
            go_ret
            exact ⟨at3, l3, HR3.out, HST4.out, .inl ⟨cc, by rw [HDE.out, HX3.out]; rfl, HC.out, rfl⟩⟩
          · have HR3 := Aside0.mk hr3
            have HST4 := Aside0.mk (HST3.out.trans hst4)
            have HX3 := Aside0.mk hx
            have HLS3 := Aside0.mk (entry_less hx)
            clear hr3 hst4 hx
            go_wp2
            go_roundg gk
            case measure => omega
            case rel => exact ⟨nm, at3, l3, rfl, HR3, HST4, ⟨HLS3.out.2⟩, ⟨by have := HLS3.out.1; have := HLS.out; have := HG.out.1; omega, by have := HG.out.2; omega⟩, ⟨by rw [HDE.out, HX3.out]; rfl⟩⟩
theorem all_rd (hMay : MayOK) : ∀ f, NodeOK f ∧ DirOK f := by
  have key : ∀ f, (∀ f', f' ≤ f → NodeOK f') ∧ DirOK f := by
    intro f
    induction f with
    | zero =>
      have h0 : ∀ f', f' ≤ 0 → NodeOK f' := fun f' h B g s at_ l w path deep _ _ _ _ _ hf => absurd hf (by omega)
      exact ⟨h0, dir_rd 0 (fun f' h => h0 f' (by omega)) hMay⟩
    | succ f ih =>
      have hn : ∀ f', f' ≤ f + 1 → NodeOK f' := fun f' h => by
        rcases Nat.lt_or_ge f' (f + 1) with h1 | h1
        · exact ih.1 f' (by omega)
        · obtain rfl : f' = f + 1 := by omega
          exact node_rd f ih.2
      exact ⟨hn, dir_rd (f + 1) (fun f' h => hn f' (by omega)) hMay⟩
  exact fun f => ⟨(key f).1 f (Nat.le_refl _), (key f).2⟩
end Go.Proofs.YtncokgdfkbgflaaDoor

namespace Go.Proofs.YtncokgdfkbgflaaDoor
open Go.RowKit Go.Shelf Go.Lib Go.Proofs.YtncokgdfkbgflaaDoorW.PrintWords Go.Proofs.YtncokgdfkbgflaaDoorW.PrintMore
set_option linter.unusedVariables false
set_option linter.unusedSimpArgs false
def GetS (w : World) (x : Except Int (List Nd)) (e : Ending) (w' : World) : Prop :=
  Below w.heap.size w w' ∧ ((∃ c, x = .error c ∧ c ≠ 0 ∧ e = .returned (.tuple #[.slice none 0 0, .int .i64 c])) ∨ (∃ l v, x = .ok l ∧ OwnRow NdR 68 3 w' w.heap.size v l ∧ e = .returned (.tuple #[v, .int .i64 0])))
theorem restB_nil {s : ByteArray} {at_ : Nat} (h : at_ ≤ s.size) : restB s at_ = [] ↔ ¬ at_ < s.size := by
  have : (restB s at_).length = s.size - at_ := by rw [restB, List.length_drop, Lib.size_eq]
  constructor
  · intro e; rw [e] at this; simp at this; omega
  · intro e; exact List.length_eq_zero_iff.1 (by omega)
set_option maxRecDepth 100000 in
set_option maxHeartbeats 8000000 in
theorem get_calls (hMay : MayOK) (s : ByteArray) (hs : s.size < 1000000000) (w : World) : Calls Tryd.prog 14 #[.string s] w (GetS w (getP s.data.toList)) := by
  have hr0 : RdAt w.heap.size w.heap.size s 0 [] (w.alloc (.cells #[.string s, .int .i64 0, .slice none 0 0] 71)) :=
    ⟨Nat.le_refl _, Nat.zero_le _, hs, .slice none 0 0, blk_new _ _, OwnRow.none_ _ _ _ _ _⟩
  have hB0 : w.heap.size ≤ (w.alloc (.cells #[.string s, .int .i64 0, .slice none 0 0] 71)).heap.size := by simp
  have hst0 : RdStep none w.heap.size w.heap.size (w.alloc (.cells #[.string s, .int .i64 0, .slice none 0 0] 71)) ((w.alloc (.cells #[.string s, .int .i64 0, .slice none 0 0] 71)).alloc (.cells #[.string (bsB wMark)] 9)) := (RdStep.refl none _ _ _).alloc hB0 _
  have hmu := must_rd w.heap.size w.heap.size s 0 [] ((w.alloc (.cells #[.string s, .int .i64 0, .slice none 0 0] 71)).alloc (.cells #[.string (bsB wMark)] 9)) (hr0.alloc _) (Nat.le_trans hB0 hst0.below.size) (w.alloc (.cells #[.string s, .int .i64 0, .slice none 0 0] 71)).heap.size 1 [bsB wMark] (blk_new _ _) (by simp) (fun z hz => by obtain rfl := List.mem_singleton.1 hz; decide)
  have hb0 : Below w.heap.size w (w.alloc (.cells #[.string s, .int .i64 0, .slice none 0 0] 71)) := below_alloc (Below.refl _ _) _
  rw [World.size_alloc] at hmu
  have HMU := Aside0.mk hmu
  have HST0 := Aside0.mk hst0
  have HB0 := Aside0.mk hb0
  have HBB := Aside0.mk hB0
  have HS := Aside0.mk hs
  have HMAY := Aside0.mk hMay
  have hrest : restB s 0 = s.data.toList := by simp [restB]
  have HRE := Aside0.mk hrest
  clear hmu hr0 hst0 hb0 hB0 hs hMay hrest
  go_enter Tryd.func14, Tryd.ntmps14
  go_wp2_with (go_at_call 41; refine HMU.out.mono ?_)
  rintro e w1 ⟨at1, hr1, hst1, ⟨cc, hx, hc, rfl⟩ | ⟨t, hx, rfl⟩⟩
  · have u1 : (cc == 0) = false := beq_eq_false_iff_ne.2 hc
    have u2 : decide (cc = 0) = false := decide_eq_false hc
    have u3 : (cc != 0) = true := bne_iff_ne.2 hc
    have HST := Aside0.mk (HST0.out.trans hst1)
    have HX : Aside0 (mustP [wMark] (restB s 0) = .error cc) := ⟨hx⟩
    have HC := Aside0.mk hc
    clear hr1 hst1 hx hc
    go_wp2
    go_ret2
    exact ⟨HB0.out.trans HST.out.below, .inl ⟨cc, by rw [getP, ← HRE.out, HX.out]; rfl, HC.out, rfl⟩⟩
  have HR1 := Aside0.mk hr1
  have HST := Aside0.mk (HST0.out.trans hst1)
  have HX : Aside0 (mustP [wMark] (restB s 0) = .ok ((), restB s at1)) := ⟨hx⟩
  have hno := (all_rd HMAY.out (s.data.toList.length + 1)).1 w.heap.size w.heap.size s at1 [] w1 [] 0 hr1 (Nat.le_trans HBB.out HST.out.below.size) (by decide) (by decide) (by simp) (by
    have h1 := must_less1 hx
    rw [HRE.out] at h1
    omega)
  have HNO := Aside0.mk hno
  clear hr1 hst1 hx hno
  go_wp2_with (go_at_call 42; refine HNO.out.mono ?_)
  rintro e w2 ⟨at2, l2, hr2, hst2, ⟨cc, hx, hc, rfl⟩ | ⟨hx, rfl⟩⟩
  · have u1 : (cc == 0) = false := beq_eq_false_iff_ne.2 hc
    have u2 : decide (cc = 0) = false := decide_eq_false hc
    have u3 : (cc != 0) = true := bne_iff_ne.2 hc
    have HST2 := Aside0.mk (HST.out.weak.trans hst2)
    have HX2 := Aside0.mk hx
    have HC := Aside0.mk hc
    clear hr2 hst2 hx hc
    go_wp2
    go_ret2
    exact ⟨HB0.out.trans HST2.out.below, .inl ⟨cc, by rw [getP, ← HRE.out, HX.out, Rd.then_ok, HRE.out, HX2.out], HC.out, rfl⟩⟩
  have HR2 := Aside0.mk hr2
  have HST2 := Aside0.mk (HST.out.weak.trans hst2)
  have HX2 := Aside0.mk hx
  obtain ⟨v, hv, hov⟩ := hr2.blk
  obtain ⟨A, cp, rfl, hcap⟩ := hov.slice_
  have c1 : w2.cell? ⟨w.heap.size, 1, none⟩ = some (.int .i64 at2) := by rw [blk_cell hv]; rfl
  have c2 : w2.cell? ⟨w.heap.size, 2, none⟩ = some (.slice A l2.length cp) := by rw [blk_cell hv]; rfl
  have HOV := Aside0.mk hov
  have HNIL := Aside0.mk (restB_nil hr2.le)
  clear hr2 hst2 hx hv hov
  by_cases hlt : at2 < s.size
  · have e1 : decide (at2 < s.size) = true := decide_eq_true hlt
    have HLT := Aside0.mk hlt
    go_wp2
    go_ret2
    exact ⟨HB0.out.trans HST2.out.below, .inl ⟨4, by rw [getP, ← HRE.out, HX.out, Rd.then_ok, HRE.out, HX2.out]; exact if_neg (fun e => (HNIL.out.1 e) HLT.out), by decide, rfl⟩⟩
  · have e1 : decide (at2 < s.size) = false := decide_eq_false hlt
    have HLT := Aside0.mk hlt
    go_wp2
    go_ret2
    exact ⟨HB0.out.trans HST2.out.below, .inr ⟨l2, _, by rw [getP, ← HRE.out, HX.out, Rd.then_ok, HRE.out, HX2.out]; exact if_pos (HNIL.out.2 HLT.out), HOV.out, rfl⟩⟩
end Go.Proofs.YtncokgdfkbgflaaDoor

namespace Go.Proofs.YtncokgdfkbgflaaDoor
open Go.RowKit Go.Proofs.YtncokgdfkbgflaaDoorW.PrintWords
theorem indexAny_sep' : ∀ l : List UInt8, 0 ≤ Lib.indexAny l [0, 47] ↔ hasSep l = true
  | [] => by simp [Lib.indexAny, hasSep]
  | b :: l => by
    have ih := indexAny_sep' l
    have hg := Lib.indexAny_ge [0, 47] l
    have e : Lib.indexAny (b :: l) [0, 47] = if ([0, 47] : List UInt8).contains b then 0 else if Lib.indexAny l [0, 47] == -1 then -1 else Lib.indexAny l [0, 47] + 1 := rfl
    have e2 : hasSep (b :: l) = ((b == 0 || b == 47) || hasSep l) := rfl
    rw [e, e2]
    by_cases h : (([0, 47] : List UInt8).contains b) = true
    · rw [if_pos h]
      have : (b == 0 || b == 47) = true := by simpa using h
      rw [this]; simp
    · rw [if_neg h]
      have h2 : (b == 0 || b == 47) = false := by
        rw [Bool.eq_false_iff]; intro h3; apply h; simpa using h3
      rw [h2, Bool.false_or, ← ih]
      by_cases h4 : (Lib.indexAny l [0, 47] == -1) = true
      · rw [if_pos h4]
        have : Lib.indexAny l [0, 47] = -1 := by simpa using h4
        omega
      · rw [if_neg h4]
        have : Lib.indexAny l [0, 47] ≠ -1 := by simpa using h4
        omega
theorem indexAny_sep (l : List UInt8) : decide (0 ≤ Lib.indexAny l [0, 47]) = hasSep l := by
  rw [Bool.eq_iff_iff]; simp only [decide_eq_true_eq]; exact indexAny_sep' l
def strings_ContainsAny.f (a0 a1 : ByteArray) : Option Bool := if a1 = ⟨#[0, 47]⟩ ∧ a0.size < 4294967281 then some (hasSep a0.data.toList) else none
theorem sep_ascii : ∀ (j : Nat) (b : UInt8), (⟨#[0, 47]⟩ : ByteArray).data.toList[j]? = some b → b.toNat < 128 := by
  intro j b h
  match j, h with
  | 0, h => simp at h; subst h; decide
  | 1, h => simp at h; subst h; decide
  | j + 2, h => simp at h
theorem zero165 : ∀ w, (zeroValue 165).run Tryd.prog w = .ok (.agg (Array.replicate 256 (.bool false))) w := fun w => by kernel_rfl
theorem strings_ContainsAny.calls (a0 a1 : ByteArray) (r : Bool) (w : World) (h : strings_ContainsAny.f a0 a1 = some r) :
    Calls Tryd.prog 140 #[.string a0, .string a1] w fun e w' => e = .returned (.bool r) ∧ Below w.heap.size w w' := by
  unfold strings_ContainsAny.f at h
  split at h
  · rename_i hc
    obtain ⟨rfl, hs⟩ := hc
    obtain rfl := Option.some.inj h
    have hi : Calls Tryd.prog 143 #[.string a0, .string ⟨#[0, 47]⟩] w fun e w' => e = .returned (.int .i64 (Lib.indexAny a0.data.toList [0, 47])) ∧ Below w.heap.size w w' := by
      by_cases ho : 8 < a0.size
      · refine (Tryd.strings_IndexAny_long zero165 a0 ⟨#[0, 47]⟩ w (by decide) ho hs (by decide) sep_ascii).mono ?_
        rintro e w' ⟨rfl, rfl⟩
        exact ⟨rfl, ((Below.refl _ w).alloc (Nat.le_refl _) _).alloc (by simp) _⟩
      · exact indexAny_short a0 w (by omega)
    go_enter Tryd.func140, Tryd.ntmps140
    go_wp2_with (go_at_call 143; refine hi.mono ?_; rintro e w1 ⟨rfl, hb⟩)
    go_ret
    exact ⟨by rw [← indexAny_sep]; simp, hb⟩
  · cases h
set_option linter.unusedSimpArgs false
set_option maxRecDepth 100000 in
set_option maxHeartbeats 8000000 in
theorem may_ok : MayOK := by
  intro t w ht
  have hsz : (bsB t).size = t.length := by simp [bsB, ByteArray.size]
  have hca := strings_ContainsAny.calls (bsB t) ⟨#[0, 47]⟩ (hasSep t) w (by unfold strings_ContainsAny.f; rw [if_pos ⟨rfl, by omega⟩]; rfl)
  have HCA := Aside0.mk hca
  have hle : decide (t.length ≤ 255) = true := decide_eq_true ht
  have hmn : mayName t = (!(t == []) && (true && (!hasSep t && (!(t == [46]) && !(t == [46, 46]))))) := by rw [mayName, hle]
  have HMN := Aside0.mk hmn
  have l1 : ((bsB t).size : Int) ≤ 255 := by rw [hsz]; omega
  have l2 : decide (((bsB t).size : Int) ≤ 255) = true := decide_eq_true l1
  have l3 : (bsB t).size ≤ 255 := by omega
  clear hca hle hmn hsz
  by_cases h0 : t = []
  · have v1 : ((bsB t).toList == ([] : List UInt8)) = true := by rw [Lib.toList_data, h0]; rfl
    have v2 : (bsB t).toList.isEmpty = true := by rw [Lib.toList_data, h0]; rfl
    have v3 : (bsB t).toList = [] := by rw [Lib.toList_data, h0]; rfl
    have HM : Aside0 (mayName t = false) := ⟨by rw [HMN.out, h0]; rfl⟩
    clear h0
    go_enter Tryd.func133, Tryd.ntmps133
    go_wp2
    go_ret
    exact ⟨by rw [HM.out]; rfl, Below.refl _ _⟩
  have v1 : ((bsB t).toList == ([] : List UInt8)) = false := by rw [Lib.toList_data]; exact beq_eq_false_iff_ne.2 h0
  have v2 : (bsB t).toList.isEmpty = false := by rw [Lib.toList_data]; cases t with | nil => exact absurd rfl h0 | cons _ _ => rfl
  have v3 : ¬ (bsB t).toList = [] := by rw [Lib.toList_data]; exact h0
  have H0 : Aside0 ((t == []) = false) := ⟨beq_eq_false_iff_ne.2 h0⟩
  clear h0
  obtain ⟨q, hq⟩ : ∃ q, hasSep t = q := ⟨_, rfl⟩
  rw [hq] at HCA
  have HQ := Aside0.mk hq
  obtain ⟨a, ha⟩ : ∃ a, (t == [46]) = a := ⟨_, rfl⟩
  obtain ⟨b, hb⟩ : ∃ b, (t == [46, 46]) = b := ⟨_, rfl⟩
  have a1 : ((bsB t).toList == [46]) = a := by rw [Lib.toList_data]; exact ha
  have b1 : ((bsB t).toList == [46, 46]) = b := by rw [Lib.toList_data]; exact hb
  have a2 : ((bsB t).toList != [46]) = !a := by rw [bne, a1]
  have b2 : ((bsB t).toList != [46, 46]) = !b := by rw [bne, b1]
  have HM : Aside0 (mayName t = (!q && (!a && !b))) := ⟨by rw [HMN.out, H0.out, hq, ha, hb]; rfl⟩
  clear hq ha hb
  cases q
  all_goals cases a
  all_goals cases b
  all_goals
    go_enter Tryd.func133, Tryd.ntmps133
    go_wp2_with (go_at_call 140; refine HCA.out.mono ?_)
    rintro _ wz ⟨rfl, hbz⟩
    have HBZ := Aside0.mk hbz
    clear hbz
    go_wp2
    go_ret
    exact ⟨by rw [HM.out]; rfl, HBZ.out⟩
end Go.Proofs.YtncokgdfkbgflaaDoor

namespace Go.Proofs.YtncokgdfkbgflaaDoor.R
open Go.RowKit Go.Proofs.YtncokgdfkbgflaaDoorW.PrintWords Go.Proofs.YtncokgdfkbgflaaDoorW.PrintLast Go.Proofs.YtncokgdfkbgflaaDoorW.PrintMore Go.Proofs.YtncokgdfkbgflaaDoor.P
attribute [local go_sem] max2_int min2_int max_two min_two max_three min_three max_four min_four
set_option linter.unusedVariables false
set_option linter.unusedSimpArgs false
def IsV76 (w0 W : World) (g : Nat) (f0 : ByteArray) (f1 : Int) (f2 : Value) (f3 : Int) : Prop := ∃ (A2 : Option Addr) (c2 : Nat), W.heap[g]? = some (.cells #[.string f0, .int .i64 f1, f2, .int .i64 f3] 76 (0, 0)) ∧ w0.heap.size ≤ g ∧ True
theorem IsV76.grown {w0 W : World} {g : Nat} {f0 : ByteArray} {f1 : Int} {f2 : Value} {f3 : Int} {W1 : World} {row : Option Nat} (h : IsV76 w0 W g f0 f1 f2 f3) (hw : W.grownBy W1 row) (hne : some g ≠ row) : IsV76 w0 W1 g f0 f1 f2 f3 := by
  obtain ⟨A2, c2, hb, hg, hr2⟩ := h
  exact ⟨A2, c2, blk_grown hb hw hne, hg, hr2⟩
theorem IsV76.kept {w0 W : World} {g : Nat} {f0 : ByteArray} {f1 : Int} {f2 : Value} {f3 : Int} {W1 : World} {S : Nat → Prop} (h : IsV76 w0 W g f0 f1 f2 f3) (hk : Kept W W1 S) (hne : ¬ S g) : IsV76 w0 W1 g f0 f1 f2 f3 := by
  obtain ⟨A2, c2, hb, hg, hr2⟩ := h
  exact ⟨A2, c2, blk_kept hb hk hne, hg, hr2⟩
theorem IsV76.below {w0 W : World} {g : Nat} {f0 : ByteArray} {f1 : Int} {f2 : Value} {f3 : Int} {W1 : World} (h : IsV76 w0 W g f0 f1 f2 f3) (hw : Below W.heap.size W W1) : IsV76 w0 W1 g f0 f1 f2 f3 := h.grown (grown_of_below hw none) (by simp)
theorem IsV76.alloc {w0 W : World} {g : Nat} {f0 : ByteArray} {f1 : Int} {f2 : Value} {f3 : Int} (h : IsV76 w0 W g f0 f1 f2 f3) (o : Obj) : IsV76 w0 (W.alloc o) g f0 f1 f2 f3 := h.below (below_alloc (Below.refl _ _) o)
theorem IsV76.drewN {w0 W : World} {g : Nat} {f0 : ByteArray} {f1 : Int} {f2 : Value} {f3 : Int} (h : IsV76 w0 W g f0 f1 f2 f3) (m : Nat) : IsV76 w0 (W.drewN m) g f0 f1 f2 f3 := h
theorem IsV76.drew {w0 W : World} {g : Nat} {f0 : ByteArray} {f1 : Int} {f2 : Value} {f3 : Int} (h : IsV76 w0 W g f0 f1 f2 f3) : IsV76 w0 W.drew g f0 f1 f2 f3 := h
theorem IsV76.at_ {w0 W : World} {g : Nat} {f0 : ByteArray} {f1 : Int} {f2 : Value} {f3 : Int} {w' : World} {m : Nat} (hq : W.drewN m = w') (h : IsV76 w0 W g f0 f1 f2 f3) : IsV76 w0 w' g f0 f1 f2 f3 := by subst hq; exact IsV76.drewN h m
theorem IsV76.apart {w0 W : World} {g : Nat} {f0 : ByteArray} {f1 : Int} {f2 : Value} {f3 : Int} {α : Type} {d : Kd α} {e : Nat} {base : Nat} {ok : Nat → Prop} {v : Value} {xs : List α} (h : IsV76 w0 W g f0 f1 f2 f3) (ho : d.R e W base ok v xs) (ht : ∀ q, q ∈ e :: d.E → q ≠ 76) : d.R e W base (fun k => ok k ∧ k ≠ g) v xs := by
  obtain ⟨A2, c2, hb, hg, hr2⟩ := h
  exact Kd.R_types ho hb ht
theorem IsV76.own_ne {w0 W : World} {g : Nat} {f0 : ByteArray} {f1 : Int} {f2 : Value} {f3 : Int} {α : Type} {d : Kd α} {e : Nat} {base : Nat} {ok : Nat → Prop} {v : Value} {xs : List α} (h : IsV76 w0 W g f0 f1 f2 f3) (ho : d.R e W base ok v xs) (ht : e ≠ 76) : some g ≠ v.ownBlock := by
  obtain ⟨A2, c2, hb, hg, hr2⟩ := h
  exact Kd.R_ne ho hb ht
theorem IsV76.lt {w0 W : World} {g : Nat} {f0 : ByteArray} {f1 : Int} {f2 : Value} {f3 : Int} (h : IsV76 w0 W g f0 f1 f2 f3) : g < W.heap.size := by
  obtain ⟨A2, c2, hb, hg, hr2⟩ := h
  exact blk_lt hb
theorem IsV76.new (w0 W : World) (f0 : ByteArray) (f1 : Int) (f2 : Value) (f3 : Int) (hB : Below w0.heap.size w0 W)  : IsV76 w0 (W.alloc (.cells #[.string f0, .int .i64 f1, f2, .int .i64 f3] 76)) W.heap.size f0 f1 f2 f3 := ⟨none, 0, by simpa using heap_alloc_new W _, hB.size, trivial⟩
def rr_wrong.f (s0_0 : ByteArray) (s0_1 : Int) (s0_2 : Value) (s0_3 : Int) (a1 : Bool) : Option (ByteArray × Int × Int) := if a1 = true then (if s0_3 = 0 then (some (s0_0, s0_1, 4)) else (some (s0_0, s0_1, s0_3))) else (some (s0_0, s0_1, s0_3))
mutual
def rr_text.l0 : Nat → Int → Int → Int → ByteArray → Int → Value → Int → Option (ByteArray × ByteArray × Int × Int)
  | 0, _, _, _, _, _, _, _ => none
  | k + 1, x1, x5, x6, x1000, x1001, x1002, x1003 => if x6 < 8 then (if 0 ≤ (wrap64 (x1001 + x6)) then (if (wrap64 (x1001 + x6)) < (x1000.size : Int) then (if 0 ≤ (wrap64 (8 * x6)) then (rr_text.l0 k x1 (Go.bits .or .u64 x5 (shl .u64 (IntKind.u64.wrap (bt x1000 (wrap64 (x1001 + x6)))) (wrap64 (8 * x6)))) (wrap64 (x6 + 1)) x1000 x1001 x1002 x1003) else (none)) else (none)) else (none)) else (if x5 > (IntKind.u64.wrap (x1)) then (some ((⟨#[]⟩ : ByteArray), x1000, x1001, 4)) else (if (wrap64 ((x1000.size : Int) - (wrap64 (x1001 + 8)))) < (wrap64 ((wrap64 (Int.tdiv (wrap64 ((wrap64 (x5)) + 7)) 8)) * 8)) then (some ((⟨#[]⟩ : ByteArray), x1000, x1001, 5)) else (rr_text.l1 k x5 (wrap64 ((wrap64 (Int.tdiv (wrap64 ((wrap64 (x5)) + 7)) 8)) * 8)) (wrap64 (x1001 + 8)) (wrap64 ((wrap64 (x1001 + 8)) + (wrap64 (x5)))) x1000 x1001 x1002 x1003)))
def rr_text.l1 : Nat → Int → Int → Int → Int → ByteArray → Int → Value → Int → Option (ByteArray × ByteArray × Int × Int)
  | 0, _, _, _, _, _, _, _, _ => none
  | k + 1, x5, x7, x8, x9, x1000, x1001, x1002, x1003 => if x9 < (wrap64 (x8 + x7)) then (if 0 ≤ x9 then (if x9 < (x1000.size : Int) then (if (bt x1000 x9) = 0 then (rr_text.l1 k x5 x7 x8 (wrap64 (x9 + 1)) x1000 x1001 x1002 x1003) else (some ((⟨#[]⟩ : ByteArray), x1000, x1001, 4))) else (none)) else (none)) else (if 0 ≤ x8 then (if x8 ≤ (wrap64 (x8 + (wrap64 (x5)))) then (if (wrap64 (x8 + (wrap64 (x5)))) ≤ (x1000.size : Int) then (some (x1000.extract (x8 : Int).toNat ((wrap64 (x8 + (wrap64 (x5)))) : Int).toNat, x1000, wrap64 (x8 + x7), x1003)) else (none)) else (none)) else (none))
end
def rr_text.f (k : Nat) (s0_0 : ByteArray) (s0_1 : Int) (s0_2 : Value) (s0_3 : Int) (a1 : Int) : Option (ByteArray × ByteArray × Int × Int) := if s0_3 = 0 then (if (wrap64 ((s0_0.size : Int) - s0_1)) < 8 then (some ((⟨#[]⟩ : ByteArray), s0_0, s0_1, 5)) else (rr_text.l0 k a1 0 0 s0_0 s0_1 s0_2 s0_3)) else (some ((⟨#[]⟩ : ByteArray), s0_0, s0_1, s0_3))
mutual
def rr_one.l0 : Nat → List ByteArray → Int → Int → ByteArray → Int → Value → Int → Option (ByteArray × ByteArray × Int × Int)
  | 0, _, _, _, _, _, _, _ => none
  | k + 1, x1, x5, x6, x1000, x1001, x1002, x1003 => if x6 < (x1.length : Int) then (if 0 ≤ x6 then (rr_one.l0 k x1 (mx x5 ((rdOf ByteArray.empty x1 x6).size : Int)) (wrap64 (x6 + 1)) x1000 x1001 x1002 x1003) else (none)) else ((rr_text.f k x1000 x1001 x1002 x1003 x5).bind fun bt215 => (rr_one.l1 k x1 bt215.1 0 bt215.2.1 bt215.2.2.1 x1002 bt215.2.2.2))
def rr_one.l1 : Nat → List ByteArray → ByteArray → Int → ByteArray → Int → Value → Int → Option (ByteArray × ByteArray × Int × Int)
  | 0, _, _, _, _, _, _, _ => none
  | k + 1, x1, x7, x8, x1000, x1001, x1002, x1003 => if x8 < (x1.length : Int) then (rr_one.j2 k x1 x7 x8 (x1003 == 0) x1000 x1001 x1002 x1003) else (rr_one.j2 k x1 x7 x8 false x1000 x1001 x1002 x1003)
def rr_one.j2 : Nat → List ByteArray → ByteArray → Int → Bool → ByteArray → Int → Value → Int → Option (ByteArray × ByteArray × Int × Int)
  | 0, _, _, _, _, _, _, _, _ => none
  | k + 1, x1, x7, x8, x35, x1000, x1001, x1002, x1003 => if x35 = true then (if 0 ≤ x8 then (if x8 < (x1.length : Int) then (if (rdOf ByteArray.empty x1 x8).toList = x7.toList then (some (x7, x1000, x1001, x1003)) else (rr_one.l1 k x1 x7 (wrap64 (x8 + 1)) x1000 x1001 x1002 x1003)) else (none)) else (none)) else ((rr_wrong.f x1000 x1001 x1002 x1003 true).bind fun bt220 => (some ((⟨#[]⟩ : ByteArray), bt220.1, bt220.2.1, bt220.2.2)))
end
def rr_one.f (k : Nat) (s0_0 : ByteArray) (s0_1 : Int) (s0_2 : Value) (s0_3 : Int) (l1 : List ByteArray) : Option (ByteArray × ByteArray × Int × Int) := rr_one.l0 k l1 0 0 s0_0 s0_1 s0_2 s0_3
end Go.Proofs.YtncokgdfkbgflaaDoor.R

namespace Go.Proofs.YtncokgdfkbgflaaDoor
open Go.RowKit Go.Shelf Go.Lib Go.Proofs.YtncokgdfkbgflaaDoorW.PrintWords Go.Proofs.YtncokgdfkbgflaaDoorW.PrintMore R
set_option linter.unusedVariables false
set_option linter.unusedSimpArgs false
theorem wrapA1 (a : Nat) (h : a < 4611686018427387900) : wrap64 ((a : Int) + 1) = ((a + 1 : Nat) : Int) := by unfold wrap64; omega
end Go.Proofs.YtncokgdfkbgflaaDoor

namespace Go.Proofs.YtncokgdfkbgflaaDoor
open Go.RowKit Go.Shelf Go.Lib Go.Proofs.YtncokgdfkbgflaaDoorW.PrintWords Go.Proofs.YtncokgdfkbgflaaDoorW.PrintMore R
set_option linter.unusedVariables false
set_option linter.unusedSimpArgs false
abbrev St := Except Int (List UInt8)
def stOf {α : Type} (x : Rd α) : St := match x with | .ok (_, r) => .ok r | .error c => .error c
def onSt {α : Type} (x : St) (f : List UInt8 → Rd α) : Rd α := match x with | .ok r => f r | .error c => .error c
def txtOf (x : Rd (List UInt8)) : List UInt8 := match x with | .ok (t, _) => t | .error _ => []
def RfSt (s : ByteArray) (at_ : Nat) (E : Int) (x : St) : Prop := at_ ≤ s.size ∧ match x with | .ok r => E = 0 ∧ r = restB s at_ | .error c => E = c ∧ c ≠ 0
end Go.Proofs.YtncokgdfkbgflaaDoor

namespace Go.Proofs.YtncokgdfkbgflaaDoor
open Go.RowKit Go.Shelf Go.Lib Go.Proofs.YtncokgdfkbgflaaDoorW.PrintWords Go.Proofs.YtncokgdfkbgflaaDoorW.PrintMore R
set_option linter.unusedVariables false
set_option linter.unusedSimpArgs false
abbrev rfC (s : ByteArray) (at_ : Nat) (v : Value) (E : Int) : Array Value := #[.string s, .int .i64 at_, v, .int .i64 E]
structure RfAt (B g : Nat) (s : ByteArray) (x : St) (l : List Nd) (w : World) : Prop where
  base : B ≤ g
  small : s.size < 1000000000
  blk : ∃ (at_ : Nat) (E : Int) (v : Value), w.heap[g]? = some (.cells (rfC s at_ v E) 76 (0, 0)) ∧ RfSt s at_ E x ∧ OwnRow NdR 68 3 w B v l
structure RfStep (e : Option TypeId) (B g : Nat) (w w' : World) : Prop where
  below : Below B w w'
  kept : ∀ (k : Nat) (o : Obj), w.heap[k]? = some o → k ≠ g → (∀ c t fz, o = .cells c t fz → e ≠ some t) → w'.heap[k]? = some o
  third : e = none → ∀ (s : ByteArray) (at_ : Nat) (v : Value) (E : Int), w.heap[g]? = some (.cells (rfC s at_ v E) 76 (0, 0)) → ∃ (at' : Nat) (E' : Int), w'.heap[g]? = some (.cells (rfC s at' v E') 76 (0, 0))
theorem RfStep.refl (e : Option TypeId) (B g : Nat) (w : World) : RfStep e B g w w := ⟨Below.refl _ _, fun _ _ h _ _ => h, fun _ _ at_ _ E h => ⟨at_, E, h⟩⟩
theorem RfStep.trans {e : Option TypeId} {B g : Nat} {a b c : World} (h : RfStep e B g a b) (k : RfStep e B g b c) : RfStep e B g a c :=
  ⟨h.below.trans k.below, fun i o hi hg he => k.kept i o (h.kept i o hi hg he) hg he, fun he s at_ v E hv => by obtain ⟨a1, E1, h1⟩ := h.third he s at_ v E hv; exact k.third he s a1 v E1 h1⟩
theorem RfStep.weak {e : Option TypeId} {B g : Nat} {a b : World} (h : RfStep none B g a b) : RfStep e B g a b :=
  ⟨h.below, fun i o hi hg he => h.kept i o hi hg (fun _ _ _ _ => by simp), fun _ => h.third rfl⟩
theorem RfStep.all {B g : Nat} {a b : World} (h : RfStep none B g a b) {k : Nat} {o : Obj} (hk : a.heap[k]? = some o) (hg : k ≠ g) : b.heap[k]? = some o := h.kept k o hk hg (fun _ _ _ _ => by simp)
theorem RfStep.alloc {e : Option TypeId} {B g : Nat} {a w : World} (h : RfStep e B g a w) (hB : B ≤ w.heap.size) (o : Obj) : RfStep e B g a (w.alloc o) :=
  ⟨h.below.alloc hB o, fun i c hi hg he => blk_alloc (h.kept i c hi hg he) o, fun he s at_ v E hv => by obtain ⟨a1, E1, h1⟩ := h.third he s at_ v E hv; exact ⟨a1, E1, blk_alloc h1 o⟩⟩
theorem RfStep.drew {e : Option TypeId} {B g : Nat} {a w : World} (h : RfStep e B g a w) : RfStep e B g a w.drew := ⟨below_drew h.below, h.kept, h.third⟩
theorem RfStep.setOwn {e : Option TypeId} {B g : Nat} {a w : World} (h : RfStep e B g a w) (hB : B ≤ a.heap.size) {p : Addr} (hp : a.heap.size ≤ p.block) (u : Value) : RfStep e B g a (w.setCell p u) :=
  ⟨h.below.setCell (by omega) u, fun k o hk hg he => (Below.heap_setCell w p u k (by have := blk_lt hk; omega)).trans (h.kept k o hk hg he), fun he s at_ v E hv => by
    obtain ⟨a1, E1, h1⟩ := h.third he s at_ v E hv
    exact ⟨a1, E1, (Below.heap_setCell w p u g (by have := blk_lt hv; omega)).trans h1⟩⟩
theorem RfAt.lt {B g : Nat} {s : ByteArray} {x : St} {l : List Nd} {w : World} (h : RfAt B g s x l w) : g < w.heap.size := by
  obtain ⟨at_, E, v, hb, _⟩ := h.blk
  exact blk_lt hb
theorem RfAt.cong {B g : Nat} {s : ByteArray} {x : St} {l : List Nd} {w w' : World} (h : RfAt B g s x l w) (hk : ∀ (k : Nat) (c : Array Value) (t : TypeId) (fz : Nat × Nat), w.heap[k]? = some (Obj.cells c t fz) → t = 76 ∨ t = 68 → w'.heap[k]? = some (Obj.cells c t fz)) : RfAt B g s x l w' := by
  obtain ⟨at_, E, v, hb, hx, ho⟩ := h.blk
  refine ⟨h.base, h.small, at_, E, v, hk _ _ _ _ hb (.inl rfl), hx, own_cong ho fun k hv => ?_⟩
  obtain ⟨inner, hi, _⟩ := ho
  obtain ⟨cs, hc⟩ := own_typed hi k hv
  rw [hc]
  exact hk _ _ _ _ hc (.inr rfl)
theorem RfAt.alloc {B g : Nat} {s : ByteArray} {x : St} {l : List Nd} {w : World} (h : RfAt B g s x l w) (o : Obj) : RfAt B g s x l (w.alloc o) := h.cong fun _ _ _ _ hk _ => blk_alloc hk o
theorem RfAt.drew {B g : Nat} {s : ByteArray} {x : St} {l : List Nd} {w : World} (h : RfAt B g s x l w) : RfAt B g s x l w.drew := h.cong fun _ _ _ _ hk _ => hk
structure NodeAf (B g k : Nat) (n : Nd) (w : World) : Prop where
  base : B ≤ k
  ne : k ≠ g
  blk : w.heap[k]? = some (.cells #[.string (bsB n.path), .int .i64 n.kind, .string (bsB n.data)] 68 (0, 0))
  apart : ∀ s at_ v E, w.heap[g]? = some (.cells (rfC s at_ v E) 76 (0, 0)) → v.ownBlock ≠ some k
theorem RfAt.node {B g k i : Nat} {s : ByteArray} {x : St} {l : List Nd} {w : World} {n : Nd} (h : RfAt B g s x l w) (hn : NodeAf B g k n w) (u : Value) : RfAt B g s x l (w.setCell ⟨k, i, none⟩ u) := by
  obtain ⟨at_, E, v, hb, hx, ho⟩ := h.blk
  refine ⟨h.base, h.small, at_, E, v, ?_, hx, own_cong ho fun j hj => Below.heap_setCell _ _ _ _ ?_⟩
  · exact (Below.heap_setCell w ⟨k, i, none⟩ u g (fun e => hn.ne e.symm)).trans hb
  · rintro rfl
    exact hn.apart _ _ _ _ hb hj
theorem NodeAf.step {B g k : Nat} {s : ByteArray} {x : St} {l : List Nd} {w w' : World} {n : Nd} (hn : NodeAf B g k n w) (h : RfAt B g s x l w) (hst : RfStep none B g w w') : NodeAf B g k n w' := by
  obtain ⟨at_, E, v, hb, hx, ho⟩ := h.blk
  refine ⟨hn.base, hn.ne, hst.all hn.blk hn.ne, fun s1 a1 v1 E1 h1 => ?_⟩
  obtain ⟨a2, E2, h2⟩ := hst.third rfl _ _ _ _ hb
  rw [h2] at h1
  cases h1
  exact hn.apart _ _ _ _ hb
theorem NodeAf.set {B g k i : Nat} {w : World} {n n' : Nd} (hn : NodeAf B g k n w) (u : Value) (e : (#[.string (bsB n.path), .int .i64 n.kind, .string (bsB n.data)] : Array Value).setIfInBounds i u = #[.string (bsB n'.path), .int .i64 n'.kind, .string (bsB n'.data)]) : NodeAf B g k n' (w.setCell ⟨k, i, none⟩ u) :=
  ⟨hn.base, hn.ne, blk_put hn.blk i u e, fun s a v E h => hn.apart s a v E ((Below.heap_setCell w ⟨k, i, none⟩ u g (fun e => hn.ne e.symm)).symm.trans h)⟩
theorem NodeAf.alloc {B g k : Nat} {s : ByteArray} {x : St} {l : List Nd} {w : World} {n : Nd} (hn : NodeAf B g k n w) (h : RfAt B g s x l w) (hB : B ≤ w.heap.size) (o : Obj) : NodeAf B g k n (w.alloc o) := hn.step h ((RfStep.refl _ _ _ _).alloc hB o)
theorem NodeAf.new {B g : Nat} {s : ByteArray} {x : St} {l : List Nd} {w : World} (h : RfAt B g s x l w) (hB : B ≤ w.heap.size) (n : Nd) : NodeAf B g w.heap.size n (w.alloc (.cells #[.string (bsB n.path), .int .i64 n.kind, .string (bsB n.data)] 68)) := by
  obtain ⟨at_, E, v, hb, hx, inner, ho, _⟩ := h.blk
  refine ⟨hB, ?_, blk_new w _, ?_⟩
  · have := h.lt; omega
  · intro s1 a1 v1 E1 h1 hk
    rw [blk_alloc hb] at h1
    cases h1
    have := own_lt ho _ hk
    omega
def RfS (B g : Nat) (s : ByteArray) (l : List Nd) (w : World) (x' : St) (w' : World) : Prop := RfAt B g s x' l w' ∧ RfStep none B g w w'
def bare (w : World) : World := { w with heap := #[] }
def wrongS (b : Bool) (x : St) : St := match x with | .ok r => if b = true then .error 4 else .ok r | .error c => .error c
end Go.Proofs.YtncokgdfkbgflaaDoor

namespace Go.Proofs.YtncokgdfkbgflaaDoor
set_option linter.unusedVariables false
open Go.RowKit Go.Proofs.YtncokgdfkbgflaaDoorW.PrintWords Go.Proofs.YtncokgdfkbgflaaDoorW.PrintMore P
def bs (l : List UInt8) : ByteArray := ⟨l.toArray⟩
def strsOf (ss : List ByteArray) : List (List UInt8) := ss.map fun s => s.data.toList
def nd (x : S68) : Nd := ⟨x.f0.data.toList, x.f1, x.f2.data.toList⟩
def nds (l : List S68) : List Nd := l.map nd
theorem toList_data (s : ByteArray) : s.toList = s.data.toList := Lib.toList_data s
theorem bs_size (l : List UInt8) : (bs l).size = l.length := by simp [bs, ByteArray.size]
theorem bs_toList (l : List UInt8) : (bs l).data.toList = l := by simp [bs]
theorem bs_append (a b : List UInt8) : bs a ++ bs b = bs (a ++ b) := by
  apply ByteArray.ext; simp [bs]
theorem bs_data (s : ByteArray) : bs s.data.toList = s := by cases s; simp [bs]
theorem rd68_at (xs : List S68) (k : Nat) (h : k < xs.length) : rd_T68 xs (k : Int) = xs[k] := by
  simp [rd_T68, List.getD_eq_getElem?_getD, List.getElem?_eq_getElem h]
end Go.Proofs.YtncokgdfkbgflaaDoor

namespace Go.Proofs.YtncokgdfkbgflaaDoor
set_option linter.unusedVariables false
set_option linter.unusedSimpArgs false
open Go.RowKit Go.Proofs.YtncokgdfkbgflaaDoorW.PrintWords Go.Proofs.YtncokgdfkbgflaaDoorW.PrintMore P
theorem bt_is (s : ByteArray) (i : Nat) (h : i < s.data.toList.length) : bt s (i : Int) = ((s.data.toList[i]).toNat : Int) := by
  have h2 : (i : Int).toNat < s.size := by rw [Int.toNat_natCast, Lib.size_eq]; exact h
  rw [← bt_at s (i : Int) h2]
  rfl
theorem wrap_up (j : Nat) (h : j < 4611686018427387904) : wrap64 ((j : Int) + 1) = ((j + 1 : Nat) : Int) := by unfold wrap64; omega
theorem has_rounds (s : ByteArray) (c : UInt8) (hs : s.size < 4611686018427387904) : ∀ (m k i : Nat), s.data.toList.length - i ≤ m → i ≤ s.data.toList.length → m + 1 ≤ k → shelfmarkref10_has.l0 k s (c.toNat : Int) (i : Int) = some ((s.data.toList.drop i).contains c) := by
  have hz : s.size = s.data.toList.length := Lib.size_eq s
  intro m
  induction m with
  | zero =>
    intro k i h1 h2 h3
    obtain ⟨k, rfl⟩ : ∃ g, k = g + 1 := ⟨k - 1, by omega⟩
    rw [shelfmarkref10_has.l0, if_neg (by omega), List.drop_eq_nil_of_le (by omega)]
    rfl
  | succ m ih =>
    intro k i h1 h2 h3
    obtain ⟨k, rfl⟩ : ∃ g, k = g + 1 := ⟨k - 1, by omega⟩
    by_cases hi : i < s.data.toList.length
    · rw [shelfmarkref10_has.l0, if_pos (by omega), if_pos (by omega), bt_is s i hi, List.drop_eq_getElem_cons hi]
      by_cases hc : s.data.toList[i] = c
      · rw [if_pos (by rw [hc]), hc]
        simp
      · rw [if_neg (by
          intro e
          apply hc
          apply UInt8.toNat_inj.mp
          omega), wrap_up i (by omega), ih k (i + 1) (by omega) (by omega) (by omega)]
        congr 1
        rw [List.contains_cons, beq_eq_false_iff_ne.2 (fun e => hc e.symm), Bool.false_or]
    · rw [shelfmarkref10_has.l0, if_neg (by omega), List.drop_eq_nil_of_le (by omega)]
      rfl
theorem has_f (s : ByteArray) (c : UInt8) (hs : s.size < 4611686018427387904) (k : Nat) (hk : s.size + 1 ≤ k) : shelfmarkref10_has.f k s (c.toNat : Int) = some (s.data.toList.contains c) := by
  have hz : s.size = s.data.toList.length := Lib.size_eq s
  have := has_rounds s c hs s.data.toList.length k 0 (by omega) (by omega) (by omega)
  rw [List.drop_zero] at this
  exact this
theorem hasSep_is (l : List UInt8) : hasSep l = (l.contains 0 || l.contains 47) := by
  induction l with
  | nil => rfl
  | cons b l ih =>
    show ((b == 0 || b == 47) || hasSep l) = _
    rw [ih, List.contains_cons, List.contains_cons]
    have e1 : (b == 0) = ((0 : UInt8) == b) := by rw [Bool.eq_iff_iff, beq_iff_eq, beq_iff_eq]; exact ⟨Eq.symm, Eq.symm⟩
    have e2 : (b == 47) = ((47 : UInt8) == b) := by rw [Bool.eq_iff_iff, beq_iff_eq, beq_iff_eq]; exact ⟨Eq.symm, Eq.symm⟩
    rw [e1, e2]
    cases ((0 : UInt8) == b) <;> cases ((47 : UInt8) == b) <;> simp
theorem hasZero_is (l : List UInt8) : hasZero l = l.contains 0 := by
  induction l with
  | nil => rfl
  | cons b l ih =>
    show ((b == 0) || hasZero l) = _
    rw [ih, List.contains_cons]
    have e1 : (b == 0) = ((0 : UInt8) == b) := by rw [Bool.eq_iff_iff, beq_iff_eq, beq_iff_eq]; exact ⟨Eq.symm, Eq.symm⟩
    rw [e1]
theorem refMayName_f (s : ByteArray) (k : Nat) (hk : 300 ≤ k) : shelfmarkref10_MayName.f k s = some (mayName s.data.toList) := by
  have hz : s.size = s.data.toList.length := Lib.size_eq s
  unfold shelfmarkref10_MayName.f mayName
  by_cases h0 : s.data.toList = []
  · rw [h0] at hz ⊢
    rw [if_neg (by rw [List.length_nil] at hz; omega)]
    rfl
  · have h0' : (s.data.toList == []) = false := beq_eq_false_iff_ne.2 h0
    have hpos : 0 < s.data.toList.length := Nat.pos_of_ne_zero (fun e => h0 (List.length_eq_zero_iff.1 e))
    rw [if_pos (by omega), h0']
    by_cases h1 : s.data.toList.length ≤ 255
    · rw [if_pos (by omega), decide_eq_true h1, hasSep_is]
      have e0 : shelfmarkref10_has.f k s 0 = some (s.data.toList.contains 0) := has_f s 0 (by omega) k (by omega)
      have e47 : shelfmarkref10_has.f k s 47 = some (s.data.toList.contains 47) := has_f s 47 (by omega) k (by omega)
      rw [e0, e47]
      simp only [Option.bind_some]
      rw [toList_data]
      cases s.data.toList.contains 0 with
      | true => simp
      | false =>
        cases s.data.toList.contains 47 with
        | true => simp
        | false =>
          by_cases h5 : s.data.toList = [46]
          · simp [h5]
          · simp [h5, bne]
    · rw [if_neg (by omega), decide_eq_false h1]
      simp
end Go.Proofs.YtncokgdfkbgflaaDoor

namespace Go.Proofs.YtncokgdfkbgflaaDoor
set_option linter.unusedVariables false
set_option linter.unusedSimpArgs false
open Go.RowKit Go.Proofs.YtncokgdfkbgflaaDoorW.PrintWords Go.Proofs.YtncokgdfkbgflaaDoorW.PrintMore P
theorem deep_rounds (s : ByteArray) (hs : s.size < 4611686018427387904) : ∀ (m k i c : Nat), s.data.toList.length - i ≤ m → i ≤ s.data.toList.length → c ≤ i + 1 → m + 1 ≤ k → shelfmarkref10_deep.l0 k s (c : Int) (i : Int) = some (((c + (s.data.toList.drop i).count 47 : Nat)) : Int) := by
  have hz : s.size = s.data.toList.length := Lib.size_eq s
  intro m
  induction m with
  | zero =>
    intro k i c h1 h2 h4 h3
    obtain ⟨k, rfl⟩ : ∃ g, k = g + 1 := ⟨k - 1, by omega⟩
    rw [shelfmarkref10_deep.l0, if_neg (by omega), List.drop_eq_nil_of_le (by omega)]
    rfl
  | succ m ih =>
    intro k i c h1 h2 h4 h3
    obtain ⟨k, rfl⟩ : ∃ g, k = g + 1 := ⟨k - 1, by omega⟩
    by_cases hi : i < s.data.toList.length
    · rw [shelfmarkref10_deep.l0, if_pos (by omega), if_pos (by omega), bt_is s i hi, List.drop_eq_getElem_cons hi]
      by_cases hc : s.data.toList[i] = 47
      · rw [if_pos (by rw [hc]; rfl), wrap_up i (by omega), wrap_up c (by omega), ih k (i + 1) (c + 1) (by omega) (by omega) (by omega) (by omega), hc, List.count_cons_self]
        congr 2
        omega
      · rw [if_neg (by
          intro e
          apply hc
          apply UInt8.toNat_inj.mp
          show _ = 47
          omega), wrap_up i (by omega), ih k (i + 1) c (by omega) (by omega) (by omega) (by omega), List.count_cons_of_ne (fun e => hc e)]
    · rw [shelfmarkref10_deep.l0, if_neg (by omega), List.drop_eq_nil_of_le (by omega)]
      rfl
theorem deep_f (s : ByteArray) (hs : s.size < 4611686018427387904) (k : Nat) (hk : s.size + 1 ≤ k) : shelfmarkref10_deep.f k s = some (((1 + slashes s.data.toList : Nat)) : Int) := by
  have hz : s.size = s.data.toList.length := Lib.size_eq s
  have := deep_rounds s hs s.data.toList.length k 0 1 (by omega) (by omega) (by omega) (by omega)
  rw [List.drop_zero] at this
  exact this
theorem mayData_f (x : S68) (k : Nat) (hk : 5000 ≤ k) : shelfmarkref10_mayData.f k x.f0 x.f1 x.f2 = some (okNd (nd x)) := by
  have hz : x.f2.size = x.f2.data.toList.length := Lib.size_eq x.f2
  obtain ⟨k, rfl⟩ : ∃ g, k = g + 1 := ⟨k - 1, by omega⟩
  have hkd : (nd x).kind = x.f1 := rfl
  have hdt : (nd x).data = x.f2.data.toList := rfl
  unfold shelfmarkref10_mayData.f okNd
  rw [hkd, hdt]
  by_cases h1 : x.f1 = 1
  · rw [if_pos h1, if_pos (.inl h1), h1, shelfmarkref10_mayData.j0, if_pos (by rfl)]
    congr 1
    rw [Bool.eq_iff_iff]; simp only [decide_eq_true_eq]; omega
  · rw [if_neg h1]
    by_cases h2 : x.f1 = 2
    · rw [if_pos (.inr h2), h2, shelfmarkref10_mayData.j0, if_pos (by rfl)]
      congr 1
      rw [Bool.eq_iff_iff]; simp only [decide_eq_true_eq]; omega
    · rw [if_neg (by omega), shelfmarkref10_mayData.j0, if_neg (by simpa using h2)]
      by_cases h3 : x.f1 = 3
      · rw [if_pos h3, if_pos h3]
        by_cases h4 : x.f2.data.toList = []
        · rw [h4] at hz ⊢
          rw [if_neg (by rw [List.length_nil] at hz; omega)]
          rfl
        · have hpos : 0 < x.f2.data.toList.length := Nat.pos_of_ne_zero (fun e => h4 (List.length_eq_zero_iff.1 e))
          rw [if_pos (by omega), beq_eq_false_iff_ne.2 h4]
          by_cases h5 : x.f2.data.toList.length ≤ 4096
          · have e0 : shelfmarkref10_has.f k x.f2 0 = some (x.f2.data.toList.contains 0) := has_f x.f2 0 (by omega) k (by omega)
            rw [if_pos (by omega), e0, decide_eq_true h5, hasZero_is]
            simp
          · rw [if_neg (by omega), decide_eq_false h5]
            simp
      · rw [if_neg h3, if_neg h3]
        by_cases h4 : x.f1 = 4
        · rw [if_pos h4, if_pos h4, toList_data]
        · rw [if_neg h4, if_neg h4]
theorem cut_rounds (s : ByteArray) (hs : s.size < 4611686018427387904) : ∀ (i k : Nat), i ≤ s.data.toList.length → (∀ j (h : j < s.data.toList.length), i ≤ j → s.data.toList[j] ≠ 47) → i + 1 ≤ k →
    ∃ a nm, shelfmarkref10_cut.l0 k s ((i : Int) - 1) = some (a, nm) ∧ nm.data.toList = (match cutSlash s.data.toList with | none => s.data.toList | some (_, x) => x) := by
  have hz : s.size = s.data.toList.length := Lib.size_eq s
  intro i
  induction i with
  | zero =>
    intro k h1 h2 h3
    obtain ⟨k, rfl⟩ : ∃ g, k = g + 1 := ⟨k - 1, by omega⟩
    rw [shelfmarkref10_cut.l0, if_neg (by omega)]
    refine ⟨_, _, rfl, ?_⟩
    rw [cutSlash_none _ (fun hm => by
      obtain ⟨j, hj, e⟩ := List.getElem_of_mem hm
      exact h2 j hj (by omega) e)]
  | succ i ih =>
    intro k h1 h2 h3
    obtain ⟨k, rfl⟩ : ∃ g, k = g + 1 := ⟨k - 1, by omega⟩
    have hi : i < s.data.toList.length := by omega
    rw [show (((i + 1 : Nat) : Int) - 1) = (i : Int) by omega, shelfmarkref10_cut.l0, if_pos (by omega), if_pos (by omega), if_pos (by omega), bt_is s i hi]
    by_cases hc : s.data.toList[i] = 47
    · rw [if_pos (by rw [hc]; rfl), if_pos (by omega), wrap_up i (by omega), if_pos (by omega), if_pos (by omega)]
      refine ⟨_, _, rfl, ?_⟩
      have hn : 47 ∉ s.data.toList.drop (i + 1) := by
        intro hm
        obtain ⟨j, hj, e⟩ := List.getElem_of_mem hm
        rw [List.length_drop] at hj
        rw [List.getElem_drop] at e
        exact h2 (i + 1 + j) (by omega) (by omega) e
      have hcut : cutSlash s.data.toList = some (s.data.toList.take i, s.data.toList.drop (i + 1)) := by
        have h5 := cutSlash_some (s.data.toList.take i) _ hn
        rw [← h5]
        congr 1
        conv => lhs; rw [← List.take_append_drop i s.data.toList]
        rw [List.drop_eq_getElem_cons hi, hc]
      rw [hcut, Int.toNat_natCast]
      simp only
      rw [ByteArray.data_extract, Array.toList_extract, List.extract_eq_take_drop]
      exact List.take_of_length_le (by rw [List.length_drop]; omega)
    · rw [if_neg (by
        intro e
        apply hc
        apply UInt8.toNat_inj.mp
        show _ = 47
        omega), show wrap64 ((i : Int) - 1) = (i : Int) - 1 by unfold wrap64; omega]
      exact ih k (by omega) (fun j hj hij => by
        by_cases e : j = i
        · subst e; exact hc
        · exact h2 j hj (by omega)) (by omega)
theorem cut_f (s : ByteArray) (hs : s.size < 4611686018427387904) (k : Nat) (hk : s.size + 2 ≤ k) : ∃ a nm, shelfmarkref10_cut.f k s = some (a, nm) ∧ nm.data.toList = (match cutSlash s.data.toList with | none => s.data.toList | some (_, x) => x) := by
  have hz : s.size = s.data.toList.length := Lib.size_eq s
  unfold shelfmarkref10_cut.f
  rw [show wrap64 ((s.size : Int) - 1) = (s.data.toList.length : Int) - 1 by unfold wrap64; omega]
  exact cut_rounds s hs s.data.toList.length k (Nat.le_refl _) (fun j hj h => by omega) (by omega)
end Go.Proofs.YtncokgdfkbgflaaDoor

namespace Go.Proofs.YtncokgdfkbgflaaDoor
open Go.RowKit Go.Proofs.YtncokgdfkbgflaaDoorW.PrintWords
set_option linter.unusedVariables false
set_option linter.unusedSimpArgs false
def headY (r : List UInt8) : Rd (List UInt8) := onSt (stOf (onSt (stOf (onSt (.ok r) (oneP [wOpen]))) (oneP [wType]))) (oneP [wRegular, wSymlink, wDir])
def execY (y4 : Rd (List UInt8)) : Rd (List UInt8) := onSt (stOf (onSt (stOf (onSt (stOf y4) (oneP [[]]))) (oneP [wContents]))) (textP 65536)
def linkY (r : List UInt8) : Rd (List UInt8) := onSt (stOf (onSt (.ok r) (oneP [wTarget]))) (textP 4096)
def goodY (y : Rd (List UInt8)) : Rd (List UInt8) := y.then fun d r => if okNd ⟨[], 3, d⟩ = true then .ok (d, r) else .error 4
end Go.Proofs.YtncokgdfkbgflaaDoor

namespace Go.Proofs.YtncokgdfkbgflaaDoor
open Go.RowKit Go.Shelf Go.Lib Go.Proofs.YtncokgdfkbgflaaDoorW.PrintWords Go.Proofs.YtncokgdfkbgflaaDoorW.PrintMore P
set_option linter.unusedVariables false
set_option linter.unusedSimpArgs false
def NfS (B g : Nat) (s : ByteArray) (w : World) (X : Rd (List Nd)) (e : Ending) (w' : World) : Prop :=
  e = .returned (.tuple #[]) ∧ ∃ l', RfAt B g s (stOf X) l' w' ∧ RfStep (some 68) B g w w' ∧ (∀ l1 r1, X = .ok (l1, r1) → l' = l1)
def NodeRF (f : Nat) : Prop := ∀ (B g : Nat) (s : ByteArray) (r : List UInt8) (l : List Nd) (w : World) (path : List UInt8) (deep : Nat), RfAt B g s (.ok r) l w → B ≤ w.heap.size → l.length < 256 → slashes (headOf path) = deep → deep ≤ 64 → path.length ≤ 256 * deep → r.length < f →
  Calls Tryd.prog 44 #[.pointer (some ⟨g, 0, none⟩), .string (bsB path)] w (NfS B g s w (nodeP f path deep l r))
def DirRF (f : Nat) : Prop := ∀ (B g : Nat) (s : ByteArray) (r : List UInt8) (l : List Nd) (w : World) (path : List UInt8) (deep : Nat), RfAt B g s (.ok r) l w → B ≤ w.heap.size → l.length ≤ 256 → slashes (headOf path) = deep → deep ≤ 64 → path.length ≤ 256 * deep → r.length < f →
  Calls Tryd.prog 67 #[.pointer (some ⟨g, 0, none⟩), .string (bsB path)] w (NfS B g s w (dirP f path deep [] l r))
theorem RfAt.appended {B g at_ : Nat} {E : Int} {s : ByteArray} {x : St} {l l1 : List Nd} {w w1 : World} {v v1 : Value} (hb : w.heap[g]? = some (.cells (rfC s at_ v E) 76 (0, 0))) (hB : B ≤ g) (hx : RfSt s at_ E x) (hsm : s.size < 1000000000)
    (ho : OwnRow NdR 68 3 w B v l) (h1 : OwnRow NdR 68 3 w1 B v1 l1) (hbl : Below B w w1) (hg : w.grownBy w1 v.ownBlock) (hn : v1.ownBlock = v.ownBlock ∨ ∃ b, v1.ownBlock = some b ∧ w.heap.size ≤ b) :
    RfAt B g s x l1 (w1.setCell ⟨g, 2, none⟩ v1) ∧ RfStep (some 68) B g w (w1.setCell ⟨g, 2, none⟩ v1) := by
  have hne := ho.ne_block hb (by decide)
  have hb1 : w1.heap[g]? = some (.cells (rfC s at_ v E) 76 (0, 0)) := blk_grown hb hg hne
  have hgl := blk_lt hb
  have hne1 : v1.ownBlock ≠ some g := by
    rcases hn with hn | ⟨b, hn, hbb⟩
    · rw [hn]; exact fun e => hne e.symm
    · rw [hn]; intro e; injection e with e; omega
  refine ⟨⟨hB, hsm, at_, E, v1, blk_put hb1 2 v1 rfl, hx, own_cong h1 fun k hk => Below.heap_setCell _ _ _ _ (fun e => hne1 (by rw [hk, e]))⟩, ⟨hbl.setCell (p := ⟨g, 2, none⟩) hB v1, fun k o hk hkg he => ?_, fun e => by cases e⟩⟩
  refine (Below.heap_setCell w1 ⟨g, 2, none⟩ v1 k hkg).trans (blk_grown hk hg fun e => ?_)
  obtain ⟨inner, hi, _⟩ := ho
  obtain ⟨cs, hc⟩ := own_typed hi k e.symm
  rw [hc] at hk
  cases hk
  exact he _ _ _ rfl rfl
theorem RfStep.belowOf {B g : Nat} {w w' : World} (h : Below w.heap.size w w') (hB : B ≤ w.heap.size) (hg : g < w.heap.size) : RfStep none B g w w' :=
  ⟨h.mono hB, fun k o hk _ _ => blk_below hk h, fun _ s a v E hv => ⟨a, E, blk_below hv h⟩⟩
theorem RfAt.belowOf {B g : Nat} {s : ByteArray} {x : St} {l : List Nd} {w w' : World} (hr : RfAt B g s x l w) (h : Below w.heap.size w w') : RfAt B g s x l w' := hr.cong fun _ _ _ _ hk _ => blk_below hk h
end Go.Proofs.YtncokgdfkbgflaaDoor

namespace Go.Proofs.YtncokgdfkbgflaaDoor
open Go.RowKit Go.Proofs.YtncokgdfkbgflaaDoorW.PrintWords
set_option linter.unusedVariables false
set_option linter.unusedSimpArgs false
def nameB (last path : List UInt8) (cnt : Nat) (t : List UInt8) : Bool := !mayName t || ((Op.bytesLess t last || t == last) || (decide (256 ≤ cnt) || decide (64 < 1 + slashes (headOf path ++ t))))
def textY (r : List UInt8) : Rd (List UInt8) := onSt (stOf (onSt (stOf (onSt (.ok r) (oneP [wOpen]))) (oneP [wName]))) (textP 255)
def entY (last path : List UInt8) (cnt : Nat) (r : List UInt8) : Rd (List UInt8) := onSt (wrongS (nameB last path cnt (txtOf (textY r))) (stOf (textY r))) (oneP [wNode])
def entP (last : List UInt8) (deep cnt : Nat) (r : List UInt8) : Rd (List UInt8) := (mustP [wOpen, wName] r).then fun _ r => (nameP last deep cnt r).then fun nm r => (mustP [wNode] r).then fun _ r => .ok (nm, r)
end Go.Proofs.YtncokgdfkbgflaaDoor

namespace Go.Proofs.YtncokgdfkbgflaaDoor
open Go.RowKit Go.Shelf Go.Lib Go.Proofs.YtncokgdfkbgflaaDoorW.PrintWords Go.Proofs.YtncokgdfkbgflaaDoorW.PrintMore P
set_option linter.unusedVariables false
set_option linter.unusedSimpArgs false
theorem RfStep.drewN {e : Option TypeId} {B g : Nat} {a w : World} (h : RfStep e B g a w) (n : Nat) : RfStep e B g a (w.drewN n) := ⟨pw_below_drewN h.below n, h.kept, h.third⟩
theorem RfAt.drewN {B g : Nat} {s : ByteArray} {x : St} {l : List Nd} {w : World} (h : RfAt B g s x l w) (n : Nat) : RfAt B g s x l (w.drewN n) := h.cong fun _ _ _ _ hk _ => hk
def DirAt (f gk : Nat) (path : List UInt8) (deep : Nat) (last : List UInt8) (x : St) (l : List Nd) (X : Rd (List Nd)) : Prop :=
  (∃ r, x = .ok r ∧ l.length ≤ 256 ∧ r.length < gk ∧ gk ≤ f ∧ X = dirP gk path deep last l r) ∨ (∃ c, x = .error c ∧ c ≠ 0 ∧ X = .error c)
end Go.Proofs.YtncokgdfkbgflaaDoor

namespace Go.Proofs.YtncokgdfkbgflaaDoor
open Go.RowKit Go.Shelf Go.Lib Go.Proofs.YtncokgdfkbgflaaDoorW.PrintWords Go.Proofs.YtncokgdfkbgflaaDoorW.PrintMore P
set_option linter.unusedVariables false
set_option linter.unusedSimpArgs false
def GetRS (w : World) (x : Except Int (List Nd)) (e : Ending) (w' : World) : Prop :=
  Below w.heap.size w w' ∧ ((∃ c, x = .error c ∧ c ≠ 0 ∧ e = .returned (.agg #[.slice none 0 0, .int .i64 c])) ∨ (∃ l v, x = .ok l ∧ OwnRow NdR 68 3 w' w.heap.size v l ∧ e = .returned (.agg #[v, .int .i64 0])))
def finP (X : Rd (List Nd)) : Except Int (List Nd) := match X with | .error e => .error e | .ok (l, r) => if r = [] then .ok l else .error 4
def GetIs (gp : Except Int (List Nd)) (x : St) (l : List Nd) : Prop := match x with | .error c => gp = .error c | .ok _ => gp = .ok l
end Go.Proofs.YtncokgdfkbgflaaDoor

namespace Go.Proofs.YtncokgdfkbgflaaDoor
set_option linter.unusedVariables false
open Go.RowKit Go.Proofs.YtncokgdfkbgflaaDoorW.PrintWords Go.Proofs.YtncokgdfkbgflaaDoorW.PrintMore P
def toS (n : Nd) : S68 := ⟨bsB n.path, n.kind, bsB n.data⟩
theorem row_toS {w : World} {B : Nat} {v : Value} {l : List Nd} (h : OwnRow NdR 68 3 w B v l) : Kd.R k68 68 w B (fun _ => True) v (l.map toS) := by
  obtain ⟨inner, ho, hl, hr⟩ := h
  refine ⟨fun _ _ => trivial, inner, by rw [List.length_map]; exact ho, by rw [List.length_map]; exact hl, fun j p hj => ?_⟩
  rw [List.getElem?_map] at hj
  cases hx : l[j]? with
  | none => rw [hx] at hj; cases hj
  | some n =>
    rw [hx] at hj
    obtain rfl := Option.some.inj hj
    have := hr j n hx
    rw [NdR] at this
    show k68.M w B _ (toS n) ((inner.drop (j * 3)).take 3)
    rw [this]
    exact k68_mkM w B _ (toS n)
def getT (x : Except Int (List Nd)) : List S68 × Int := match x with | .ok l => (l.map toS, 0) | .error e => ([], e)
def parse_Get.f (a0 : ByteArray) : Option (List S68 × Int) := if a0.size < 1000000000 then some (getT (getP a0.data.toList)) else none
theorem parse_Get.calls (a0 : ByteArray) (r1 : List (S68)) (r2 : Int) (w : World) (h : parse_Get.f a0 = some (r1, r2)) :
    Calls Tryd.prog 14 #[.string a0] w fun e w' => ∃ v0_ : Value, e = .returned (.tuple #[v0_, .int .i64 r2]) ∧ Kd.R k68 68 w' w.heap.size (fun _ => True) v0_ r1 ∧ Below w.heap.size w w' := by
  unfold parse_Get.f at h
  split at h
  · rename_i hs
    have h := Option.some.inj h
    refine (get_calls may_ok a0 hs w).mono ?_
    rintro e w' ⟨hb, ⟨c, hx, hc, rfl⟩ | ⟨l, v, hx, ho, rfl⟩⟩
    · rw [hx] at h
      cases h
      exact ⟨_, rfl, Kd.R_nil _ _ _ _ _, hb⟩
    · rw [hx] at h
      cases h
      exact ⟨v, rfl, row_toS ho, hb⟩
  · cases h
def shelfmarkref10_Get.f (a0 : ByteArray) : Option (List S68 × Int) := if a0.size < 1000000000 then some (getT (getP a0.data.toList)) else none
end Go.Proofs.YtncokgdfkbgflaaDoor
