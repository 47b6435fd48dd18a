/- Texts of this claim, joined: what the others lean on. -/
import Derived.Test.YtncokgdfkbgflaaMadeM6
import Derived.Test.YtncokgdfkbgflaaMadeM4
import Derived.Test.YtncokgdfkbgflaaMadeM2
import Derived.Test.YtncokgdfkbgflaaMadeM5
import Derived.Test.YtncokgdfkbgflaaMadeM3
import Derived.Deep.Strs
import Derived.WalkKit
import Derived.OpenShut
import Derived.SizedLaws
import Derived.ChangeSlices
set_option linter.unusedVariables false
set_option linter.unusedSimpArgs false
namespace Go.Proofs.Ytncokgdfkbgflaa
mutual
/-- How many nodes. -/
def Tr.size : Tr → Nat
  | .leaf _ _ => 1
  | .dir es => 1 + es.size
def Es.size : Es → Nat
  | .nil => 0
  | .cons _ t es => t.size + es.size
end
mutual
theorem Tr.nodes_length (p : List UInt8) : ∀ t : Tr, (t.nodes p).length = t.size
  | .leaf k d => by rw [Tr.nodes, Tr.size]; rfl
  | .dir es => by rw [Tr.nodes, Tr.size, List.length_cons, Es.nodes_length p es]; omega
theorem Es.nodes_length (p : List UInt8) : ∀ es : Es, (es.nodes p).length = es.size
  | .nil => by rw [Es.nodes, Es.size]; rfl
  | .cons nm t es => by rw [Es.nodes, Es.size, List.length_append, Tr.nodes_length _ t, Es.nodes_length p es]
end
theorem Tr.size_pos : ∀ t : Tr, 1 ≤ t.size
  | .leaf k d => by rw [Tr.size]; exact Nat.le_refl 1
  | .dir es => by rw [Tr.size]; omega
def StopsAt (head : List UInt8) (post : List Nd) : Prop := ∀ n l, post = n :: l → Lib.hasPrefix n.path head = false
theorem below_stopped (head : List UInt8) (post : List Nd) (h : StopsAt head post) (j : Nat) : belowFrom head j post = [] := by
  cases post with
  | nil => rfl
  | cons n l => unfold belowFrom; rw [if_neg (by rw [h n l rfl]; decide)]
theorem below_over (head nm : List UInt8) : ∀ (r rest : List Nd) (j : Nat), (∀ n ∈ r, ∃ s, n.path = head ++ nm ++ [47] ++ s) → belowFrom head j (r ++ rest) = belowFrom head (j + r.length) rest
  | [], rest, j, _ => rfl
  | n :: r, rest, j, h => by
    obtain ⟨s, hs⟩ := h n List.mem_cons_self
    have ih := below_over head nm r rest (j + 1) (fun m hm => h m (List.mem_cons_of_mem _ hm))
    have hp : Lib.hasPrefix n.path head = true := (hasPrefix_iff _ _).2 ⟨nm ++ [47] ++ s, by rw [hs]; simp [List.append_assoc]⟩
    have hc : (n.path.drop head.length).contains 47 = true := by rw [hs]; simp [List.append_assoc]
    rw [List.cons_append, belowFrom, if_pos hp, if_pos hc, ih, List.length_cons]
    congr 1
    omega
def Es.places : Nat → Es → List (Nat × List UInt8)
  | _, .nil => []
  | j, .cons nm t es => (j, nm) :: Es.places (j + t.size) es
theorem Es.stops (d : Nat) (last p q : List UInt8) (es : Es) (post : List Nd) (nm : List UInt8) (hq : q = headOf p ++ nm) (hnm : nm ≠ []) (h : es.ok d last = true) (hpost : StopsAt (headOf p) post) : StopsAt (headOf q) (es.nodes p ++ post) := by
  have hqq : headOf q = headOf p ++ nm ++ [47] := by rw [hq, headOf_ne (by intro e; exact hnm (List.append_eq_nil_iff.1 e).2)]
  intro n l hl
  rw [Bool.eq_false_iff]
  intro hp
  rw [hqq] at hp
  obtain ⟨s, hs⟩ := (hasPrefix_iff _ _).1 hp
  cases es with
  | nil =>
    rw [Es.nodes] at hl
    have h1 := hpost n l hl
    have h2 : Lib.hasPrefix n.path (headOf p) = true := (hasPrefix_iff _ _).2 ⟨nm ++ [47] ++ s, by rw [hs]; simp [List.append_assoc]⟩
    rw [h2] at h1
    exact absurd h1 (by decide)
  | cons nm2 t2 es2 =>
    rw [Es.ok] at h
    simp only [Bool.and_eq_true] at h
    have h47 := (mayName_ne h.1).2
    obtain ⟨m, r, hm, hmp⟩ := Tr.first (headOf p ++ nm2) t2
    rw [Es.nodes, hm, List.cons_append, List.cons_append] at hl
    injection hl with hl1 hl2
    rw [← hl1, hmp] at hs
    have h3 : nm2 = nm ++ [47] ++ s := by
      have : headOf p ++ nm2 = headOf p ++ (nm ++ [47] ++ s) := by rw [hs]; simp [List.append_assoc]
      exact List.append_cancel_left this
    exact h47 (by rw [h3]; simp)
theorem Es.below_is (d : Nat) (p : List UInt8) (post : List Nd) (hpost : StopsAt (headOf p) post) : ∀ (es : Es) (last : List UInt8) (j : Nat), es.ok d last = true → belowFrom (headOf p) j (es.nodes p ++ post) = es.places j
  | .nil, last, j, _ => by rw [Es.nodes, Es.places]; exact below_stopped _ _ hpost j
  | .cons nm t es, last, j, h => by
    have h' := h
    rw [Es.ok] at h
    simp only [Bool.and_eq_true] at h
    obtain ⟨h1, _, _, h4, h5⟩ := h
    obtain ⟨hne, h47⟩ := mayName_ne h1
    have ih := Es.below_is d p post hpost es nm (j + t.size) h5
    obtain ⟨n, r, hn, hnp⟩ := Tr.first (headOf p ++ nm) t
    have hb := Tr.below_path (d + 1) (headOf p ++ nm) t h4
    have hlen := Tr.nodes_length (headOf p ++ nm) t
    rw [hn] at hb hlen
    have hp : Lib.hasPrefix n.path (headOf p) = true := (hasPrefix_iff _ _).2 ⟨nm, hnp⟩
    have hd : n.path.drop (headOf p).length = nm := by rw [hnp]; simp
    have hc : ¬ (nm.contains 47 = true) := by simpa using h47
    rw [Es.nodes, Es.places, hn, List.cons_append, List.cons_append, belowFrom, if_pos hp, hd, if_neg hc, List.append_assoc,
      below_over (headOf p) nm r (es.nodes p ++ post) (j + 1) (by
        intro m hm
        obtain ⟨s, _, hs⟩ := hb m (by simpa using hm)
        rw [headOf_ne (by intro e; exact hne (List.append_eq_nil_iff.1 e).2)] at hs
        exact ⟨s, hs⟩)]
    rw [List.length_cons] at hlen
    rw [show j + 1 + r.length = j + t.size by omega, ih]
mutual
theorem Tr.pack_is : ∀ (t : Tr) (d : Nat) (p : List UInt8) (pre post : List Nd) (f : Nat), t.ok d = true → StopsAt (headOf p) post → t.size ≤ f → packN f (pre ++ (t.nodes p ++ post)) pre.length = t.enc
  | .leaf k x, d, p, pre, post, f, h, hs, hf => by
    rw [Tr.size] at hf
    obtain ⟨f, rfl⟩ : ∃ g, f = g + 1 := ⟨f - 1, by omega⟩
    rw [Tr.ok] at h
    simp only [Bool.and_eq_true, decide_eq_true_eq] at h
    rw [Tr.nodes, Tr.enc, packN]
    simp only [List.cons_append, List.nil_append, List.length_append, List.getElem?_append_right (Nat.le_refl pre.length), Nat.sub_self, List.getElem?_cons_zero]
    rw [if_pos h.1]
    rfl
  | .dir es, d, p, pre, post, f, h, hs, hf => by
    rw [Tr.size] at hf
    obtain ⟨f, rfl⟩ : ∃ g, f = g + 1 := ⟨f - 1, by omega⟩
    rw [Tr.ok] at h
    have hb := Es.below_is d p post hs es [] (pre.length + 1) h
    have ih := Es.pack_is es d [] p (pre ++ [⟨p, 4, []⟩]) post f h hs (by omega)
    have hdrop : (pre ++ (⟨p, 4, []⟩ :: (es.nodes p ++ post))).drop (pre.length + 1) = es.nodes p ++ post := by
      rw [List.drop_append]
      simp
    rw [Tr.nodes, Tr.enc, packN]
    simp only [List.cons_append, List.getElem?_append_right (Nat.le_refl pre.length), Nat.sub_self, List.getElem?_cons_zero]
    rw [if_neg (by decide), hdrop, hb]
    rw [List.length_append, List.length_cons, List.length_nil] at ih
    rw [List.append_assoc] at ih
    simp only [List.cons_append, List.nil_append] at ih
    rw [ih]
theorem Es.pack_is : ∀ (es : Es) (d : Nat) (last p : List UInt8) (pre post : List Nd) (f : Nat), es.ok d last = true → StopsAt (headOf p) post → es.size ≤ f →
    (es.places pre.length).flatMap (fun x => entryB x.2 (packN f (pre ++ (es.nodes p ++ post)) x.1)) = es.enc
  | .nil, d, last, p, pre, post, f, h, hs, hf => by rw [Es.places, Es.enc]; rfl
  | .cons nm t es, d, last, p, pre, post, f, h, hs, hf => by
    rw [Es.size] at hf
    rw [Es.ok] at h
    simp only [Bool.and_eq_true] at h
    obtain ⟨h1, _, _, h4, h5⟩ := h
    have hne := (mayName_ne h1).1
    have it := Tr.pack_is t (d + 1) (headOf p ++ nm) pre (es.nodes p ++ post) f h4 (Es.stops d nm p _ es post nm rfl hne h5 hs) (by omega)
    have ie := Es.pack_is es d nm p (pre ++ t.nodes (headOf p ++ nm)) post f h5 hs (by omega)
    rw [List.length_append, Tr.nodes_length, List.append_assoc] at ie
    rw [Es.places, Es.enc, Es.nodes, List.flatMap_cons]
    simp only [List.append_assoc] at it ie ⊢
    rw [it, ie]
end
end Go.Proofs.Ytncokgdfkbgflaa

namespace Go.Proofs.Ytncokgdfkbgflaa
theorem cutSlash_is : ∀ (l a n : List UInt8), cutSlash l = some (a, n) → l = a ++ 47 :: n
  | [], a, n, h => by simp [cutSlash] at h
  | b :: l, a, n, h => by
    unfold cutSlash at h
    split at h
    · rename_i a' n' h2
      injection h with h
      obtain rfl : n' = n := congrArg Prod.snd h
      have : b :: a' = a := congrArg Prod.fst h
      rw [← this, cutSlash_is l a' n' h2]
      rfl
    · split at h
      · rename_i h2
        injection h with h
        obtain rfl : l = n := congrArg Prod.snd h
        have : ([] : List UInt8) = a := congrArg Prod.fst h
        rw [← this, h2]
        rfl
      · cases h
theorem idxOf_lt' {α : Type} (p : α → Bool) : ∀ (l : List α) (i : Nat), idxOf p l = i → i < l.length
  | [], i, h => by simp [idxOf] at h
  | x :: l, i, h => by
    have hg := idxOf_ge p l
    unfold idxOf at h
    rw [List.length_cons]
    split at h
    · omega
    · split at h
      · omega
      · have := idxOf_lt' p l (i - 1) (by omega)
        omega
theorem idxOf_append {α : Type} (f : α → Bool) : ∀ (l : List α) (z : α), idxOf f (l ++ [z]) = if 0 ≤ idxOf f l then idxOf f l else if f z then (l.length : Int) else -1
  | [], z => by
    simp only [List.nil_append, idxOf]
    split <;> simp
  | x :: l, z => by
    have ih := idxOf_append f l z
    have hg := idxOf_ge f l
    have hg2 := idxOf_ge f (l ++ [z])
    rw [List.cons_append]
    by_cases h : f x = true
    · simp only [idxOf, if_pos h]
      simp
    · simp only [idxOf, if_neg h, ih]
      rw [List.length_cons]
      repeat' split
      all_goals omega
def parentOf (p : List UInt8) : Option (List UInt8 × List UInt8) :=
  match cutSlash p with
  | none => some ([], p)
  | some (a, n) => if a = [] then none else some (a, n)
theorem parentOf_is {p a n : List UInt8} (h : parentOf p = some (a, n)) : p = headOf a ++ n := by
  unfold parentOf at h
  split at h
  · injection h with h
    have h1 : [] = a := congrArg Prod.fst h
    have h2 : p = n := congrArg Prod.snd h
    rw [← h1, ← h2]; rfl
  · rename_i a' n' hc
    split at h
    · cases h
    · rename_i hne
      injection h with h
      have h1 : a' = a := congrArg Prod.fst h
      have h2 : n' = n := congrArg Prod.snd h
      rw [cutSlash_is _ _ _ hc, ← h1, ← h2, headOf_ne hne]
      simp
theorem withinP_is (op : List Lv) (p : List UInt8) : withinP op p = match parentOf p with
    | none => none
    | some (a, n) => if idxOf (fun x : Lv => x.1 == a) op < 0 then none else some ((idxOf (fun x : Lv => x.1 == a) op).toNat, n) := by
  unfold withinP parentOf
  cases cutSlash p with
  | none => rfl
  | some x =>
    obtain ⟨a, n⟩ := x
    simp only
    split
    · rfl
    · rfl
theorem mayStep_cases (outer : List Lv) (p last : List UInt8) (n : Nd) (op' : List Lv) (h : mayStep (outer ++ [(p, last)]) n = some op') :
    (mayStep outer n = some op') ∨ (∃ nm, n.path = headOf p ++ nm ∧ mayName nm = true ∧ (Op.bytesLess nm last || nm == last) = false ∧ outer.length < 64 ∧ op' = outer ++ [(p, nm)] ++ (if n.kind = 4 then [(n.path, [])] else [])) := by
  unfold mayStep at h ⊢
  rw [withinP_is] at h ⊢
  cases hpar : parentOf n.path with
  | none => rw [hpar] at h; cases h
  | some x =>
    obtain ⟨a, nm⟩ := x
    rw [hpar] at h
    simp only [idxOf_append] at h ⊢
    by_cases h0 : 0 ≤ idxOf (fun x : Lv => x.1 == a) outer
    · left
      rw [if_pos h0] at h
      rw [if_neg (by omega)] at h ⊢
      obtain ⟨i, hi⟩ := Int.eq_ofNat_of_zero_le h0
      have hlt := idxOf_lt' _ _ _ hi
      rw [hi, Int.toNat_natCast] at h ⊢
      simp only at h ⊢
      have hg : (outer ++ [(p, last)]).getD i ([], []) = outer.getD i ([], []) := by
        simp [List.getD_eq_getElem?_getD, List.getElem?_append_left hlt]
      rw [hg, List.take_append_of_le_length (by omega)] at h
      exact h
    · right
      rw [if_neg h0] at h
      by_cases hz : p = a
      · have hb : (p == a) = true := by rw [hz]; simp
        rw [if_pos hb, if_neg (by omega), Int.toNat_natCast] at h
        simp only at h
        have hg : (outer ++ [(p, last)]).getD outer.length ([], []) = (p, last) := by
          simp [List.getD_eq_getElem?_getD]
        rw [hg, List.take_of_length_le (by simp)] at h
        split at h
        · rename_i hc
          simp only [Bool.and_eq_true, Bool.not_eq_true', decide_eq_true_eq] at hc
          injection h with h
          refine ⟨nm, by rw [hz]; exact parentOf_is hpar, hc.1, hc.2.1, hc.2.2, ?_⟩
          rw [← h]
          congr 1
          simp
        · cases h
      · have hb : ¬ ((p == a) = true) := by simpa using hz
        rw [if_neg hb, if_pos (by omega)] at h
        cases h
theorem mayGo_next {outer : List Lv} {n : Nd} {l : List Nd} (h : mayGo outer (n :: l) = true) : ∃ op', mayStep outer n = some op' ∧ mayGo op' l = true := by
  unfold mayGo at h
  split at h
  · cases h
  · rename_i op' hs
    exact ⟨op', hs, h⟩
theorem mayGo_of {outer : List Lv} {n : Nd} {l : List Nd} {op' : List Lv} (h : mayStep outer n = some op') (h2 : mayGo op' l = true) : mayGo outer (n :: l) = true := by
  unfold mayGo
  rw [h]
  exact h2
theorem okNd_kind {n : Nd} (h : okNd n = true) : (n.kind = 1 ∨ n.kind = 2 ∨ n.kind = 3) ∨ (n.kind = 4 ∧ n.data = []) := by
  unfold okNd at h
  split at h
  · rename_i h1
    rcases h1 with h1 | h1
    · exact .inl (.inl h1)
    · exact .inl (.inr (.inl h1))
  · split at h
    · rename_i h3
      exact .inl (.inr (.inr h3))
    · split at h
      · rename_i h4
        exact .inr ⟨h4, by simpa using h⟩
      · cases h
theorem okNd_path (n : Nd) (p : List UInt8) : okNd ⟨p, n.kind, n.data⟩ = okNd n := rfl
theorem mayGo_tree : ∀ (m : Nat) (l : List Nd) (outer : List Lv) (p last : List UInt8), l.length ≤ m → mayGo (outer ++ [(p, last)]) l = true → (∀ n ∈ l, okNd n = true) →
    ∃ es rest, l = Es.nodes p es ++ rest ∧ Es.ok outer.length last es = true ∧ mayGo outer rest = true := by
  intro m
  induction m with
  | zero =>
    intro l outer p last hm h hok
    obtain rfl : l = [] := List.eq_nil_of_length_eq_zero (by omega)
    exact ⟨.nil, [], by rw [Es.nodes]; rfl, by rw [Es.ok], by rw [mayGo]⟩
  | succ m ih =>
    intro l outer p last hm h hok
    cases l with
    | nil => exact ⟨.nil, [], by rw [Es.nodes]; rfl, by rw [Es.ok], by rw [mayGo]⟩
    | cons n l =>
      obtain ⟨op', hs, h2⟩ := mayGo_next h
      rw [List.length_cons] at hm
      have hok' := fun x hx => hok x (List.mem_cons_of_mem _ hx)
      have hn := hok n List.mem_cons_self
      rcases mayStep_cases outer p last n op' hs with hs' | ⟨nm, hp, hnm, hlt, h64, hop⟩
      · exact ⟨.nil, n :: l, by rw [Es.nodes]; rfl, by rw [Es.ok], mayGo_of hs' h2⟩
      · rcases okNd_kind hn with hk | ⟨hk, hd⟩
        · have hk4 : ¬ n.kind = 4 := by omega
          rw [if_neg hk4, List.append_nil] at hop
          rw [hop] at h2
          obtain ⟨es, rest, e1, e2, e3⟩ := ih l outer p nm (by omega) h2 hok'
          refine ⟨.cons nm (.leaf n.kind n.data) es, rest, ?_, ?_, e3⟩
          · rw [Es.nodes, Tr.nodes, ← hp, e1]; rfl
          · rw [Es.ok, hnm, hlt, decide_eq_true h64, Tr.ok, decide_eq_true hk, e2, okNd_path, hn]; rfl
        · rw [if_pos hk] at hop
          rw [hop] at h2
          obtain ⟨es1, rest1, e1, e2, e3⟩ := ih l (outer ++ [(p, nm)]) n.path [] (by omega) h2 hok'
          have hr : rest1.length ≤ l.length := by rw [e1, List.length_append]; omega
          obtain ⟨es2, rest2, f1, f2, f3⟩ := ih rest1 outer p nm (by omega) e3 (fun x hx => hok' x (by rw [e1]; exact List.mem_append_right _ hx))
          refine ⟨.cons nm (.dir es1) es2, rest2, ?_, ?_, f3⟩
          · rw [Es.nodes, Tr.nodes, ← hp, e1, f1]
            have : n = ⟨n.path, 4, []⟩ := by rw [← hk, ← hd]
            conv => lhs; rw [this]
            simp [List.append_assoc]
          · rw [List.length_append, List.length_cons, List.length_nil] at e2
            rw [Es.ok, hnm, hlt, decide_eq_true h64, Tr.ok, f2, e2]; rfl
theorem mayGo_nil : ∀ l : List Nd, mayGo [] l = true → l = []
  | [], _ => rfl
  | n :: l, h => by
    obtain ⟨op', hs, _⟩ := mayGo_next h
    unfold mayStep at hs
    rw [withinP_is] at hs
    cases hpar : parentOf n.path with
    | none => rw [hpar] at hs; cases hs
    | some x =>
      rw [hpar] at hs
      simp [idxOf] at hs
theorem may_tree (l : List Nd) (h : May l = true) : ∃ t : Tr, t.ok 0 = true ∧ l = t.nodes [] := by
  unfold May at h
  cases l with
  | nil => cases h
  | cons n r =>
    simp only [Bool.and_eq_true, decide_eq_true_eq] at h
    obtain ⟨_, h2, h3, h4⟩ := h
    have hp : n.path = [] := by simpa using h2
    have hall : ∀ x ∈ n :: r, okNd x = true := fun x hx => List.all_eq_true.1 h3 x hx
    have hn := hall n List.mem_cons_self
    rcases okNd_kind hn with hk | ⟨hk, hd⟩
    · rw [if_neg (by omega)] at h4
      obtain rfl := mayGo_nil r h4
      refine ⟨.leaf n.kind n.data, ?_, ?_⟩
      · rw [Tr.ok, decide_eq_true hk, okNd_path, hn]; rfl
      · rw [Tr.nodes, ← hp]
    · rw [if_pos hk] at h4
      obtain ⟨es, rest, e1, e2, e3⟩ := mayGo_tree r.length r [] [] [] (Nat.le_refl _) h4 (fun x hx => hall x (List.mem_cons_of_mem _ hx))
      obtain rfl := mayGo_nil rest e3
      refine ⟨.dir es, ?_, ?_⟩
      · rw [Tr.ok]; exact e2
      · rw [Tr.nodes, e1, List.append_nil]
        have : n = ⟨[], 4, []⟩ := by
          cases n
          simp only at hp hk hd
          rw [hp, hk, hd]
        rw [this]
theorem packN_tree (t : Tr) (h : t.ok 0 = true) : packN (t.nodes []).length (t.nodes []) 0 = t.enc := by
  have := Tr.pack_is t 0 [] [] [] (t.nodes []).length h (fun n l e => by cases e) (by rw [Tr.nodes_length]; exact Nat.le_refl _)
  simpa using this
end Go.Proofs.Ytncokgdfkbgflaa

namespace Go.Proofs.Ytncokgdfkbgflaa
theorem parentOf_in (p nm : List UInt8) (h : 47 ∉ nm) : parentOf (headOf p ++ nm) = some (p, nm) := by
  unfold parentOf
  by_cases hp : p = []
  · subst hp
    rw [show headOf [] ++ nm = nm from rfl, cutSlash_none nm h]
  · have e : headOf p ++ nm = p ++ 47 :: nm := by rw [headOf_ne hp]; simp
    rw [e, cutSlash_some p nm h]
    simp only
    rw [if_neg hp]
theorem idxOf_mid (p : List UInt8) (outer tail : List Lv) (last : List UInt8) (hout : ∀ x ∈ outer, x.1 ≠ p) : idxOf (fun x : Lv => x.1 == p) (outer ++ [(p, last)] ++ tail) = (outer.length : Int) := by
  refine idxOf_hit _ _ outer.length (by simp) ?_ ?_
  · intro j hj
    have e : (outer ++ [(p, last)] ++ tail)[j]'(by simp; omega) = outer[j] := by
      simp [List.append_assoc, List.getElem_append_left hj]
    rw [e]
    exact beq_eq_false_iff_ne.2 (hout _ (List.getElem_mem _))
  · simp [List.append_assoc, List.getElem_append_right]
theorem mayStep_in (outer tail : List Lv) (p last nm : List UInt8) (n : Nd) (hp : n.path = headOf p ++ nm) (hnm : mayName nm = true) (hlt : (Op.bytesLess nm last || nm == last) = false) (h64 : outer.length < 64) (hout : ∀ x ∈ outer, x.1 ≠ p) :
    mayStep (outer ++ [(p, last)] ++ tail) n = some (outer ++ [(p, nm)] ++ (if n.kind = 4 then [(n.path, [])] else [])) := by
  unfold mayStep
  rw [withinP_is, hp, parentOf_in p nm (mayName_ne hnm).2]
  simp only
  rw [idxOf_mid p outer tail last hout, if_neg (by omega), Int.toNat_natCast]
  simp only
  have hg : (outer ++ [(p, last)] ++ tail).getD outer.length ([], []) = (p, last) := by
    simp [List.getD_eq_getElem?_getD, List.append_assoc]
  have ht : (outer ++ [(p, last)] ++ tail).take (outer.length + 1) = outer ++ [(p, last)] := by
    rw [List.take_append_of_le_length (by simp)]
    exact List.take_of_length_le (by simp)
  rw [hg, ht, hnm, hlt, decide_eq_true h64]
  simp [hp]
def Es.lastN (last : List UInt8) : Es → List UInt8
  | .nil => last
  | .cons nm _ es => es.lastN nm
theorem okNd_dir (p : List UInt8) : okNd ⟨p, 4, []⟩ = true := by simp [okNd]
mutual
theorem Tr.may_in : ∀ (t : Tr) (outer tail : List Lv) (p last nm : List UInt8) (rest : List Nd), t.ok (outer.length + 1) = true → mayName nm = true → (Op.bytesLess nm last || nm == last) = false → outer.length < 64 →
    (∀ x ∈ outer, x.1.length < p.length) → (∀ tail', mayGo (outer ++ [(p, nm)] ++ tail') rest = true) → mayGo (outer ++ [(p, last)] ++ tail) (t.nodes (headOf p ++ nm) ++ rest) = true
  | .leaf k x, outer, tail, p, last, nm, rest, h, hnm, hlt, h64, hout, hr => by
    rw [Tr.nodes]
    exact mayGo_of (mayStep_in outer tail p last nm ⟨headOf p ++ nm, k, x⟩ rfl hnm hlt h64 (fun x hx e => by have := hout x hx; rw [e] at this; omega)) (hr _)
  | .dir es, outer, tail, p, last, nm, rest, h, hnm, hlt, h64, hout, hr => by
    rw [Tr.nodes, List.cons_append]
    refine mayGo_of (mayStep_in outer tail p last nm ⟨headOf p ++ nm, 4, []⟩ rfl hnm hlt h64 (fun x hx e => by have := hout x hx; rw [e] at this; omega)) ?_
    rw [if_pos rfl]
    rw [Tr.ok] at h
    have hne := (mayName_ne hnm).1
    have hlen : p.length < (headOf p ++ nm).length := by
      have : nm.length ≠ 0 := fun e => hne (List.length_eq_zero_iff.1 e)
      rw [List.length_append, headOf]
      split
      · rename_i e; rw [e]; simp; omega
      · simp; omega
    have := Es.may_in es (outer ++ [(p, nm)]) [] (headOf p ++ nm) [] rest (by simpa using h) (by
      intro x hx
      rcases List.mem_append.1 hx with hx | hx
      · have := hout x hx; omega
      · simp at hx; rw [hx]; exact hlen) (fun last' tail' => by
      have := hr ([(headOf p ++ nm, last')] ++ tail')
      simpa [List.append_assoc] using this)
    simpa using this
theorem Es.may_in : ∀ (es : Es) (outer tail : List Lv) (p last : List UInt8) (rest : List Nd), es.ok outer.length last = true →
    (∀ x ∈ outer, x.1.length < p.length) → (∀ last' tail', mayGo (outer ++ [(p, last')] ++ tail') rest = true) → mayGo (outer ++ [(p, last)] ++ tail) (es.nodes p ++ rest) = true
  | .nil, outer, tail, p, last, rest, h, hout, hr => by rw [Es.nodes]; exact hr last tail
  | .cons nm t es, outer, tail, p, last, rest, h, hout, hr => by
    rw [Es.ok] at h
    simp only [Bool.and_eq_true, Bool.not_eq_true', decide_eq_true_eq] at h
    obtain ⟨h1, h2, h3, h4, h5⟩ := h
    rw [Es.nodes, List.append_assoc (Tr.nodes _ t)]
    exact Tr.may_in t outer tail p last nm (es.nodes p ++ rest) h4 h1 h2 h3 hout (fun tail' => Es.may_in es outer tail' p nm rest h5 hout hr)
end

mutual
theorem Tr.ok_nodes (d : Nat) (p : List UInt8) : ∀ t : Tr, t.ok d = true → ∀ n ∈ t.nodes p, okNd n = true
  | .leaf k x, h => by
    rw [Tr.nodes]
    rw [Tr.ok] at h
    simp only [Bool.and_eq_true] at h
    intro n hn
    rw [List.mem_singleton.1 hn]
    exact h.2
  | .dir es, h => by
    rw [Tr.nodes]
    rw [Tr.ok] at h
    intro n hn
    rcases List.mem_cons.1 hn with rfl | hn
    · exact okNd_dir p
    · exact Es.ok_nodes d [] p es h n hn
theorem Es.ok_nodes (d : Nat) (last p : List UInt8) : ∀ es : Es, es.ok d last = true → ∀ n ∈ es.nodes p, okNd n = true
  | .nil, _ => by rw [Es.nodes]; intro n hn; simp at hn
  | .cons nm t es, h => by
    rw [Es.ok] at h
    simp only [Bool.and_eq_true] at h
    rw [Es.nodes]
    intro n hn
    rcases List.mem_append.1 hn with hn | hn
    · exact Tr.ok_nodes (d + 1) _ t h.2.2.2.1 n hn
    · exact Es.ok_nodes d nm p es h.2.2.2.2 n hn
end

theorem May_cons (n : Nd) (r : List Nd) : May (n :: r) = (decide ((n :: r).length ≤ 256) && (n.path == [] && ((n :: r).all okNd && mayGo (if n.kind = 4 then [([], [])] else []) r))) := rfl
theorem tree_may (t : Tr) (h : t.ok 0 = true) (hs : t.size ≤ 256) : May (t.nodes []) = true := by
  have hok := Tr.ok_nodes 0 [] t h
  have hl := Tr.nodes_length [] t
  cases t with
  | leaf k x =>
    rw [Tr.nodes] at hok ⊢
    rw [Tr.ok] at h
    simp only [Bool.and_eq_true, decide_eq_true_eq] at h
    rw [May_cons]
    rw [if_neg (by show ¬ k = 4; omega), mayGo]
    simp only [List.all_cons, List.all_nil, hok _ (List.mem_singleton.2 rfl)]
    simp
  | dir es =>
    rw [Tr.nodes] at hok hl ⊢
    rw [Tr.ok] at h
    rw [May_cons]
    have hall : (⟨[], 4, []⟩ :: es.nodes []).all okNd = true := List.all_eq_true.2 hok
    have hgo := Es.may_in es [] [] [] [] [] h (fun x hx => by cases hx) (fun _ _ => by rw [mayGo])
    rw [hall, if_pos rfl, hl, decide_eq_true hs]
    simpa using hgo
end Go.Proofs.Ytncokgdfkbgflaa

namespace Go.Proofs.Ytncokgdfkbgflaa
def refName (path dir : List UInt8) : List UInt8 :=
  if Lib.hasPrefix path (headOf dir) then (if (path.drop (headOf dir).length).contains 47 then [] else path.drop (headOf dir).length) else []
theorem refName_in (p nm : List UInt8) (h : 47 ∉ nm) : refName (headOf p ++ nm) p = nm := by
  unfold refName
  rw [if_pos ((hasPrefix_iff _ _).2 ⟨nm, rfl⟩)]
  have : (headOf p ++ nm).drop (headOf p).length = nm := by simp
  rw [this, if_neg (by simpa using h)]
theorem refName_is {path p nm : List UInt8} (h : refName path p = nm) (hne : nm ≠ []) : path = headOf p ++ nm ∧ 47 ∉ nm := by
  unfold refName at h
  split at h
  · rename_i hp
    split at h
    · exact absurd h.symm hne
    · rename_i hc
      obtain ⟨t, ht⟩ := (hasPrefix_iff _ _).1 hp
      have : path.drop (headOf p).length = t := by rw [ht]; simp
      rw [this] at h hc
      rw [← h]
      exact ⟨ht, by simpa using hc⟩
  · exact absurd h.symm hne
theorem refName_stop {path p : List UInt8} (h : Lib.hasPrefix path (headOf p) = false) : refName path p = [] := by
  unfold refName; rw [if_neg (by rw [h]; decide)]
def takeDir : Nat → List UInt8 → List UInt8 → List Nd → List Nd
  | 0, _, _, l => l
  | _ + 1, _, _, [] => []
  | f + 1, p, last, n :: l =>
    if refName n.path p = [] ∨ (Op.bytesLess (refName n.path p) last || refName n.path p == last) = true then n :: l
    else takeDir f p (refName n.path p) (if n.kind = 4 then takeDir f n.path [] l else l)
theorem takeDir_stop (f : Nat) (p last : List UInt8) (rest : List Nd) (h : StopsAt (headOf p) rest) : takeDir f p last rest = rest := by
  cases f with
  | zero => rfl
  | succ f =>
    cases rest with
    | nil => rfl
    | cons n l => unfold takeDir; rw [if_pos (.inl (refName_stop (h n l rfl)))]
mutual
theorem Tr.take_in : ∀ (t : Tr) (d : Nat) (p last nm : List UInt8) (rest : List Nd) (f : Nat), t.ok (d + 1) = true → mayName nm = true → (Op.bytesLess nm last || nm == last) = false → StopsAt (headOf (headOf p ++ nm)) rest → t.size ≤ f →
    takeDir (f + 1) p last (t.nodes (headOf p ++ nm) ++ rest) = takeDir f p nm rest
  | .leaf k x, d, p, last, nm, rest, f, h, hnm, hlt, hs, hf => by
    rw [Tr.ok] at h
    simp only [Bool.and_eq_true, decide_eq_true_eq] at h
    have e := refName_in p nm (mayName_ne hnm).2
    rw [Tr.nodes, List.cons_append, List.nil_append, takeDir]
    simp only [e]
    rw [if_neg (by rw [hlt]; simp [(mayName_ne hnm).1]), if_neg (by omega)]
  | .dir es, d, p, last, nm, rest, f, h, hnm, hlt, hs, hf => by
    rw [Tr.ok] at h
    rw [Tr.size] at hf
    have e := refName_in p nm (mayName_ne hnm).2
    rw [Tr.nodes, List.cons_append, takeDir]
    simp only [e]
    rw [if_neg (by rw [hlt]; simp [(mayName_ne hnm).1]), if_pos trivial, Es.take_in es (d + 1) (headOf p ++ nm) [] rest f h hs (by omega)]
theorem Es.take_in : ∀ (es : Es) (d : Nat) (p last : List UInt8) (rest : List Nd) (f : Nat), es.ok d last = true → StopsAt (headOf p) rest → es.size + 1 ≤ f → takeDir f p last (es.nodes p ++ rest) = rest
  | .nil, d, p, last, rest, f, h, hs, hf => by rw [Es.nodes]; exact takeDir_stop f p last rest hs
  | .cons nm t es, d, p, last, rest, f, h, hs, hf => by
    have h' := h
    rw [Es.ok] at h
    simp only [Bool.and_eq_true, Bool.not_eq_true', decide_eq_true_eq] at h
    obtain ⟨h1, h2, h3, h4, h5⟩ := h
    rw [Es.size] at hf
    have hp := Tr.size_pos t
    obtain ⟨f, rfl⟩ : ∃ g, f = g + 1 := ⟨f - 1, by omega⟩
    rw [Es.nodes, List.append_assoc, Tr.take_in t d p last nm (es.nodes p ++ rest) f h4 h1 h2 (Es.stops d nm p _ es rest nm rfl (mayName_ne h1).1 h5 hs) (by omega)]
    exact Es.take_in es d p nm rest f h5 hs (by omega)
end
end Go.Proofs.Ytncokgdfkbgflaa

namespace Go.Proofs.Ytncokgdfkbgflaa
def slashes (p : List UInt8) : Nat := p.count 47
def refNode (n : Nd) : Bool := okNd n && (decide (slashes n.path < 64) && mayName (match cutSlash n.path with | none => n.path | some (_, nm) => nm))
theorem cut_in (p nm : List UInt8) (h : 47 ∉ nm) : (match cutSlash (headOf p ++ nm) with | none => headOf p ++ nm | some (_, x) => x) = nm := by
  by_cases hp : p = []
  · subst hp
    rw [show headOf [] ++ nm = nm from rfl, cutSlash_none nm h]
  · have e : headOf p ++ nm = p ++ 47 :: nm := by rw [headOf_ne hp]; simp
    rw [e, cutSlash_some p nm h]
theorem takeDir_tree : ∀ (f : Nat) (l : List Nd) (p last : List UInt8) (d : Nat), l.length < f → slashes (headOf p) = d → (∀ n ∈ l, refNode n = true) →
    ∃ es, l = Es.nodes p es ++ takeDir f p last l ∧ Es.ok d last es = true
  | 0, l, p, last, d, h, _, _ => by omega
  | f + 1, [], p, last, d, _, _, _ => ⟨.nil, by rw [Es.nodes]; rfl, by rw [Es.ok]⟩
  | f + 1, n :: l, p, last, d, hf, hd, hok => by
    unfold takeDir
    split
    · exact ⟨.nil, by rw [Es.nodes]; rfl, by rw [Es.ok]⟩
    · rename_i hc
      simp only [not_or, Bool.not_eq_true] at hc
      obtain ⟨hc1, hc2⟩ := hc
      obtain ⟨hp, h47⟩ := refName_is rfl hc1
      obtain ⟨nm, hnm⟩ : ∃ nm, nm = refName n.path p := ⟨_, rfl⟩
      rw [← hnm] at hp h47 hc1 hc2 ⊢
      have hn := hok n List.mem_cons_self
      unfold refNode at hn
      simp only [Bool.and_eq_true, decide_eq_true_eq] at hn
      obtain ⟨hk, hs, hm⟩ := hn
      rw [hp, cut_in p nm h47] at hm
      have hsl : slashes n.path = d := by
        rw [hp]; unfold slashes at hd ⊢
        rw [List.count_append, hd, List.count_eq_zero_of_not_mem h47]; rfl
      have hok' := fun x hx => hok x (List.mem_cons_of_mem _ hx)
      rw [List.length_cons] at hf
      rcases okNd_kind hk with hk3 | ⟨hk4, hdt⟩
      · rw [if_neg (by omega)]
        obtain ⟨es, e1, e2⟩ := takeDir_tree f l p nm d (by omega) hd hok'
        refine ⟨.cons nm (.leaf n.kind n.data) es, ?_, ?_⟩
        · rw [Es.nodes, Tr.nodes, ← hp]
          conv => lhs; rw [e1]
          rfl
        · rw [Es.ok, hm, hc2, decide_eq_true (by omega), Tr.ok, decide_eq_true hk3, e2, okNd_path, hk]; rfl
      · rw [if_pos hk4]
        have hsl2 : slashes (headOf n.path) = d + 1 := by
          rw [headOf_ne (by rw [hp]; intro e; exact hc1 (List.append_eq_nil_iff.1 e).2)]
          unfold slashes at hsl ⊢
          rw [List.count_append, hsl]; rfl
        obtain ⟨es1, e1, e2⟩ := takeDir_tree f l n.path [] (d + 1) (by omega) hsl2 hok'
        have hlen : (takeDir f n.path [] l).length ≤ l.length := by
          conv => rhs; rw [e1]
          rw [List.length_append]; omega
        obtain ⟨es2, f1, f2⟩ := takeDir_tree f (takeDir f n.path [] l) p nm d (by omega) hd (fun x hx => hok' x (by rw [e1]; exact List.mem_append_right _ hx))
        refine ⟨.cons nm (.dir es1) es2, ?_, ?_⟩
        · rw [Es.nodes, Tr.nodes, ← hp]
          have : n = ⟨n.path, 4, []⟩ := by rw [← hk4, ← hdt]
          conv => lhs; rw [this, e1, f1]
          simp [List.append_assoc]
        · rw [Es.ok, hm, hc2, decide_eq_true (by omega), Tr.ok, f2, e2]; rfl
end Go.Proofs.Ytncokgdfkbgflaa

namespace Go.Proofs.Ytncokgdfkbgflaa
def refMay (l : List Nd) : Bool :=
  match l with
  | [] => false
  | n :: r => decide ((n :: r).length ≤ 256) && (n.path == [] && (okNd n && (r.all refNode && (if n.kind = 4 then (takeDir (r.length + 1) [] [] r).isEmpty else r.isEmpty))))
theorem refMay_cons (n : Nd) (r : List Nd) : refMay (n :: r) = (decide ((n :: r).length ≤ 256) && (n.path == [] && (okNd n && (r.all refNode && (if n.kind = 4 then (takeDir (r.length + 1) [] [] r).isEmpty else r.isEmpty))))) := rfl
theorem refNode_in (p nm : List UInt8) (k : Int) (x : List UInt8) (hnm : mayName nm = true) (hd : slashes (headOf p) < 64) (hk : okNd ⟨[], k, x⟩ = true) : refNode ⟨headOf p ++ nm, k, x⟩ = true := by
  have h47 := (mayName_ne hnm).2
  unfold refNode
  have hs : slashes (headOf p ++ nm) < 64 := by
    unfold slashes at hd ⊢
    rw [List.count_append, List.count_eq_zero_of_not_mem h47]; exact hd
  simp only
  rw [cut_in p nm h47, hnm, decide_eq_true hs]
  have : okNd ⟨headOf p ++ nm, k, x⟩ = okNd ⟨[], k, x⟩ := rfl
  rw [this, hk]; rfl
mutual
theorem Tr.ref_nodes : ∀ (t : Tr) (d : Nat) (p nm : List UInt8), t.ok (d + 1) = true → mayName nm = true → slashes (headOf p) = d → d < 64 → ∀ n ∈ t.nodes (headOf p ++ nm), refNode n = true
  | .leaf k x, d, p, nm, h, hnm, hd, h64 => by
    rw [Tr.nodes]
    rw [Tr.ok] at h
    simp only [Bool.and_eq_true] at h
    intro n hn
    rw [List.mem_singleton.1 hn]
    exact refNode_in p nm k x hnm (by omega) h.2
  | .dir es, d, p, nm, h, hnm, hd, h64 => by
    rw [Tr.nodes]
    rw [Tr.ok] at h
    intro n hn
    rcases List.mem_cons.1 hn with rfl | hn
    · exact refNode_in p nm 4 [] hnm (by omega) (okNd_dir [])
    · refine Es.ref_nodes es (d + 1) [] (headOf p ++ nm) h ?_ n hn
      obtain ⟨hne, h47⟩ := mayName_ne hnm
      rw [headOf_ne (by intro e; exact hne (List.append_eq_nil_iff.1 e).2)]
      unfold slashes at hd ⊢
      rw [List.count_append, List.count_append, hd, List.count_eq_zero_of_not_mem h47]; rfl
theorem Es.ref_nodes : ∀ (es : Es) (d : Nat) (last p : List UInt8), es.ok d last = true → slashes (headOf p) = d → ∀ n ∈ es.nodes p, refNode n = true
  | .nil, d, last, p, h, hd => by rw [Es.nodes]; intro n hn; simp at hn
  | .cons nm t es, d, last, p, h, hd => by
    rw [Es.ok] at h
    simp only [Bool.and_eq_true, decide_eq_true_eq] at h
    rw [Es.nodes]
    intro n hn
    rcases List.mem_append.1 hn with hn | hn
    · exact Tr.ref_nodes t d p nm h.2.2.2.1 h.1 hd h.2.2.1 n hn
    · exact Es.ref_nodes es d nm p h.2.2.2.2 hd n hn
end

theorem refMay_is (l : List Nd) : refMay l = May l := by
  rw [Bool.eq_iff_iff]
  constructor
  · intro h
    cases l with
    | nil => cases h
    | cons n r =>
      rw [refMay_cons] at h
      simp only [Bool.and_eq_true, decide_eq_true_eq] at h
      obtain ⟨h1, h2, h3, h4, h5⟩ := h
      have hp : n.path = [] := by simpa using h2
      have hall : ∀ x ∈ r, refNode x = true := fun x hx => List.all_eq_true.1 h4 x hx
      rcases okNd_kind h3 with hk | ⟨hk, hd⟩
      · rw [if_neg (by omega)] at h5
        obtain rfl : r = [] := by simpa using h5
        have := tree_may (.leaf n.kind n.data) (by rw [Tr.ok, decide_eq_true hk, okNd_path, h3]; rfl) (by rw [Tr.size]; decide)
        rw [Tr.nodes, ← hp] at this
        exact this
      · rw [if_pos hk] at h5
        obtain ⟨es, e1, e2⟩ := takeDir_tree (r.length + 1) r [] [] 0 (by omega) rfl hall
        have h6 : takeDir (r.length + 1) [] [] r = [] := by simpa using h5
        rw [h6, List.append_nil] at e1
        have hsz : (Tr.dir es).size ≤ 256 := by
          rw [← Tr.nodes_length [] (.dir es), Tr.nodes, List.length_cons, ← e1]
          rw [List.length_cons] at h1; exact h1
        have := tree_may (.dir es) (by rw [Tr.ok]; exact e2) hsz
        rw [Tr.nodes, ← e1] at this
        have hn : n = ⟨[], 4, []⟩ := by
          cases n
          simp only at hp hk hd
          rw [hp, hk, hd]
        rw [hn]; exact this
  · intro h
    obtain ⟨t, ht, hl⟩ := may_tree l h
    have h256 := (show l.length ≤ 256 from by
      cases l with
      | nil => simp
      | cons n r => rw [May_cons] at h; simp only [Bool.and_eq_true, decide_eq_true_eq] at h; exact h.1)
    subst hl
    cases t with
    | leaf k x =>
      rw [Tr.nodes]
      rw [Tr.ok] at ht
      simp only [Bool.and_eq_true, decide_eq_true_eq] at ht
      rw [refMay_cons, if_neg (by show ¬ k = 4; omega), ht.2]
      simp
    | dir es =>
      rw [Tr.nodes] at h256 ⊢
      rw [Tr.ok] at ht
      have hr := Es.ref_nodes es 0 [] [] ht rfl
      have htk := Es.take_in es 0 [] [] [] ((es.nodes []).length + 1) ht (fun n l e => by cases e) (by rw [Es.nodes_length]; exact Nat.le_refl _)
      rw [List.append_nil] at htk
      rw [refMay_cons, if_pos rfl, htk, okNd_dir, List.all_eq_true.2 hr, decide_eq_true h256]
      rfl
end Go.Proofs.Ytncokgdfkbgflaa

namespace Go.Proofs.Ytncokgdfkbgflaa
set_option linter.unusedVariables false
set_option linter.unusedSimpArgs false
open Go.RowKit Go.Proofs.YtncokgdfkbgflaaW.PrintWords Go.Proofs.YtncokgdfkbgflaaW.PrintMore P
theorem bt_is (s : ByteArray) (i : Nat) (h : i < s.data.toList.length) : bt s (i : Int) = ((s.data.toList[i]).toNat : Int) := by
  have h2 : (i : Int).toNat < s.size := by rw [Int.toNat_natCast, Lib.size_eq]; exact h
  rw [← bt_at s (i : Int) h2]
  rfl
theorem wrap_up (j : Nat) (h : j < 4611686018427387904) : wrap64 ((j : Int) + 1) = ((j + 1 : Nat) : Int) := by unfold wrap64; omega
theorem has_rounds (s : ByteArray) (c : UInt8) (hs : s.size < 4611686018427387904) : ∀ (m k i : Nat), s.data.toList.length - i ≤ m → i ≤ s.data.toList.length → m + 1 ≤ k → shelfmarkref10_has.l0 k s (c.toNat : Int) (i : Int) = some ((s.data.toList.drop i).contains c) := by
  have hz : s.size = s.data.toList.length := Lib.size_eq s
  intro m
  induction m with
  | zero =>
    intro k i h1 h2 h3
    obtain ⟨k, rfl⟩ : ∃ g, k = g + 1 := ⟨k - 1, by omega⟩
    rw [shelfmarkref10_has.l0, if_neg (by omega), List.drop_eq_nil_of_le (by omega)]
    rfl
  | succ m ih =>
    intro k i h1 h2 h3
    obtain ⟨k, rfl⟩ : ∃ g, k = g + 1 := ⟨k - 1, by omega⟩
    by_cases hi : i < s.data.toList.length
    · rw [shelfmarkref10_has.l0, if_pos (by omega), if_pos (by omega), bt_is s i hi, List.drop_eq_getElem_cons hi]
      by_cases hc : s.data.toList[i] = c
      · rw [if_pos (by rw [hc]), hc]
        simp
      · rw [if_neg (by
          intro e
          apply hc
          apply UInt8.toNat_inj.mp
          omega), wrap_up i (by omega), ih k (i + 1) (by omega) (by omega) (by omega)]
        congr 1
        rw [List.contains_cons, beq_eq_false_iff_ne.2 (fun e => hc e.symm), Bool.false_or]
    · rw [shelfmarkref10_has.l0, if_neg (by omega), List.drop_eq_nil_of_le (by omega)]
      rfl
theorem has_f (s : ByteArray) (c : UInt8) (hs : s.size < 4611686018427387904) (k : Nat) (hk : s.size + 1 ≤ k) : shelfmarkref10_has.f k s (c.toNat : Int) = some (s.data.toList.contains c) := by
  have hz : s.size = s.data.toList.length := Lib.size_eq s
  have := has_rounds s c hs s.data.toList.length k 0 (by omega) (by omega) (by omega)
  rw [List.drop_zero] at this
  exact this
theorem hasSep_is (l : List UInt8) : hasSep l = (l.contains 0 || l.contains 47) := by
  induction l with
  | nil => rfl
  | cons b l ih =>
    show ((b == 0 || b == 47) || hasSep l) = _
    rw [ih, List.contains_cons, List.contains_cons]
    have e1 : (b == 0) = ((0 : UInt8) == b) := by rw [Bool.eq_iff_iff, beq_iff_eq, beq_iff_eq]; exact ⟨Eq.symm, Eq.symm⟩
    have e2 : (b == 47) = ((47 : UInt8) == b) := by rw [Bool.eq_iff_iff, beq_iff_eq, beq_iff_eq]; exact ⟨Eq.symm, Eq.symm⟩
    rw [e1, e2]
    cases ((0 : UInt8) == b) <;> cases ((47 : UInt8) == b) <;> simp
theorem hasZero_is (l : List UInt8) : hasZero l = l.contains 0 := by
  induction l with
  | nil => rfl
  | cons b l ih =>
    show ((b == 0) || hasZero l) = _
    rw [ih, List.contains_cons]
    have e1 : (b == 0) = ((0 : UInt8) == b) := by rw [Bool.eq_iff_iff, beq_iff_eq, beq_iff_eq]; exact ⟨Eq.symm, Eq.symm⟩
    rw [e1]
theorem refMayName_f (s : ByteArray) (k : Nat) (hk : 300 ≤ k) : shelfmarkref10_MayName.f k s = some (mayName s.data.toList) := by
  have hz : s.size = s.data.toList.length := Lib.size_eq s
  unfold shelfmarkref10_MayName.f mayName
  by_cases h0 : s.data.toList = []
  · rw [h0] at hz ⊢
    rw [if_neg (by rw [List.length_nil] at hz; omega)]
    rfl
  · have h0' : (s.data.toList == []) = false := beq_eq_false_iff_ne.2 h0
    have hpos : 0 < s.data.toList.length := Nat.pos_of_ne_zero (fun e => h0 (List.length_eq_zero_iff.1 e))
    rw [if_pos (by omega), h0']
    by_cases h1 : s.data.toList.length ≤ 255
    · rw [if_pos (by omega), decide_eq_true h1, hasSep_is]
      have e0 : shelfmarkref10_has.f k s 0 = some (s.data.toList.contains 0) := has_f s 0 (by omega) k (by omega)
      have e47 : shelfmarkref10_has.f k s 47 = some (s.data.toList.contains 47) := has_f s 47 (by omega) k (by omega)
      rw [e0, e47]
      simp only [Option.bind_some]
      rw [toList_data]
      cases s.data.toList.contains 0 with
      | true => simp
      | false =>
        cases s.data.toList.contains 47 with
        | true => simp
        | false =>
          by_cases h5 : s.data.toList = [46]
          · simp [h5]
          · simp [h5, bne]
    · rw [if_neg (by omega), decide_eq_false h1]
      simp
end Go.Proofs.Ytncokgdfkbgflaa

namespace Go.Proofs.Ytncokgdfkbgflaa
set_option linter.unusedVariables false
set_option linter.unusedSimpArgs false
open Go.RowKit Go.Proofs.YtncokgdfkbgflaaW.PrintWords Go.Proofs.YtncokgdfkbgflaaW.PrintMore P
def Tame (s : List UInt8) : Prop := True
theorem mayName_f (s : ByteArray) (h : Tame s.data.toList) : nar_MayName.f s = some (mayName s.data.toList) := by
  unfold nar_MayName.f mayName
  rw [toList_data]
  by_cases h0 : s.data.toList = []
  · rw [if_pos h0, h0]; rfl
  · rw [if_neg h0]
    have h1 : (s.data.toList == []) = false := beq_eq_false_iff_ne.2 h0
    rw [h1]
    by_cases h2 : (s.size : Int) ≤ 255
    · rw [if_pos h2]
      have h3 : s.data.toList.length ≤ 255 := by rw [← Lib.size_eq]; omega
      have h4 : strings_ContainsAny.f s ⟨#[0, 47]⟩ = some (hasSep s.data.toList) := by
        unfold strings_ContainsAny.f
        rw [if_pos ⟨rfl, by omega⟩]
      rw [h4, decide_eq_true h3]
      simp only [Option.bind_some]
      cases hasSep s.data.toList with
      | true => simp
      | false =>
        by_cases h5 : s.data.toList = [46]
        · simp [h5]
        · simp [h5, bne]
    · rw [if_neg h2]
      have h3 : ¬ s.data.toList.length ≤ 255 := by rw [← Lib.size_eq]; omega
      rw [decide_eq_false h3]
      simp
def lv (x : S74) : Lv := (x.f0.data.toList, x.f1.data.toList)
theorem idx_lv (a : ByteArray) : ∀ (l : List S74), idxOf (isLevel a) l = idxOf (fun x : Lv => x.1 == a.data.toList) (l.map lv)
  | [] => rfl
  | x :: l => by
    have ih := idx_lv a l
    have e : isLevel a x = ((lv x).1 == a.data.toList) := by simp [isLevel, lv, toList_data]
    simp only [idxOf, List.map_cons, ih, e]
theorem idxOf_lt {α : Type} (p : α → Bool) : ∀ (l : List α) (i : Nat), idxOf p l = i → i < l.length
  | [], i, h => by simp [idxOf] at h
  | x :: l, i, h => by
    have hg := idxOf_ge p l
    unfold idxOf at h
    rw [List.length_cons]
    split at h
    · omega
    · split at h
      · omega
      · have := idxOf_lt p l (i - 1) (by omega)
        omega
theorem within_f (op : List S74) (p : ByteArray) (hp : p.size < 4611686018427387904) :
    (∃ i nm, nar_within.f op p = some (i, nm, false) ∧ withinP (op.map lv) p.data.toList = none) ∨
    (∃ (i : Nat) (nm : ByteArray), i < op.length ∧ nar_within.f op p = some ((i : Int), nm, true) ∧ withinP (op.map lv) p.data.toList = some (i, nm.data.toList)) := by
  have key : ∀ (a nm : ByteArray), (∃ i nm', some (idxOf (isLevel a) op, nm, decide (0 ≤ idxOf (isLevel a) op)) = some (i, nm', false) ∧ (if idxOf (fun x : Lv => x.1 == a.data.toList) (op.map lv) < 0 then (none : Option (Nat × List UInt8)) else some ((idxOf (fun x : Lv => x.1 == a.data.toList) (op.map lv)).toNat, nm.data.toList)) = none) ∨
      (∃ (i : Nat) (nm' : ByteArray), i < op.length ∧ some (idxOf (isLevel a) op, nm, decide (0 ≤ idxOf (isLevel a) op)) = some ((i : Int), nm', true) ∧ (if idxOf (fun x : Lv => x.1 == a.data.toList) (op.map lv) < 0 then (none : Option (Nat × List UInt8)) else some ((idxOf (fun x : Lv => x.1 == a.data.toList) (op.map lv)).toNat, nm.data.toList)) = some (i, nm'.data.toList)) := by
    intro a nm
    rw [← idx_lv]
    by_cases h : 0 ≤ idxOf (isLevel a) op
    · right
      obtain ⟨i, hi⟩ := Int.eq_ofNat_of_zero_le h
      refine ⟨i, nm, idxOf_lt _ _ _ hi, ?_, ?_⟩
      · rw [decide_eq_true h, hi]
      · rw [if_neg (by omega), hi, Int.toNat_natCast]
    · left
      refine ⟨_, nm, by rw [decide_eq_false h], ?_⟩
      rw [if_pos (by omega)]
  unfold nar_within.f withinP
  rw [if_pos hp]
  have hz : p.data.size = p.data.toList.length := by simp
  rcases Lib.lastIndexByte_spec p 47 with ⟨h1, h2⟩ | ⟨i, hi, h1, h2, h3⟩
  · have hn : 47 ∉ p.data.toList := by
      intro hm
      obtain ⟨j, hj, hj2⟩ := List.getElem_of_mem hm
      have h4 := h2 j (by rw [Lib.size_eq]; exact hj)
      apply h4
      rw [getElem!_pos p.data j (by rw [hz]; exact hj)]
      have : p.data[j]'(by rw [hz]; exact hj) = 47 := by rw [← hj2]; simp
      rw [this]; rfl
    rw [cutSlash_none _ hn, if_pos (by omega)]
    exact key ⟨#[]⟩ p
  · have hi' : i < p.data.toList.length := by rw [← Lib.size_eq]; exact hi
    have e47 : p.data.toList[i] = 47 := by
      rw [getElem!_pos p.data i (by rw [hz]; exact hi')] at h2
      have : ((p.data.toList[i]).toNat : Int) = 47 := by simpa using h2
      apply UInt8.toNat_inj.mp
      show _ = 47
      omega
    have hn : 47 ∉ p.data.toList.drop (i + 1) := by
      intro hm
      obtain ⟨j, hj, hj2⟩ := List.getElem_of_mem hm
      rw [List.length_drop] at hj
      rw [List.getElem_drop] at hj2
      have h4 := h3 (i + 1 + j) (by omega) (by rw [Lib.size_eq]; omega)
      apply h4
      rw [getElem!_pos p.data (i + 1 + j) (by rw [hz]; omega)]
      have : p.data[i + 1 + j]'(by rw [hz]; omega) = 47 := by rw [← hj2]; simp
      rw [this]; rfl
    have hcut : cutSlash p.data.toList = some (p.data.toList.take i, p.data.toList.drop (i + 1)) := by
      have h5 := cutSlash_some (p.data.toList.take i) _ hn
      rw [← h5]
      congr 1
      conv => lhs; rw [← List.take_append_drop i p.data.toList]
      rw [List.drop_eq_getElem_cons hi', e47]
    rw [hcut, if_neg (by omega)]
    simp only
    by_cases hz0 : Lib.lastIndexByte p 47 = 0
    · rw [if_pos hz0]
      have : i = 0 := by omega
      subst this
      exact .inl ⟨0, ⟨#[]⟩, rfl, by simp⟩
    · rw [if_neg hz0, if_neg (by
        intro h6
        have h7 := congrArg List.length h6
        rw [List.length_take, List.length_nil] at h7
        omega), h1, Int.toNat_natCast]
      have ea : (p.extract 0 i).data.toList = p.data.toList.take i := by simp [ByteArray.data_extract]
      have eb : (p.extract (i + 1) p.size).data.toList = p.data.toList.drop (i + 1) := by
        rw [ByteArray.data_extract, Array.toList_extract, List.extract_eq_take_drop]
        exact List.take_of_length_le (by rw [List.length_drop, ← Lib.size_eq]; omega)
      have := key (p.extract 0 i) (p.extract (i + 1) p.size)
      rw [ea, eb] at this
      exact this
theorem le_step {op : List S74} {i : Nat} (hi : i < op.length) : (op.map lv).getD i ([], []) = lv op[i] := by
  simp [List.getD_eq_getElem?_getD, List.getElem?_eq_getElem hi]
set_option maxHeartbeats 400000 in
theorem j3_ok (k : Nat) (op : List S74) (i : Nat) (hi : i < op.length) (hop : op.length ≤ 1000001) (nm : ByteArray) (y : List S37) (L : Int) (j : Int) (x0 : ByteArray) (x1 : Int) (x2 : ByteArray) :
    nar_May.j3 (k + 1) op (i : Int) nm y L j false x0 x1 x2 = nar_May.l0 k ((op.take (i + 1)).set i ⟨op[i].f0, nm⟩ ++ (if x1 = 4 then [⟨x0, ⟨#[]⟩⟩] else [])) y L (wrap64 (j + 1)) := by
  have hwi : wrap64 ((i : Int) + 1) = ((i + 1 : Nat) : Int) := by unfold wrap64; omega
  have hlen : (op.take (i + 1)).length = i + 1 := by rw [List.length_take]; omega
  have c1 : (0 : Int) ≤ ((i + 1 : Nat) : Int) := by omega
  have c2 : ((i + 1 : Nat) : Int) ≤ (op.length : Int) := by omega
  have c3 : (0 : Int) ≤ (i : Int) := by omega
  unfold nar_May.j3
  rw [hwi, Int.toNat_natCast, Int.toNat_natCast, if_neg (by decide), if_pos c1, if_pos c2, Option.bind_some, if_pos c3, if_pos (by rw [hlen]; omega), Option.bind_some]
  rw [rd74_at _ i (by rw [hlen]; omega), List.getElem_take]
  by_cases h4 : x1 = 4
  · rw [if_pos h4, if_pos h4, if_pos (by rw [List.length_set, hlen]; omega)]
  · rw [if_neg h4, if_neg h4, List.append_nil]
theorem wrap_next (j : Nat) (h : j ≤ 1000000) : wrap64 ((j : Int) + 1) = ((j + 1 : Nat) : Int) := by unfold wrap64; omega
theorem next_len (op : List S74) (i j : Nat) (hi : i < op.length) (h : op.length ≤ j + 1) (z : S74) (x0 : ByteArray) (x1 : Int) : ((op.take (i + 1)).set i z ++ (if x1 = 4 then [(⟨x0, ⟨#[]⟩⟩ : S74)] else [])).length ≤ j + 1 + 1 := by
  rw [List.length_append, List.length_set, List.length_take]
  split
  · simp only [List.length_cons, List.length_nil]; omega
  · simp only [List.length_nil]; omega
theorem map_lv_next (op : List S74) (i : Nat) (hi : i < op.length) (nm x0 : ByteArray) (x1 : Int) : ((op.take (i + 1)).set i (⟨op[i].f0, nm⟩ : S74) ++ (if x1 = 4 then [(⟨x0, ⟨#[]⟩⟩ : S74)] else [])).map lv =
    ((op.map lv).take (i + 1)).set i ((lv op[i]).1, nm.data.toList) ++ (if x1 = 4 then [(x0.data.toList, [])] else []) := by
  rw [List.map_append, List.map_set, List.map_take]
  congr 1
  split <;> rfl
set_option maxHeartbeats 400000 in
theorem may_rounds (y : List S37) (hy : y.length ≤ 1000000) (hs : ∀ x ∈ y, x.f0.size < 4611686018427387904 ∧ ∀ nm, (∃ a, cutSlash x.f0.data.toList = some (a, nm) ∨ nm = x.f0.data.toList) → Tame nm) :
    ∀ (m : Nat) (k j : Nat) (op : List S74), y.length - j ≤ m → j ≤ y.length → op.length ≤ j + 1 → 2 * m + 1 ≤ k → nar_May.l0 k op y (y.length : Int) (j : Int) = some (mayGo (op.map lv) ((nds y).drop j)) := by
  intro m
  induction m with
  | zero =>
    intro k j op h1 h2 h3 h4
    obtain ⟨k, rfl⟩ : ∃ k', k = k' + 1 := ⟨k - 1, by omega⟩
    have hj : j = y.length := by omega
    subst hj
    simp only [nar_May.l0]
    rw [if_neg (by omega), List.drop_eq_nil_of_le (by simp [nds])]
    rfl
  | succ m ih =>
    intro k j op h1 h2 h3 h4
    by_cases hj : j = y.length
    · subst hj
      obtain ⟨k, rfl⟩ : ∃ k', k = k' + 1 := ⟨k - 1, by omega⟩
      simp only [nar_May.l0]
      rw [if_neg (by omega), List.drop_eq_nil_of_le (by simp [nds])]
      rfl
    · obtain ⟨k, rfl⟩ : ∃ k', k = k' + 1 + 1 := ⟨k - 2, by omega⟩
      have hj : j < y.length := by omega
      obtain ⟨x, hx⟩ : ∃ x, x = y[j] := ⟨_, rfl⟩
      have hsx := hs x (by rw [hx]; exact List.getElem_mem hj)
      have hopl : op.length ≤ 1000001 := by omega
      have hjl : j ≤ 1000000 := by omega
      have hm1 : y.length - (j + 1) ≤ m := by omega
      have hj1 : j + 1 ≤ y.length := by omega
      have hk1 : 2 * m + 1 ≤ k := by omega
      have hdrop : (nds y).drop j = nd x :: (nds y).drop (j + 1) := by
        rw [List.drop_eq_getElem_cons (by simpa [nds] using hj)]
        congr 1
        simp [nds, hx]
      rw [hdrop, nar_May.l0, if_pos (by omega), if_pos (by omega), if_pos (by omega), rd37_at y j hj, ← hx]
      have hp : (nd x).path = x.f0.data.toList := rfl
      have hkd : (nd x).kind = x.f1 := rfl
      simp only [mayGo, mayStep, hp, hkd]
      rcases within_f op x.f0 hsx.1 with ⟨i, nm, e1, e2⟩ | ⟨i, nm, hi, e1, e2⟩
      · rw [e1, e2]
        simp only [Option.bind_some]
        rw [if_neg (by decide)]
        simp only [nar_May.j3]
        rw [if_pos (by simp)]
      · have htame : Tame nm.data.toList := by
          apply hsx.2
          unfold withinP at e2
          split at e2
          · split at e2
            · cases e2
            · rename_i hc _
              injection e2 with e2
              exact ⟨[], .inr (congrArg Prod.snd e2).symm⟩
          · rename_i a n hc
            split at e2
            · cases e2
            · split at e2
              · cases e2
              · injection e2 with e2
                refine ⟨a, .inl ?_⟩
                rw [hc, show nm.data.toList = n from (congrArg Prod.snd e2).symm]
        rw [e1, e2]
        simp only [Option.bind_some]
        rw [if_pos (by simp), mayName_f nm htame]
        simp only [Option.bind_some]
        have hlv := le_step hi
        rw [hlv]
        cases hmn : mayName nm.data.toList with
        | false =>
          rw [if_neg (by decide)]
          simp only [nar_May.j3, Bool.false_and]
          rw [if_pos (by simp)]
          simp
        | true =>
          rw [if_pos (by simp), if_pos (by omega), if_pos (by omega), rd74_at op i hi, toList_data, toList_data]
          have hl2 : (lv op[i]).2 = op[i].f1.data.toList := rfl
          rw [hl2]
          cases hcmp : (Op.bytesLess nm.data.toList op[i].f1.data.toList || nm.data.toList == op[i].f1.data.toList) with
          | true =>
            rw [if_pos (by simp)]
            simp only [nar_May.j3]
            rw [if_pos (by simp)]
            simp
          | false =>
            rw [if_neg (by decide)]
            have hge : decide ((i : Int) ≥ 64) = !decide (i < 64) := by
              rw [Bool.eq_iff_iff]; simp; omega
            rw [hge]
            cases h64 : decide (i < 64) with
            | false =>
              simp only [nar_May.j3]
              rw [if_pos (by simp)]
              simp
            | true =>
              have hwi : wrap64 ((i : Int) + 1) = ((i + 1 : Nat) : Int) := by unfold wrap64; omega
              rw [show (!true) = false from rfl, j3_ok k op i hi hopl, wrap_next j hjl, ih k (j + 1) _ hm1 hj1 (next_len op i j hi h3 _ _ _) hk1, map_lv_next op i hi]
              rfl
theorem okNode_nd (x : S37) : okNode x = okNd (nd x) := by
  have hs : x.f2.size = x.f2.data.toList.length := Lib.size_eq x.f2
  simp only [okNode, okNd, nd, hs]
  rfl
def TameAll (l : List S37) : Prop := ∀ x ∈ l, x.f0.size < 4611686018427387904 ∧ ∀ nm, (∃ a, cutSlash x.f0.data.toList = some (a, nm) ∨ nm = x.f0.data.toList) → Tame nm
theorem may_f0 (l : List S37) (hs : TameAll l) : nar_May.f (2 * l.length + 10) l = some (May (nds l)) := by
  unfold nar_May.f
  cases l with
  | nil => simp [nar_May.j0, nds, May]
  | cons x r =>
    have hlen : ((x :: r).length : Int) = (r.length : Int) + 1 := by simp
    have hnds : nds (x :: r) = nd x :: nds r := rfl
    have hnl : (nd x :: nds r).length = r.length + 1 := by simp [nds]
    rw [hnds, May, hnl, if_neg (by omega)]
    by_cases h256 : r.length + 1 ≤ 256
    · rw [decide_eq_true h256, if_neg (by omega), if_pos (by omega), show rd_T37 (x :: r) 0 = x from rfl, toList_data]
      have hp : (nd x).path = x.f0.data.toList := rfl
      have hkd : (nd x).kind = x.f1 := rfl
      rw [hp, hkd]
      by_cases h0 : x.f0.data.toList = []
      · have hall : containsMay1.f (x :: r) = some (!((nd x :: nds r).all okNd)) := by
          unfold containsMay1.f
          congr 1
          have : ∀ l : List S37, (l.any fun x => !okNode x) = !((nds l).all okNd) := by
            intro l
            induction l with
            | nil => rfl
            | cons y l ih =>
              show ((!okNode y) || (l.any fun x => !okNode x)) = !(okNd (nd y) && (nds l).all okNd)
              rw [ih, okNode_nd, Bool.not_and]
          exact this (x :: r)
        rw [if_pos h0, hall, h0]
        simp only [Option.bind_some]
        cases hok : (nd x :: nds r).all okNd with
        | false =>
          rw [show 2 * (x :: r).length + 10 = (2 * (x :: r).length + 9) + 1 from rfl]
          simp [nar_May.j0]
        | true =>
          have hgo := may_rounds r (by omega) (fun y hy => hs y (List.mem_cons_of_mem _ hy)) r.length (2 * (x :: r).length + 8) 0
          have hfuel : 2 * r.length + 1 ≤ 2 * (x :: r).length + 8 := by rw [List.length_cons]; omega
          rw [show 2 * (x :: r).length + 10 = (2 * (x :: r).length + 8) + 1 + 1 from rfl]
          simp only [nar_May.j0]
          rw [if_neg (by decide), if_pos (by omega), show rd_T37 (x :: r) 0 = x from rfl]
          have hz : ((0 : Nat) : Int) = 0 := rfl
          by_cases h4 : x.f1 = 4
          · rw [if_pos h4, if_pos (by decide), if_pos h4]
            have := hgo ([] ++ [(⟨⟨#[]⟩, ⟨#[]⟩⟩ : S74)]) (by omega) (by omega) (by simp) hfuel
            simp only [nar_May.j1]
            rw [if_pos (by omega)]
            simp only [Option.bind_some, List.drop_succ_cons, List.drop_zero]
            rw [hz] at this
            rw [this]
            rfl
          · rw [if_neg h4, if_neg h4]
            have := hgo [] (by omega) (by omega) (by simp) hfuel
            simp only [nar_May.j1]
            rw [if_pos (by omega)]
            simp only [Option.bind_some, List.drop_succ_cons, List.drop_zero]
            rw [hz] at this
            rw [this]
            rfl
      · rw [if_neg h0, beq_eq_false_iff_ne.2 h0, show 2 * (x :: r).length + 10 = (2 * (x :: r).length + 9) + 1 from rfl]
        simp [nar_May.j0]
    · rw [decide_eq_false h256, if_pos (by omega), show 2 * (x :: r).length + 10 = (2 * (x :: r).length + 9) + 1 from rfl]
      simp [nar_May.j0]
theorem may_f (l : List S37) (hs : TameAll l) (k : Nat) (hk : 2 * l.length + 10 ≤ k) : nar_May.f k l = some (May (nds l)) := leo_up (nar_May.mono l) (may_f0 l hs) k hk
theorem may_is (l : List S37) (hs : TameAll l) : mayC l = some (May (nds l)) := mayC_of (may_f0 l hs)
theorem tame_all (l : List S37) (hs : ∀ x ∈ l, x.f0.size < 4611686018427387904) : TameAll l := fun x hx => ⟨hs x hx, fun nm _ => trivial⟩
end Go.Proofs.Ytncokgdfkbgflaa

namespace Go.Proofs.Ytncokgdfkbgflaa
set_option linter.unusedVariables false
set_option linter.unusedSimpArgs false
open Go.RowKit Go.Proofs.YtncokgdfkbgflaaW.PrintWords Go.Proofs.YtncokgdfkbgflaaW.PrintMore P
theorem deep_rounds (s : ByteArray) (hs : s.size < 4611686018427387904) : ∀ (m k i c : Nat), s.data.toList.length - i ≤ m → i ≤ s.data.toList.length → c ≤ i + 1 → m + 1 ≤ k → shelfmarkref10_deep.l0 k s (c : Int) (i : Int) = some (((c + (s.data.toList.drop i).count 47 : Nat)) : Int) := by
  have hz : s.size = s.data.toList.length := Lib.size_eq s
  intro m
  induction m with
  | zero =>
    intro k i c h1 h2 h4 h3
    obtain ⟨k, rfl⟩ : ∃ g, k = g + 1 := ⟨k - 1, by omega⟩
    rw [shelfmarkref10_deep.l0, if_neg (by omega), List.drop_eq_nil_of_le (by omega)]
    rfl
  | succ m ih =>
    intro k i c h1 h2 h4 h3
    obtain ⟨k, rfl⟩ : ∃ g, k = g + 1 := ⟨k - 1, by omega⟩
    by_cases hi : i < s.data.toList.length
    · rw [shelfmarkref10_deep.l0, if_pos (by omega), if_pos (by omega), bt_is s i hi, List.drop_eq_getElem_cons hi]
      by_cases hc : s.data.toList[i] = 47
      · rw [if_pos (by rw [hc]; rfl), wrap_up i (by omega), wrap_up c (by omega), ih k (i + 1) (c + 1) (by omega) (by omega) (by omega) (by omega), hc, List.count_cons_self]
        congr 2
        omega
      · rw [if_neg (by
          intro e
          apply hc
          apply UInt8.toNat_inj.mp
          show _ = 47
          omega), wrap_up i (by omega), ih k (i + 1) c (by omega) (by omega) (by omega) (by omega), List.count_cons_of_ne (fun e => hc e)]
    · rw [shelfmarkref10_deep.l0, if_neg (by omega), List.drop_eq_nil_of_le (by omega)]
      rfl
theorem deep_f (s : ByteArray) (hs : s.size < 4611686018427387904) (k : Nat) (hk : s.size + 1 ≤ k) : shelfmarkref10_deep.f k s = some (((1 + slashes s.data.toList : Nat)) : Int) := by
  have hz : s.size = s.data.toList.length := Lib.size_eq s
  have := deep_rounds s hs s.data.toList.length k 0 1 (by omega) (by omega) (by omega) (by omega)
  rw [List.drop_zero] at this
  exact this
theorem mayData_f (x : S37) (k : Nat) (hk : 5000 ≤ k) : shelfmarkref10_mayData.f k x.f0 x.f1 x.f2 = some (okNd (nd x)) := by
  have hz : x.f2.size = x.f2.data.toList.length := Lib.size_eq x.f2
  obtain ⟨k, rfl⟩ : ∃ g, k = g + 1 := ⟨k - 1, by omega⟩
  have hkd : (nd x).kind = x.f1 := rfl
  have hdt : (nd x).data = x.f2.data.toList := rfl
  unfold shelfmarkref10_mayData.f okNd
  rw [hkd, hdt]
  by_cases h1 : x.f1 = 1
  · rw [if_pos h1, if_pos (.inl h1), h1, shelfmarkref10_mayData.j0, if_pos (by rfl)]
    congr 1
    rw [Bool.eq_iff_iff]; simp only [decide_eq_true_eq]; omega
  · rw [if_neg h1]
    by_cases h2 : x.f1 = 2
    · rw [if_pos (.inr h2), h2, shelfmarkref10_mayData.j0, if_pos (by rfl)]
      congr 1
      rw [Bool.eq_iff_iff]; simp only [decide_eq_true_eq]; omega
    · rw [if_neg (by omega), shelfmarkref10_mayData.j0, if_neg (by simpa using h2)]
      by_cases h3 : x.f1 = 3
      · rw [if_pos h3, if_pos h3]
        by_cases h4 : x.f2.data.toList = []
        · rw [h4] at hz ⊢
          rw [if_neg (by rw [List.length_nil] at hz; omega)]
          rfl
        · have hpos : 0 < x.f2.data.toList.length := Nat.pos_of_ne_zero (fun e => h4 (List.length_eq_zero_iff.1 e))
          rw [if_pos (by omega), beq_eq_false_iff_ne.2 h4]
          by_cases h5 : x.f2.data.toList.length ≤ 4096
          · have e0 : shelfmarkref10_has.f k x.f2 0 = some (x.f2.data.toList.contains 0) := has_f x.f2 0 (by omega) k (by omega)
            rw [if_pos (by omega), e0, decide_eq_true h5, hasZero_is]
            simp
          · rw [if_neg (by omega), decide_eq_false h5]
            simp
      · rw [if_neg h3, if_neg h3]
        by_cases h4 : x.f1 = 4
        · rw [if_pos h4, if_pos h4, toList_data]
        · rw [if_neg h4, if_neg h4]
theorem cut_rounds (s : ByteArray) (hs : s.size < 4611686018427387904) : ∀ (i k : Nat), i ≤ s.data.toList.length → (∀ j (h : j < s.data.toList.length), i ≤ j → s.data.toList[j] ≠ 47) → i + 1 ≤ k →
    ∃ a nm, shelfmarkref10_cut.l0 k s ((i : Int) - 1) = some (a, nm) ∧ nm.data.toList = (match cutSlash s.data.toList with | none => s.data.toList | some (_, x) => x) := by
  have hz : s.size = s.data.toList.length := Lib.size_eq s
  intro i
  induction i with
  | zero =>
    intro k h1 h2 h3
    obtain ⟨k, rfl⟩ : ∃ g, k = g + 1 := ⟨k - 1, by omega⟩
    rw [shelfmarkref10_cut.l0, if_neg (by omega)]
    refine ⟨_, _, rfl, ?_⟩
    rw [cutSlash_none _ (fun hm => by
      obtain ⟨j, hj, e⟩ := List.getElem_of_mem hm
      exact h2 j hj (by omega) e)]
  | succ i ih =>
    intro k h1 h2 h3
    obtain ⟨k, rfl⟩ : ∃ g, k = g + 1 := ⟨k - 1, by omega⟩
    have hi : i < s.data.toList.length := by omega
    rw [show (((i + 1 : Nat) : Int) - 1) = (i : Int) by omega, shelfmarkref10_cut.l0, if_pos (by omega), if_pos (by omega), if_pos (by omega), bt_is s i hi]
    by_cases hc : s.data.toList[i] = 47
    · rw [if_pos (by rw [hc]; rfl), if_pos (by omega), wrap_up i (by omega), if_pos (by omega), if_pos (by omega)]
      refine ⟨_, _, rfl, ?_⟩
      have hn : 47 ∉ s.data.toList.drop (i + 1) := by
        intro hm
        obtain ⟨j, hj, e⟩ := List.getElem_of_mem hm
        rw [List.length_drop] at hj
        rw [List.getElem_drop] at e
        exact h2 (i + 1 + j) (by omega) (by omega) e
      have hcut : cutSlash s.data.toList = some (s.data.toList.take i, s.data.toList.drop (i + 1)) := by
        have h5 := cutSlash_some (s.data.toList.take i) _ hn
        rw [← h5]
        congr 1
        conv => lhs; rw [← List.take_append_drop i s.data.toList]
        rw [List.drop_eq_getElem_cons hi, hc]
      rw [hcut, Int.toNat_natCast]
      simp only
      rw [ByteArray.data_extract, Array.toList_extract, List.extract_eq_take_drop]
      exact List.take_of_length_le (by rw [List.length_drop]; omega)
    · rw [if_neg (by
        intro e
        apply hc
        apply UInt8.toNat_inj.mp
        show _ = 47
        omega), show wrap64 ((i : Int) - 1) = (i : Int) - 1 by unfold wrap64; omega]
      exact ih k (by omega) (fun j hj hij => by
        by_cases e : j = i
        · subst e; exact hc
        · exact h2 j hj (by omega)) (by omega)
theorem cut_f (s : ByteArray) (hs : s.size < 4611686018427387904) (k : Nat) (hk : s.size + 2 ≤ k) : ∃ a nm, shelfmarkref10_cut.f k s = some (a, nm) ∧ nm.data.toList = (match cutSlash s.data.toList with | none => s.data.toList | some (_, x) => x) := by
  have hz : s.size = s.data.toList.length := Lib.size_eq s
  unfold shelfmarkref10_cut.f
  rw [show wrap64 ((s.size : Int) - 1) = (s.data.toList.length : Int) - 1 by unfold wrap64; omega]
  exact cut_rounds s hs s.data.toList.length k (Nat.le_refl _) (fun j hj h => by omega) (by omega)
end Go.Proofs.Ytncokgdfkbgflaa

namespace Go.Proofs.Ytncokgdfkbgflaa
set_option linter.unusedVariables false
set_option linter.unusedSimpArgs false
open Go.RowKit Go.Proofs.YtncokgdfkbgflaaW.PrintWords Go.Proofs.YtncokgdfkbgflaaW.PrintMore P
theorem extract_list (s : ByteArray) (i j : Nat) : (s.extract i j).data.toList = (s.data.toList.drop i).take (j - i) := by
  rw [ByteArray.data_extract, Array.toList_extract, List.extract_eq_take_drop]
theorem hasPrefix_false {l p : List UInt8} (h : ¬ ∃ t, l = p ++ t) : Lib.hasPrefix l p = false := by
  cases hp : Lib.hasPrefix l p with
  | false => rfl
  | true => exact absurd ((hasPrefix_iff _ _).1 hp) h
theorem name_f (a b : ByteArray) (ha : a.size < 4611686018427387904) (hb : b.size < 4611686018427387904) (k : Nat) (hk : a.size + 2 ≤ k) : ∃ r, shelfmarkref10_name.f k a b = some r ∧ r.data.toList = refName a.data.toList b.data.toList := by
  have hza := Lib.size_eq a
  have hzb := Lib.size_eq b
  obtain ⟨k, rfl⟩ : ∃ g, k = g + 1 := ⟨k - 1, by omega⟩
  unfold shelfmarkref10_name.f
  rw [toList_data b, toList_data]
  by_cases h0 : b.data.toList = []
  · rw [if_pos h0]
    have e47 : shelfmarkref10_has.f (k + 1) a 47 = some (a.data.toList.contains 47) := has_f a 47 ha (k + 1) (by omega)
    rw [e47]
    simp only [Option.bind_some]
    have e : refName a.data.toList b.data.toList = if a.data.toList.contains 47 = true then [] else a.data.toList := by
      rw [h0, refName, show headOf [] = [] from rfl, if_pos (show Lib.hasPrefix a.data.toList [] = true from (hasPrefix_iff _ _).2 ⟨a.data.toList, rfl⟩)]
      rfl
    rw [e]
    split
    · exact ⟨_, rfl, rfl⟩
    · exact ⟨_, rfl, rfl⟩
  · rw [if_neg h0]
    have hpos : 0 < b.data.toList.length := Nat.pos_of_ne_zero (fun e => h0 (List.length_eq_zero_iff.1 e))
    have j1 : shelfmarkref10_name.j0 (k + 1) a b true = some (⟨#[]⟩ : ByteArray) := by rw [shelfmarkref10_name.j0, if_pos rfl]
    have e0 : Lib.hasPrefix a.data.toList (headOf b.data.toList) = false → refName a.data.toList b.data.toList = [] := refName_stop
    have hh : headOf b.data.toList = b.data.toList ++ [47] := by rw [headOf, if_neg h0]
    by_cases h1 : a.data.toList.length ≤ b.data.toList.length
    · rw [if_pos (by omega), j1]
      refine ⟨_, rfl, ?_⟩
      rw [e0 (hasPrefix_false (by
        rintro ⟨t, ht⟩
        have := congrArg List.length ht
        rw [hh, List.length_append, List.length_append] at this
        simp only [List.length_cons, List.length_nil] at this
        omega))]
    · rw [if_neg (by omega), if_pos (by omega), if_pos (by omega), Int.toNat_natCast, extract_list]
      have hx : ((a.data.toList.drop 0).take (b.size - 0)) = a.data.toList.take b.data.toList.length := by rw [List.drop_zero, hzb]; rfl
      rw [hx]
      by_cases h2 : a.data.toList.take b.data.toList.length = b.data.toList
      · rw [if_pos h2, if_pos (by omega), show ((b.size : Nat) : Int) = ((b.data.toList.length : Nat) : Int) by omega, bt_is a _ (by omega)]
        have hlt : b.data.toList.length < a.data.toList.length := by omega
        have hs : a.data.toList = b.data.toList ++ (a.data.toList[b.data.toList.length] :: a.data.toList.drop (b.data.toList.length + 1)) := by
          rw [← List.drop_eq_getElem_cons hlt]
          conv => lhs; rw [← List.take_append_drop b.data.toList.length a.data.toList]
          rw [h2]
        by_cases h3 : a.data.toList[b.data.toList.length] = 47
        · have e4 : ((((a.data.toList[b.data.toList.length]).toNat : Nat) : Int) != 47) = false := by rw [h3]; rfl
          rw [e4, shelfmarkref10_name.j0, if_neg (by decide), show wrap64 ((b.size : Int) + 1) = ((b.data.toList.length + 1 : Nat) : Int) by unfold wrap64; omega, if_pos (by omega), if_pos (by omega), Int.toNat_natCast]
          have hxl : (a.extract (b.data.toList.length + 1) a.size).data.toList = a.data.toList.drop (b.data.toList.length + 1) := by
            rw [extract_list]
            exact List.take_of_length_le (by rw [List.length_drop]; omega)
          have hxs : (a.extract (b.data.toList.length + 1) a.size).size ≤ a.size := by
            rw [Lib.size_eq, hxl, List.length_drop]; omega
          have e47 : shelfmarkref10_has.f k (a.extract (b.data.toList.length + 1) a.size) 47 = some ((a.data.toList.drop (b.data.toList.length + 1)).contains 47) := by
            rw [← hxl]
            exact has_f _ 47 (by omega) k (by omega)
          rw [e47]
          simp only [Option.bind_some]
          have hex : ∃ t, a.data.toList = (b.data.toList ++ [47]) ++ t := ⟨a.data.toList.drop (b.data.toList.length + 1), by
            rw [List.append_assoc]
            rw [h3] at hs
            exact hs⟩
          have e : refName a.data.toList b.data.toList = if (a.data.toList.drop (b.data.toList.length + 1)).contains 47 = true then [] else a.data.toList.drop (b.data.toList.length + 1) := by
            rw [refName, hh, if_pos ((hasPrefix_iff _ _).2 hex)]
            rw [List.length_append]
            rfl
          rw [e]
          split
          · exact ⟨_, rfl, rfl⟩
          · exact ⟨_, rfl, hxl⟩
        · have e4 : ((((a.data.toList[b.data.toList.length]).toNat : Nat) : Int) != 47) = true := by
            rw [bne_iff_ne]
            intro e
            apply h3
            apply UInt8.toNat_inj.mp
            show _ = 47
            omega
          rw [e4, j1]
          refine ⟨_, rfl, ?_⟩
          rw [e0 (hasPrefix_false (by
            rintro ⟨t, ht⟩
            apply h3
            rw [hh, List.append_assoc] at ht
            have e5 := hs.symm.trans ht
            have e6 := List.append_cancel_left e5
            injection e6))]
      · rw [if_neg h2, j1]
        refine ⟨_, rfl, ?_⟩
        rw [e0 (hasPrefix_false (by
          rintro ⟨t, ht⟩
          apply h2
          rw [ht, hh, List.append_assoc]
          exact List.take_left' rfl))]
theorem nds_drop (l : List S37) (i : Nat) (h : i < l.length) : (nds l).drop i = nd l[i] :: (nds l).drop (i + 1) := by
  have h1 : i < (nds l).length := by simp [nds]; exact h
  rw [List.drop_eq_getElem_cons h1]
  congr 1
  simp [nds]
theorem nds_len (l : List S37) : (nds l).length = l.length := by simp [nds]
theorem under_next (l : List S37) (m next B k : Nat) (hn : next < l.length) (a1 : l.length - (next + 1) ≤ m) (a3 : 3 * m + B + 8 ≤ k) (hnx : rd_T37 l (next : Int) = l[next])
    (ih : l[next].f1 = 4 → ∃ j : Nat, shelfmarkref10_under.l0 k l (next : Int) ((next + 1 : Nat) : Int) (⟨#[]⟩ : ByteArray) = some (j : Int) ∧ next + 1 ≤ j ∧ j ≤ l.length ∧ ∀ f, l.length - (next + 1) < f → (nds l).drop j = takeDir f l[next].f0.data.toList [] ((nds l).drop (next + 1))) :
    ∃ j : Nat, shelfmarkref10_under.l0 k l (next : Int) ((next + 1 : Nat) : Int) (⟨#[]⟩ : ByteArray) = some (j : Int) ∧ next + 1 ≤ j ∧ j ≤ l.length ∧ ∀ f, l.length - (next + 1) < f → (nds l).drop j = if l[next].f1 = 4 then takeDir f l[next].f0.data.toList [] ((nds l).drop (next + 1)) else (nds l).drop (next + 1) := by
  by_cases h5 : l[next].f1 = 4
  · obtain ⟨j, a, b, c, d⟩ := ih h5
    exact ⟨j, a, b, c, fun f hf => by rw [if_pos h5]; exact d f hf⟩
  · refine ⟨next + 1, ?_, Nat.le_refl _, hn, fun f hf => by rw [if_neg h5]⟩
    obtain ⟨k, rfl⟩ : ∃ g, k = g + 2 := ⟨k - 2, by omega⟩
    have h6 : (l[next].f1 == 4) = false := beq_eq_false_iff_ne.2 h5
    by_cases h7 : next + 1 < l.length
    · rw [shelfmarkref10_under.l0, if_pos (by omega), if_pos (by omega), if_pos (by omega), hnx, h6, shelfmarkref10_under.j1, if_neg (by decide)]
    · rw [shelfmarkref10_under.l0, if_neg (by omega), shelfmarkref10_under.j1, if_neg (by decide)]
theorem under_rounds (l : List S37) (B : Nat) (hB : B < 1000000000) (hl : l.length < 1000000000) (hs : ∀ x ∈ l, x.f0.size ≤ B) : ∀ (m next at_ : Nat) (last : ByteArray) (k : Nat), l.length - next ≤ m → next ≤ l.length → (ha : at_ < l.length) → 3 * m + B + 8 ≤ k → l[at_].f1 = 4 →
    ∃ j : Nat, shelfmarkref10_under.l0 k l (at_ : Int) (next : Int) last = some (j : Int) ∧ next ≤ j ∧ j ≤ l.length ∧ ∀ f, l.length - next < f → (nds l).drop j = takeDir f l[at_].f0.data.toList last.data.toList ((nds l).drop next) := by
  intro m
  induction m with
  | zero =>
    intro next at_ last k h1 h2 ha hk h4
    obtain ⟨k, rfl⟩ : ∃ g, k = g + 2 := ⟨k - 2, by omega⟩
    refine ⟨next, ?_, Nat.le_refl _, h2, ?_⟩
    · rw [shelfmarkref10_under.l0, if_neg (by omega), shelfmarkref10_under.j1, if_neg (by decide)]
    · intro f hf
      obtain ⟨f, rfl⟩ : ∃ g, f = g + 1 := ⟨f - 1, by omega⟩
      rw [List.drop_eq_nil_of_le (by rw [nds_len]; omega), takeDir]
  | succ m ih =>
    intro next at_ last k h1 h2 ha hk h4
    by_cases hn : next < l.length
    · obtain ⟨k, rfl⟩ : ∃ g, k = g + 3 := ⟨k - 3, by omega⟩
      have hat : rd_T37 l (at_ : Int) = l[at_] := rd37_at l at_ ha
      have hnx : rd_T37 l (next : Int) = l[next] := rd37_at l next hn
      have hsn := hs l[next] (List.getElem_mem _)
      have hsa := hs l[at_] (List.getElem_mem _)
      obtain ⟨r, hr, hrl⟩ := name_f l[next].f0 l[at_].f0 (by omega) (by omega) (k + 1) (by omega)
      have hd := nds_drop l next hn
      have hkd : (nd l[next]).path = l[next].f0.data.toList := rfl
      have hkk : (nd l[next]).kind = l[next].f1 := rfl
      have hl0 : shelfmarkref10_under.l0 (k + 3) l (at_ : Int) (next : Int) last = (if r.toList = ([] : List UInt8) then (some (next : Int)) else (if (Op.bytesLess r.toList last.toList || r.toList == last.toList) = true then (some (next : Int)) else ((shelfmarkref10_under.f (k + 1) l (next : Int)).bind fun t213 => (shelfmarkref10_under.l0 (k + 1) l (at_ : Int) t213 r)))) := by
        rw [shelfmarkref10_under.l0, if_pos (by omega), if_pos (by omega), if_pos (by omega), hat, h4, shelfmarkref10_under.j1, if_pos (by rfl), if_pos (by omega), if_pos (by omega), if_pos (by omega), if_pos (by omega), hat, hnx, hr]
        rfl
      rw [hl0, toList_data, toList_data, hrl]
      by_cases hstop : refName l[next].f0.data.toList l[at_].f0.data.toList = [] ∨ (Op.bytesLess (refName l[next].f0.data.toList l[at_].f0.data.toList) last.data.toList || refName l[next].f0.data.toList l[at_].f0.data.toList == last.data.toList) = true
      · refine ⟨next, ?_, Nat.le_refl _, h2, ?_⟩
        · rcases hstop with h | h
          · rw [if_pos h]
          · rw [if_pos h]; split <;> rfl
        · intro f hf
          obtain ⟨f, rfl⟩ : ∃ g, f = g + 1 := ⟨f - 1, by omega⟩
          rw [hd, takeDir, hkd, if_pos hstop]
      · rw [if_neg (fun h => hstop (.inl h)), if_neg (fun h => hstop (.inr h))]
        have HS := Aside0.mk hstop
        have HL := Aside0.mk hl0
        clear hstop hl0
        have a0 : next < 4611686018427387904 := by omega
        have a1 : l.length - (next + 1) ≤ m := by omega
        have a3 : 3 * m + B + 8 ≤ k := by omega
        have a4 : 3 * m + B + 8 ≤ k + 1 := by omega
        rw [shelfmarkref10_under.f, wrap_up next a0]
        obtain ⟨j, hj, hj1, hj2, hj3⟩ := under_next l m next B k hn a1 a3 hnx (fun h5 => ih (next + 1) next (⟨#[]⟩ : ByteArray) k a1 hn hn a3 h5)
        rw [hj]
        simp only [Option.bind_some]
        obtain ⟨i, hi, hi1, hi2, hi3⟩ := ih j at_ r (k + 1) (Nat.le_trans (Nat.sub_le_sub_left hj1 _) a1) hj2 ha a4 h4
        refine ⟨i, hi, Nat.le_trans (Nat.le_of_succ_le hj1) hi1, hi2, ?_⟩
        intro f hf
        obtain ⟨f, rfl⟩ : ∃ g, f = g + 1 := ⟨f - 1, by omega⟩
        have b1 : l.length - (next + 1) < f := by omega
        rw [hi3 f (Nat.lt_of_le_of_lt (Nat.sub_le_sub_left hj1 _) b1), hd, takeDir, hkd, hkk, if_neg HS.out, hrl, hj3 f b1]
    · obtain ⟨k, rfl⟩ : ∃ g, k = g + 2 := ⟨k - 2, by omega⟩
      refine ⟨next, ?_, Nat.le_refl _, h2, ?_⟩
      · rw [shelfmarkref10_under.l0, if_neg (by omega), shelfmarkref10_under.j1, if_neg (by decide)]
      · intro f hf
        obtain ⟨f, rfl⟩ : ∃ g, f = g + 1 := ⟨f - 1, by omega⟩
        rw [List.drop_eq_nil_of_le (by rw [nds_len]; omega), takeDir]
theorem under_f (l : List S37) (B : Nat) (hB : B < 1000000000) (hl : l.length < 1000000000) (hs : ∀ x ∈ l, x.f0.size ≤ B) (h0 : 0 < l.length) (k : Nat) (hk : 3 * l.length + B + 9 ≤ k) :
    ∃ j : Nat, shelfmarkref10_under.f k l 0 = some (j : Int) ∧ j ≤ l.length ∧ (nds l).drop j = if l[0].f1 = 4 then takeDir l.length l[0].f0.data.toList [] ((nds l).drop 1) else (nds l).drop 1 := by
  obtain ⟨k, rfl⟩ : ∃ g, k = g + 3 := ⟨k - 3, by omega⟩
  have hat : rd_T37 l 0 = l[0] := rd37_at l 0 h0
  rw [shelfmarkref10_under.f, show wrap64 (0 + 1) = ((1 : Nat) : Int) by unfold wrap64; decide]
  by_cases h5 : l[0].f1 = 4
  · obtain ⟨j, a, b, c, d⟩ := under_rounds l B hB hl hs l.length 1 0 (⟨#[]⟩ : ByteArray) (k + 2) (by omega) (by omega) h0 (by omega) h5
    exact ⟨j, a, c, by rw [if_pos h5]; exact d l.length (by omega)⟩
  · refine ⟨1, ?_, h0, by rw [if_neg h5]⟩
    have h6 : (l[0].f1 == 4) = false := beq_eq_false_iff_ne.2 h5
    by_cases h7 : 1 < l.length
    · rw [shelfmarkref10_under.l0, if_pos (by omega), if_pos (by decide), if_pos (by omega), hat, h6, shelfmarkref10_under.j1, if_neg (by decide)]
    · rw [shelfmarkref10_under.l0, if_neg (by omega), shelfmarkref10_under.j1, if_neg (by decide)]
theorem refMay_rounds (l : List S37) (B : Nat) (hB : B < 1000000000) (hl : l.length < 1000000000) (hs : ∀ x ∈ l, x.f0.size ≤ B) (h0 : 0 < l.length) : ∀ (m i k : Nat), l.length - i ≤ m → i ≤ l.length → m + 3 * l.length + B + 6000 ≤ k →
    shelfmarkref10_May.l0 k l (i : Int) = some (((nds l).drop i).all refNode && (if l[0].f1 = 4 then (takeDir l.length l[0].f0.data.toList [] ((nds l).drop 1)).isEmpty else ((nds l).drop 1).isEmpty)) := by
  intro m
  induction m with
  | zero =>
    intro i k h1 h2 hk
    obtain ⟨k, rfl⟩ : ∃ g, k = g + 1 := ⟨k - 1, by omega⟩
    rw [shelfmarkref10_May.l0, if_neg (by omega), List.drop_eq_nil_of_le (by rw [nds_len]; omega), List.all_nil, Bool.true_and]
    obtain ⟨j, hj, hj1, hj2⟩ := under_f l B hB hl hs h0 k (by omega)
    rw [hj]
    simp only [Option.bind_some]
    congr 1
    have e : (((j : Int) == (l.length : Int)) : Bool) = ((nds l).drop j).isEmpty := by
      rw [Bool.eq_iff_iff, beq_iff_eq, List.isEmpty_iff, List.drop_eq_nil_iff, nds_len]; omega
    rw [e, hj2]
    split <;> rfl
  | succ m ih =>
    intro i k h1 h2 hk
    by_cases hi : i < l.length
    · obtain ⟨k, rfl⟩ : ∃ g, k = g + 1 := ⟨k - 1, by omega⟩
      have hx : rd_T37 l (i : Int) = l[i] := rd37_at l i hi
      have hsi := hs l[i] (List.getElem_mem _)
      obtain ⟨a, nm, hc, hcl⟩ := cut_f l[i].f0 (by omega) k (by omega)
      have hnmsz : nm.size ≤ l[i].f0.size := by
        rw [Lib.size_eq, hcl, Lib.size_eq]
        cases h : cutSlash l[i].f0.data.toList with
        | none => exact Nat.le_refl _
        | some y =>
          have := cutSlash_is _ y.1 y.2 h
          simp only
          rw [this]; simp; omega
      have e1 : shelfmarkref10_MayName.f k nm = some (mayName nm.data.toList) := refMayName_f nm k (by omega)
      have e2 := deep_f l[i].f0 (by omega) k (by omega)
      have e3 := mayData_f l[i] k (by omega)
      rw [shelfmarkref10_May.l0, if_pos (by omega), if_pos (by omega), hx, hc]
      simp only [Option.bind_some]
      rw [e1]
      simp only [Option.bind_some]
      rw [nds_drop l i hi, List.all_cons]
      have er : refNode (nd l[i]) = (okNd (nd l[i]) && (decide (slashes l[i].f0.data.toList < 64) && mayName nm.data.toList)) := by
        unfold refNode; rw [hcl]; rfl
      rw [er]
      by_cases h3 : mayName nm.data.toList = true
      · rw [if_pos h3, e2, h3]
        simp only [Option.bind_some]
        by_cases h4 : slashes l[i].f0.data.toList < 64
        · rw [if_neg (by omega), e3, decide_eq_true h4]
          simp only [Option.bind_some]
          by_cases h5 : okNd (nd l[i]) = true
          · rw [if_pos h5, h5, wrap_up i (by omega), ih (i + 1) k (by omega) (by omega) (by omega)]
            rfl
          · rw [if_neg h5, Bool.eq_false_iff.2 h5]; rfl
        · rw [if_pos (by omega), decide_eq_false h4]; simp
      · rw [if_neg h3, Bool.eq_false_iff.2 h3]; simp
    · exact ih i k (by omega) h2 (by omega)
theorem refMay_f (l : List S37) (hs : ∀ x ∈ l, x.f0.size ≤ 1048576) (k : Nat) (hk : 1100000 ≤ k) : shelfmarkref10_May.f k l = some (May (nds l)) := by
  rw [← refMay_is]
  obtain ⟨k, rfl⟩ : ∃ g, k = g + 1 := ⟨k - 1, by omega⟩
  unfold shelfmarkref10_May.f
  by_cases h0 : 0 < l.length
  · have hat : rd_T37 l 0 = l[0] := rd37_at l 0 h0
    have hc : nds l = nd l[0] :: (nds l).drop 1 := by
      have := nds_drop l 0 h0
      rw [List.drop_zero] at this
      exact this
    have hL := nds_len l
    have j1 : shelfmarkref10_May.j0 (k + 1) l true = some false := by rw [shelfmarkref10_May.j0, if_pos rfl]
    rw [if_neg (by omega)]
    have er : refMay (nds l) = (decide (l.length ≤ 256) && ((nd l[0]).path == [] && (okNd (nd l[0]) && (((nds l).drop 1).all refNode && (if (nd l[0]).kind = 4 then (takeDir l.length [] [] ((nds l).drop 1)).isEmpty else ((nds l).drop 1).isEmpty))))) := by
      conv => lhs; rw [hc]
      rw [refMay_cons, ← hc, hL]
      have e9 : ((nds l).drop 1).length + 1 = l.length := by rw [List.length_drop, hL]; omega
      rw [e9]
    rw [er]
    by_cases h1 : l.length ≤ 256
    · rw [if_neg (by omega), if_pos (by omega), hat, toList_data, decide_eq_true h1]
      have hp : (nd l[0]).path = l[0].f0.data.toList := rfl
      have hkd : (nd l[0]).kind = l[0].f1 := rfl
      rw [hp, hkd]
      by_cases h2 : l[0].f0.data.toList = []
      · have e3 := mayData_f l[0] (k + 1) (by omega)
        rw [if_pos h2, e3]
        simp only [Option.bind_some]
        by_cases h4 : okNd (nd l[0]) = true
        · have hm := refMay_rounds l 1048576 (by decide) (by omega) hs h0 l.length 1 k (by omega) (by omega) (by omega)
          rw [h4, show (!true) = false from rfl, shelfmarkref10_May.j0, if_neg (by decide)]
          have e1 : ((1 : Nat) : Int) = 1 := rfl
          rw [← e1, hm, h2]
          rfl
        · rw [Bool.eq_false_iff.2 h4, show (!false) = true from rfl, j1]
          simp
      · rw [if_neg h2, j1, beq_eq_false_iff_ne.2 h2]
        simp
    · rw [if_pos (by omega), j1, decide_eq_false h1]
      simp
  · have : l = [] := List.length_eq_zero_iff.1 (by omega)
    subst this
    rw [if_pos (by decide), shelfmarkref10_May.j0, if_pos rfl]
    rfl
end Go.Proofs.Ytncokgdfkbgflaa

namespace Go.Proofs.Ytncokgdfkbgflaa
set_option linter.unusedVariables false
set_option linter.unusedSimpArgs false
open Go.RowKit Go.Proofs.YtncokgdfkbgflaaW.PrintWords Go.Proofs.YtncokgdfkbgflaaW.PrintMore P
theorem little_step (k : Nat) (n : Nat) (xs : List Int) (i : Nat) (hi : i < 8) (hx : xs.length = 8) :
    shelfmarkref1_little.l0 (k + 1) (n : Int) 8 xs (i : Int) = shelfmarkref1_little.l0 k (n : Int) 8 (xs.set i (((n / 2 ^ (8 * i) : Nat) : Int) % 256)) ((i + 1 : Nat) : Int) := by
  have hw : wrap64 (8 * (i : Int)) = ((8 * i : Nat) : Int) := by unfold wrap64; omega
  have hw2 : wrap64 ((i : Int) + 1) = ((i + 1 : Nat) : Int) := by unfold wrap64; omega
  have hs : shr .u64 (n : Int) ((8 * i : Nat) : Int) = ((n / 2 ^ (8 * i) : Nat) : Int) := by
    unfold shr
    rw [Int.toNat_natCast, Nat.min_eq_left (by show 8 * i ≤ 64; omega)]
    simp
  simp only [shelfmarkref1_little.l0]
  rw [if_pos (by omega), hw, if_pos (by omega), if_pos (by omega), if_pos (by rw [hx]; omega), hw2, hs, Int.toNat_natCast]
theorem little_any (k : Nat) (n : Nat) : shelfmarkref1_little.f (k + 9) (n : Int) 8 = some (bs (le8 n)) := by
  unfold shelfmarkref1_little.f
  rw [if_pos (by decide), if_pos (by decide)]
  show shelfmarkref1_little.l0 (k + 8 + 1) (n : Int) 8 _ ((0 : Nat) : Int) = _
  rw [little_step (k + 8) n _ 0 (by omega) (by rfl)]
  rw [show k + 8 = (k + 7) + 1 from rfl, little_step (k + 7) n _ 1 (by omega) (by simp)]
  rw [show k + 7 = (k + 6) + 1 from rfl, little_step (k + 6) n _ 2 (by omega) (by simp)]
  rw [show k + 6 = (k + 5) + 1 from rfl, little_step (k + 5) n _ 3 (by omega) (by simp)]
  rw [show k + 5 = (k + 4) + 1 from rfl, little_step (k + 4) n _ 4 (by omega) (by simp)]
  rw [show k + 4 = (k + 3) + 1 from rfl, little_step (k + 3) n _ 5 (by omega) (by simp)]
  rw [show k + 3 = (k + 2) + 1 from rfl, little_step (k + 2) n _ 6 (by omega) (by simp)]
  rw [show k + 2 = (k + 1) + 1 from rfl, little_step (k + 1) n _ 7 (by omega) (by simp)]
  simp only [shelfmarkref1_little.l0]
  rw [if_neg (by omega)]
  congr 1
  have hb : ∀ m : Nat, UInt8.ofNat (((m : Int) % 256).toNat) = UInt8.ofNat m := by
    intro m
    have : ((m : Int) % 256).toNat = m % 256 := by omega
    rw [this]
    apply UInt8.toNat_inj.mp
    simp
  rw [show ((8 : Int)).toNat = 8 from rfl]
  simp only [List.replicate_succ, List.replicate_zero, List.set_cons_zero, List.set_cons_succ, strOfNums, List.map_cons, List.map_nil, hb, bs, le8]
  simp
theorem refWord_any (k : Nat) (n : Nat) (hn : n < 9223372036854775808) : shelfmarkref10_Word.f (k + 9) (n : Int) = some (bs (le8 n)) := by
  have hm : mx (n : Int) 0 = n := by unfold mx; split <;> omega
  have hw : IntKind.u64.wrap (n : Int) = (n : Int) := by simp [IntKind.wrap, IntKind.signed, IntKind.bits]; omega
  unfold shelfmarkref10_Word.f shelfmarkref1_Little.f
  rw [hm, hw, little_any]
  rfl
theorem fill_rounds : ∀ (m k : Nat) (x : List UInt8), x.length + m < 4611686018427387904 → m < 8 → (x.length + m) % 8 = 0 → m + 1 ≤ k → shelfmarkref10_Str.l0 k (bs x) = some (bs (x ++ List.replicate m 0)) := by
  intro m
  induction m with
  | zero =>
    intro k x hx h8 hm hk
    obtain ⟨k, rfl⟩ : ∃ g, k = g + 1 := ⟨k - 1, by omega⟩
    rw [shelfmarkref10_Str.l0, bs_size, if_pos (by omega), List.replicate_zero, List.append_nil]
  | succ m ih =>
    intro k x hx h8 hm hk
    obtain ⟨k, rfl⟩ : ∃ g, k = g + 1 := ⟨k - 1, by omega⟩
    rw [shelfmarkref10_Str.l0, bs_size, if_neg (by omega), if_pos (by omega)]
    have e : (bs x ++ (⟨#[0]⟩ : ByteArray)) = bs (x ++ [0]) := by rw [← bs_append]; rfl
    rw [e, ih k (x ++ [0]) (by rw [List.length_append]; simp; omega) (by omega) (by rw [List.length_append]; simp; omega) (by omega), List.append_assoc]
    rfl
theorem refStr_f (s : ByteArray) (hs : s.size < 4611686018427380000) (k : Nat) (hk : 17 ≤ k) : shelfmarkref10_Str.f k s = some (bs (strB s.data.toList)) := by
  have hz := Lib.size_eq s
  obtain ⟨k, rfl⟩ : ∃ g, k = g + 9 := ⟨k - 9, by omega⟩
  unfold shelfmarkref10_Str.f
  rw [refWord_any k s.size (by omega)]
  simp only [Option.bind_some]
  have hp8 : pad s.size < 8 := by unfold pad; omega
  have hp : (8 + s.size + pad s.size) % 8 = 0 := by unfold pad; omega
  rw [bs_size, le8_length, if_pos (by omega)]
  have e : bs (le8 s.size) ++ s = bs (le8 s.size ++ s.data.toList) := by rw [← bs_append, bs_data]
  rw [e, fill_rounds (pad s.size) (k + 9) _ (by rw [List.length_append, le8_length]; omega) hp8 (by rw [List.length_append, le8_length, ← hz]; exact hp) (by omega), strB, ← hz]
theorem strs_rounds (l : List ByteArray) (M : Nat) (hM : M < 1000000000) (hl : l.length < 1000000000) (hs : ∀ s ∈ l, s.size ≤ M) : ∀ (m i k : Nat) (x : List UInt8), l.length - i ≤ m → i ≤ l.length → x.length ≤ i * (M + 15) → m + 18 ≤ k →
    shelfmarkref10_strs.l0 k l (bs x) (i : Int) = some (bs (x ++ strsB (strsOf (l.drop i)))) := by
  intro m
  induction m with
  | zero =>
    intro i k x h1 h2 hx hk
    obtain ⟨k, rfl⟩ : ∃ g, k = g + 1 := ⟨k - 1, by omega⟩
    rw [shelfmarkref10_strs.l0, if_neg (by omega), List.drop_eq_nil_of_le (by omega)]
    simp [strsOf, strsB]
  | succ m ih =>
    intro i k x h1 h2 hx hk
    by_cases hi : i < l.length
    · obtain ⟨k, rfl⟩ : ∃ g, k = g + 1 := ⟨k - 1, by omega⟩
      have hr : rdOf ByteArray.empty l (i : Int) = l[i] := by simp [rdOf, List.getD_eq_getElem?_getD, List.getElem?_eq_getElem hi]
      have hsi := hs l[i] (List.getElem_mem _)
      have hb : i * (M + 15) ≤ 1000000000 * (M + 15) := Nat.mul_le_mul (by omega) (Nat.le_refl _)
      have hle := strB_le l[i].data.toList
      have hz := Lib.size_eq l[i]
      rw [shelfmarkref10_strs.l0, if_pos (by omega), if_pos (by omega), hr, refStr_f l[i] (by omega) k (by omega)]
      simp only [Option.bind_some]
      rw [bs_size, bs_size, if_pos (by omega), bs_append, show wrap64 ((i : Int) + 1) = ((i + 1 : Nat) : Int) by unfold wrap64; omega,
        ih (i + 1) k _ (by omega) (by omega) (by rw [List.length_append, Nat.succ_mul]; omega) (by omega), List.drop_eq_getElem_cons hi]
      show _ = some (bs (x ++ strsB (l[i].data.toList :: strsOf (l.drop (i + 1)))))
      rw [strsB, List.append_assoc]
    · exact ih i k x (by omega) h2 hx (by omega)
theorem refStrs_f (l : List ByteArray) (M : Nat) (hM : M < 1000000000) (hl : l.length < 1000000000) (hs : ∀ s ∈ l, s.size ≤ M) (k : Nat) (hk : l.length + 18 ≤ k) : shelfmarkref10_strs.f k l = some (bs (strsB (strsOf l))) := by
  unfold shelfmarkref10_strs.f
  have := strs_rounds l M hM hl hs l.length 0 k [] (by omega) (by omega) (by simp) hk
  rw [List.drop_zero, List.nil_append] at this
  exact this
end Go.Proofs.Ytncokgdfkbgflaa

namespace Go.Proofs.Ytncokgdfkbgflaa
set_option linter.unusedVariables false
set_option linter.unusedSimpArgs false
open Go.RowKit Go.Proofs.YtncokgdfkbgflaaW.PrintWords Go.Proofs.YtncokgdfkbgflaaW.PrintMore P
theorem rd_one (x : S37) : rd_T37 [x] 0 = x := rd37_at [x] 0 (by simp)
theorem may_one (x : S37) (h0 : x.f0.data.toList = []) (h : okNode x = true) : mayC [x] = some true := by
  refine mayC_of (k := 5) ?_
  have h1 : x.f0.toList = [] := by rw [toList_data]; exact h0
  unfold nar_May.f
  rw [rd_one, if_neg (by simp), if_neg (by simp), if_pos (by simp), if_pos h1]
  have h2 : containsMay1.f [x] = some false := by simp [containsMay1.f, h]
  rw [h2]
  simp only [Option.bind_some, nar_May.j0, rd_one]
  rw [if_neg (by decide), if_pos (by simp)]
  split
  · simp [nar_May.j1, nar_May.l0]
  · simp [nar_May.j1, nar_May.l0]
def oneB (n : Nd) : List UInt8 := strsB [wOpen, wType] ++ (if n.kind = 1 ∨ n.kind = 2 ∨ n.kind = 3 then leafB n else strsB [wDir]) ++ strsB [wShut]
theorem packN_one (f : Nat) (n : Nd) : packN (f + 1) [n] 0 = oneB n := by
  unfold packN oneB
  simp [belowFrom]
theorem strsB_le (M : Nat) : ∀ (l : List (List UInt8)), (∀ s ∈ l, s.length ≤ M) → (strsB l).length ≤ l.length * (M + 15)
  | [], _ => by simp [strsB]
  | s :: l, h => by
    have h1 := strB_le s
    have h2 := h s List.mem_cons_self
    have h3 := strsB_le M l (fun z hz => h z (List.mem_cons_of_mem _ hz))
    rw [strsB, List.length_append, List.length_cons, Nat.succ_mul]
    omega
theorem leafB_le (n : Nd) (M : Nat) (hM : 10 ≤ M) (h : n.data.length ≤ M) : (leafB n).length ≤ 5 * (M + 15) := by
  unfold leafB
  split
  · refine Nat.le_trans (strsB_le M _ ?_) (Nat.mul_le_mul (by simp) (Nat.le_refl _))
    intro s hs
    simp only [List.mem_cons, List.not_mem_nil, or_false] at hs
    rcases hs with rfl | rfl | rfl <;> first | exact h | (refine Nat.le_trans ?_ hM; decide)
  · split
    · refine Nat.le_trans (strsB_le M _ ?_) (Nat.mul_le_mul (by simp) (Nat.le_refl _))
      intro s hs
      simp only [List.mem_cons, List.not_mem_nil, or_false] at hs
      rcases hs with rfl | rfl | rfl | rfl | rfl <;> first | exact h | (refine Nat.le_trans ?_ hM; decide)
    · refine Nat.le_trans (strsB_le M _ ?_) (Nat.mul_le_mul (by simp) (Nat.le_refl _))
      intro s hs
      simp only [List.mem_cons, List.not_mem_nil, or_false] at hs
      rcases hs with rfl | rfl | rfl <;> first | exact h | (refine Nat.le_trans ?_ hM; decide)
theorem oneB_le (n : Nd) (M : Nat) (hM : 10 ≤ M) (h : n.data.length ≤ M) : (oneB n).length ≤ 8 * (M + 15) := by
  unfold oneB
  have h1 : (strsB [wOpen, wType]).length = 32 := by decide
  have h2 : (strsB [wShut]).length = 16 := by decide
  have h3 : (strsB [wDir]).length = 24 := by decide
  have h4 := leafB_le n M hM h
  rw [List.length_append, List.length_append, h1, h2]
  split
  · omega
  · rw [h3]; omega
theorem entryB_le (nm body : List UInt8) (h : nm.length ≤ 1048576) : (entryB nm body).length ≤ body.length + 1048700 := by
  unfold entryB
  have h1 := strB_le nm
  have h2 : (strB wEntry).length = 16 := by decide
  have h3 : (strB wOpen).length = 16 := by decide
  have h4 : (strB wName).length = 16 := by decide
  have h5 : (strB wNode).length = 16 := by decide
  have h6 : (strsB [wShut]).length = 16 := by decide
  simp only [strsB, List.length_append, List.append_nil] at h6 ⊢
  rw [h2, h3, h4, h5, h6]
  omega
theorem pack_one (x : S37) (h0 : x.f0.data.toList = []) (h : okNode x = true) (hd : x.f2.size ≤ 65536) : nar_Pack.f [x] = some (bs (strB wMark ++ oneB (nd x)), 0) := by
  have hnd : (nd x).data.length ≤ 65536 := by
    show x.f2.data.toList.length ≤ _
    rw [← Lib.size_eq]; exact hd
  have h1 := oneB_le (nd x) 65536 (by decide) hnd
  have hroom : ∃ M, PackRoom [x] M := by
    refine ⟨2000000, by simp, ?_, ?_, by simp, by simp⟩
    · intro f i nm hi hn
      obtain rfl : i = 0 := by simp at hi; exact hi
      have h2 := entryB_le nm (packN f (nds [x]) 0) hn
      have h3 : (packN f (nds [x]) 0).length ≤ 600000 := by
        cases f with
        | zero => simp [packN]
        | succ f =>
          show (packN (f + 1) [nd x] 0).length ≤ _
          rw [packN_one]
          omega
      omega
    · intro y hy
      obtain rfl : y = x := by simpa using hy
      refine ⟨?_, by omega⟩
      rw [Lib.size_eq, h0]; simp
  unfold nar_Pack.f
  rw [may_one x h0 h]
  simp only [Option.bind_some, if_true]
  rw [if_pos hroom]
  show some (bs (strB wMark ++ packN (0 + 1) [nd x] 0), (0 : Int)) = _
  rw [packN_one]
theorem str_lit (k : Nat) (l : List UInt8) (h : l.length ≤ 1000) : nar_Str.f (k + 9) (bs l) = some (bs (strB l)) := by
  rw [str_any k (bs l) (by rw [bs_size]; omega), bs_toList]
theorem awake_true (k : Nat) : shelfmarklaw10_awake.f (k + 9) = some true := by
  unfold shelfmarklaw10_awake.f
  have e1 : nar_Str.f (k + 9) (⟨#[40]⟩ : ByteArray) = some (bs (strB wOpen)) := str_lit k wOpen (by decide)
  have e2 : nar_Str.f (k + 9) (⟨#[110, 105, 120, 45, 97, 114, 99, 104, 105, 118, 101, 45, 49]⟩ : ByteArray) = some (bs (strB wMark)) := str_lit k wMark (by decide)
  rw [pack_one ⟨⟨#[]⟩, 1, ⟨#[120]⟩⟩ rfl (by decide) (by decide), e1, e2]
  simp only [Option.bind_some, shelfmarklaw1_Err.f]
  rw [if_pos (by decide), if_pos trivial, if_pos (by decide +kernel), if_pos (by decide), if_pos (by decide +kernel)]
  rw [toList_data, toList_data]
  have h : ((bs (strB wMark ++ oneB (nd ⟨⟨#[]⟩, 1, ⟨#[120]⟩⟩))).extract 0 24).data.toList == (bs (strB wMark)).data.toList := by decide +kernel
  rw [h]
end Go.Proofs.Ytncokgdfkbgflaa

namespace Go.Proofs.Ytncokgdfkbgflaa
set_option linter.unusedVariables false
set_option linter.unusedSimpArgs false
open Go.RowKit Go.Proofs.YtncokgdfkbgflaaW.PrintWords Go.Proofs.YtncokgdfkbgflaaW.PrintMore P
theorem mayStep_path {op op' : List Lv} {n : Nd} (h : mayStep op n = some op') : n.path ≠ [] := by
  intro he
  unfold mayStep withinP at h
  rw [he] at h
  simp only [cutSlash] at h
  split at h
  · cases h
  · rename_i i name hw
    split at hw
    · cases hw
    · injection hw with hw
      have h2 : name = [] := (congrArg Prod.snd hw).symm
      subst h2
      simp [mayName] at h
theorem mayGo_path : ∀ (l : List Nd) (op : List Lv), mayGo op l = true → ∀ n ∈ l, n.path ≠ []
  | [], _, _, n, hn => by simp at hn
  | m :: l, op, h, n, hn => by
    unfold mayGo at h
    split at h
    · cases h
    · rename_i op' hs
      rcases List.mem_cons.mp hn with rfl | hn
      · exact mayStep_path hs
      · exact mayGo_path l op' h n hn
theorem okNd_le (n : Nd) (h : okNd n = true) : n.data.length ≤ 65536 := by
  unfold okNd at h
  split at h
  · simpa using h
  · split at h
    · simp only [Bool.and_eq_true, decide_eq_true_eq] at h; omega
    · split at h
      · have : n.data = [] := by simpa using h
        rw [this]; simp
      · cases h
theorem may_parts {l : List Nd} (h : May l = true) : 0 < l.length ∧ l.length ≤ 256 ∧ (∀ n ∈ l, okNd n = true) ∧ (∀ j (hj : j < l.length), 0 < j → l[j].path ≠ []) := by
  unfold May at h
  split at h
  · cases h
  · rename_i n r
    simp only [Bool.and_eq_true, decide_eq_true_eq] at h
    obtain ⟨h1, _, h3, h4⟩ := h
    refine ⟨by simp, h1, fun m hm => List.all_eq_true.1 h3 m hm, fun j hj hj0 => ?_⟩
    obtain ⟨j, rfl⟩ : ∃ i, j = i + 1 := ⟨j - 1, by omega⟩
    rw [List.getElem_cons_succ]
    exact mayGo_path r _ h4 _ (List.getElem_mem _)
theorem room_is (l : List S37) (hp : ∀ x ∈ l, x.f0.size ≤ 1048576) (h : May (nds l) = true) : PackRoom l 353771551 := by
  obtain ⟨h1, h2, h3, h4⟩ := may_parts h
  have hl : (nds l).length = l.length := by simp [nds]
  rw [hl] at h1 h2
  refine ⟨h1, ?_, ?_, by omega, ?_⟩
  · intro f i nm hi hn
    have h5 := packN_le (nds l) 327827 1048576 (by
      intro n hn
      have := leafB_le n 65536 (by decide) (okNd_le n (h3 n hn))
      omega) (by
      intro n hn
      obtain ⟨x, hx, rfl⟩ := List.mem_map.1 hn
      have := hp x hx
      rw [Lib.size_eq] at this
      exact this) (by decide) h4 f i
    have h6 := entryB_len nm (packN f (nds l) i)
    have h7 := holds_le (nds l) i
    have h8 : (327827 + (1048576 + 140)) * holds (nds l) i ≤ (327827 + (1048576 + 140)) * 257 := Nat.mul_le_mul (Nat.le_refl _) (by omega)
    omega
  · intro x hx
    have h5 := okNd_le (nd x) (h3 _ (List.mem_map.2 ⟨x, hx, rfl⟩))
    have h6 := hp x hx
    refine ⟨h6, ?_⟩
    rw [Lib.size_eq]
    have : x.f2.data.toList.length ≤ 65536 := h5
    omega
  · have h5 : l.length * ((l.length + 1) * 353771551) ≤ 256 * (257 * 353771551) := Nat.mul_le_mul h2 (Nat.mul_le_mul (by omega) (Nat.le_refl _))
    omega
theorem pack_is (l : List S37) (hT : TameAll l) (hp : ∀ x ∈ l, x.f0.size ≤ 1048576) :
    nar_Pack.f l = some (if May (nds l) = true then (bs (strB wMark ++ packN l.length (nds l) 0), 0) else (⟨#[]⟩, 1)) := by
  unfold nar_Pack.f
  rw [may_is l hT]
  simp only [Option.bind_some]
  by_cases h : May (nds l) = true
  · rw [if_pos h, if_pos h, if_pos ⟨_, room_is l hp h⟩]
  · rw [if_neg h, if_neg h]
end Go.Proofs.Ytncokgdfkbgflaa

namespace Go.Proofs.Ytncokgdfkbgflaa
set_option linter.unusedVariables false
set_option linter.unusedSimpArgs false
open Go.RowKit Go.Proofs.YtncokgdfkbgflaaW.PrintWords Go.Proofs.YtncokgdfkbgflaaW.PrintMore P
theorem strs1 (k : Nat) (hk : 30 ≤ k) : shelfmarkref10_strs.f k [(⟨#[40]⟩ : ByteArray), (⟨#[116, 121, 112, 101]⟩ : ByteArray)] = some (bs (strsB [wOpen, wType])) := refStrs_f _ 300 (by decide) (by decide) (by decide) k (by simp; omega)
theorem strs2 (k : Nat) (hk : 30 ≤ k) : shelfmarkref10_strs.f k [(⟨#[41]⟩ : ByteArray)] = some (bs (strsB [wShut])) := refStrs_f _ 300 (by decide) (by decide) (by decide) k (by simp; omega)
theorem strs3 (k : Nat) (hk : 30 ≤ k) : shelfmarkref10_strs.f k [(⟨#[100, 105, 114, 101, 99, 116, 111, 114, 121]⟩ : ByteArray)] = some (bs (strsB [wDir])) := refStrs_f _ 300 (by decide) (by decide) (by decide) k (by simp; omega)
theorem strs4 (k : Nat) (hk : 30 ≤ k) : shelfmarkref10_strs.f k [(⟨#[110, 105, 120, 45, 97, 114, 99, 104, 105, 118, 101, 45, 49]⟩ : ByteArray)] = some (bs (strsB [wMark])) := refStrs_f _ 300 (by decide) (by decide) (by decide) k (by simp; omega)
theorem strs5 (k : Nat) (hk : 30 ≤ k) (d : ByteArray) (hd : d.size ≤ 70000) : shelfmarkref10_strs.f k [(⟨#[114, 101, 103, 117, 108, 97, 114]⟩ : ByteArray), (⟨#[99, 111, 110, 116, 101, 110, 116, 115]⟩ : ByteArray), d] = some (bs (strsB [wRegular, wContents, d.data.toList])) :=
  refStrs_f _ 70000 (by decide) (by simp) (by intro s hs; simp only [List.mem_cons, List.not_mem_nil, or_false] at hs; rcases hs with rfl | rfl | rfl; all_goals first | exact hd | decide) k (by simp; omega)
theorem strs6 (k : Nat) (hk : 30 ≤ k) (d : ByteArray) (hd : d.size ≤ 70000) : shelfmarkref10_strs.f k [(⟨#[114, 101, 103, 117, 108, 97, 114]⟩ : ByteArray), (⟨#[101, 120, 101, 99, 117, 116, 97, 98, 108, 101]⟩ : ByteArray), (⟨#[]⟩ : ByteArray), (⟨#[99, 111, 110, 116, 101, 110, 116, 115]⟩ : ByteArray), d] = some (bs (strsB [wRegular, wExec, [], wContents, d.data.toList])) :=
  refStrs_f _ 70000 (by decide) (by simp) (by intro s hs; simp only [List.mem_cons, List.not_mem_nil, or_false] at hs; rcases hs with rfl | rfl | rfl | rfl | rfl; all_goals first | exact hd | decide) k (by simp; omega)
theorem strs7 (k : Nat) (hk : 30 ≤ k) (d : ByteArray) (hd : d.size ≤ 70000) : shelfmarkref10_strs.f k [(⟨#[115, 121, 109, 108, 105, 110, 107]⟩ : ByteArray), (⟨#[116, 97, 114, 103, 101, 116]⟩ : ByteArray), d] = some (bs (strsB [wSymlink, wTarget, d.data.toList])) :=
  refStrs_f _ 70000 (by decide) (by simp) (by intro s hs; simp only [List.mem_cons, List.not_mem_nil, or_false] at hs; rcases hs with rfl | rfl | rfl; all_goals first | exact hd | decide) k (by simp; omega)
theorem strs8 (k : Nat) (hk : 30 ≤ k) (d : ByteArray) (hd : d.size ≤ 70000) : shelfmarkref10_strs.f k [(⟨#[101, 110, 116, 114, 121]⟩ : ByteArray), (⟨#[40]⟩ : ByteArray), (⟨#[110, 97, 109, 101]⟩ : ByteArray), d, (⟨#[110, 111, 100, 101]⟩ : ByteArray)] = some (bs (strsB [wEntry, wOpen, wName, d.data.toList, wNode])) :=
  refStrs_f _ 70000 (by decide) (by simp) (by intro s hs; simp only [List.mem_cons, List.not_mem_nil, or_false] at hs; rcases hs with rfl | rfl | rfl | rfl | rfl; all_goals first | exact hd | decide) k (by simp; omega)
theorem nds_here {l : List S37} {pre post : List Nd} {n : Nd} (h : nds l = pre ++ (n :: post)) : ∃ hi : pre.length < l.length, nd l[pre.length] = n := by
  have hl : pre.length < l.length := by rw [← nds_len, h, List.length_append, List.length_cons]; omega
  refine ⟨hl, ?_⟩
  have h1 : (nds l)[pre.length]? = some n := by rw [h]; simp
  have h2 : (nds l)[pre.length]? = some (nd l[pre.length]) := by simp [nds, List.getElem?_eq_getElem hl]
  rw [h2] at h1
  exact Option.some.inj h1
theorem mayName_len {t : List UInt8} (h : mayName t = true) : t.length ≤ 255 := by
  unfold mayName at h
  simp only [Bool.and_eq_true, decide_eq_true_eq] at h
  exact h.2.1
mutual
theorem Tr.node_is (l : List S37) (B : Nat) (hB : B < 1000000000) (hl : l.length < 1000000000) (hs : ∀ x ∈ l, x.f0.size ≤ B) : ∀ (t : Tr) (d : Nat) (p : List UInt8) (pre post : List Nd) (k : Nat), t.ok d = true → StopsAt (headOf p) post → nds l = pre ++ (t.nodes p ++ post) → t.enc.length < 1000000000000000 → 3 * t.size + B + 60 ≤ k →
    shelfmarkref10_node.f k l (pre.length : Int) = some (bs t.enc, ((pre.length + t.size : Nat) : Int))
  | .leaf kk x, d, p, pre, post, k, h, hst, hn, he, hk => by
    obtain ⟨k, rfl⟩ : ∃ g, k = g + 1 := ⟨k - 1, by omega⟩
    rw [Tr.ok] at h
    simp only [Bool.and_eq_true, decide_eq_true_eq] at h
    rw [Tr.nodes] at hn
    obtain ⟨hi, hnd⟩ := nds_here hn
    have hat : rd_T37 l (pre.length : Int) = l[pre.length] := rd37_at l _ hi
    have h1 : l[pre.length].f1 = kk := congrArg Nd.kind hnd
    have h2 : l[pre.length].f2.data.toList = x := congrArg Nd.data hnd
    have hx := okNd_le _ h.2
    have hx2 : x.length ≤ 65536 := hx
    have hsz : l[pre.length].f2.size ≤ 70000 := by rw [Lib.size_eq, h2]; omega
    have HW := Aside0.mk (wrap_up pre.length (by omega))
    rw [Tr.enc] at he ⊢
    simp only [List.length_append] at he
    rw [shelfmarkref10_node.f, if_pos (by omega), if_pos (by omega), strs1 k (by omega)]
    simp only [Option.bind_some]
    rw [hat, h1, strs5 k (by omega) _ hsz, strs6 k (by omega) _ hsz, strs7 k (by omega) _ hsz, h2, strs2 k (by omega), HW.out, Tr.size]
    simp only [Option.bind_some]
    rcases h.1 with rfl | rfl | rfl
    · rw [if_pos rfl, bs_size, bs_size, if_pos (by simp only [leafB, if_pos] at he; omega), bs_append, bs_size, bs_size, if_pos (by simp only [leafB, if_pos] at he; rw [List.length_append]; omega), bs_append]
      rfl
    · rw [if_neg (by decide), if_pos rfl, bs_size, bs_size]
      have hb : leafB ⟨[], 2, x⟩ = strsB [wRegular, wExec, [], wContents, x] := by simp [leafB]
      rw [hb] at he ⊢
      rw [if_pos (by omega), bs_append, bs_size, bs_size, if_pos (by rw [List.length_append]; omega), bs_append]
    · rw [if_neg (by decide), if_neg (by decide), if_pos rfl, bs_size, bs_size]
      have hb : leafB ⟨[], 3, x⟩ = strsB [wSymlink, wTarget, x] := by simp [leafB]
      rw [hb] at he ⊢
      rw [if_pos (by omega), bs_append, bs_size, bs_size, if_pos (by rw [List.length_append]; omega), bs_append]
  | .dir es, d, p, pre, post, k, h, hst, hn, he, hk => by
    obtain ⟨k, rfl⟩ : ∃ g, k = g + 1 := ⟨k - 1, by omega⟩
    rw [Tr.ok] at h
    rw [Tr.size] at hk ⊢
    rw [Tr.nodes] at hn
    obtain ⟨hi, hnd⟩ := nds_here hn
    have hat : rd_T37 l (pre.length : Int) = l[pre.length] := rd37_at l _ hi
    have h1 : l[pre.length].f1 = 4 := congrArg Nd.kind hnd
    have h0 : l[pre.length].f0.data.toList = p := congrArg Nd.path hnd
    have hsi := hs l[pre.length] (List.getElem_mem _)
    have HW := Aside0.mk (wrap_up pre.length (by omega))
    rw [Tr.enc] at he ⊢
    simp only [List.length_append] at he
    have hn2 : nds l = (pre ++ [⟨p, 4, []⟩]) ++ (es.nodes p ++ post) := by rw [hn]; simp
    have hr := Es.node_is l B hB hl hs es d [] p (pre ++ [⟨p, 4, []⟩]) post k l[pre.length].f0 l[pre.length].f1 l[pre.length].f2 (strsB [wOpen, wType] ++ strsB [wDir]) h hst hn2 ⟨h0, hsi⟩ (by simp only [List.length_append]; omega) (by omega)
    rw [List.length_append, List.length_singleton] at hr
    rw [shelfmarkref10_node.f, if_pos (by omega), if_pos (by omega), strs1 k (by omega)]
    simp only [Option.bind_some]
    rw [hat]
    have g1 : ¬ l[pre.length].f1 = 1 := by omega
    have g2 : ¬ l[pre.length].f1 = 2 := by omega
    have g3 : ¬ l[pre.length].f1 = 3 := by omega
    rw [if_neg g1, if_neg g2, if_neg g3, strs3 k (by omega)]
    simp only [Option.bind_some]
    rw [bs_size, bs_size, if_pos (by omega), bs_append, HW.out, hr]
    have e1 : strsB [wOpen, wType] ++ strsB [wDir] ++ (es.enc ++ strsB [wShut]) = strsB [wOpen, wType] ++ (strsB [wDir] ++ es.enc) ++ strsB [wShut] := by simp only [List.append_assoc]
    have e2 : pre.length + 1 + es.size = pre.length + (1 + es.size) := by omega
    rw [e1, e2]
theorem Es.node_is (l : List S37) (B : Nat) (hB : B < 1000000000) (hl : l.length < 1000000000) (hs : ∀ x ∈ l, x.f0.size ≤ B) : ∀ (es : Es) (d : Nat) (last p : List UInt8) (pre post : List Nd) (k : Nat) (y0 : ByteArray) (y1 : Int) (y2 : ByteArray) (acc : List UInt8), es.ok d last = true → StopsAt (headOf p) post → nds l = pre ++ (es.nodes p ++ post) → y0.data.toList = p ∧ y0.size ≤ B →
    acc.length + es.enc.length + (strsB [wShut]).length < 1000000000000000 → 3 * es.size + B + 62 ≤ k →
    shelfmarkref10_node.l0 k l (bs acc) (pre.length : Int) y0 y1 y2 = some (bs (acc ++ (es.enc ++ strsB [wShut])), ((pre.length + es.size : Nat) : Int))
  | .nil, d, last, p, pre, post, k, y0, y1, y2, acc, h, hst, hn, ⟨hy, hyB⟩, he, hk => by
    obtain ⟨k, rfl⟩ : ∃ g, k = g + 2 := ⟨k - 2, by omega⟩
    rw [Es.nodes, List.nil_append] at hn
    rw [Es.enc] at he ⊢
    rw [Es.size, List.nil_append]
    have hj : shelfmarkref10_node.j1 (k + 1) l (bs acc) (pre.length : Int) false y0 y1 y2 = some (bs (acc ++ strsB [wShut]), ((pre.length + 0 : Nat) : Int)) := by
      rw [shelfmarkref10_node.j1, if_neg (by decide), strs2 k (by omega)]
      simp only [Option.bind_some]
      rw [bs_size, bs_size, if_pos (by simp only [List.length_nil] at he; omega), bs_append]
      rfl
    rw [shelfmarkref10_node.l0]
    by_cases hlt : pre.length < l.length
    · obtain ⟨n, post2, hpost⟩ : ∃ n post2, post = n :: post2 := by
        cases post with
        | nil => have := nds_len l; rw [hn, List.append_nil] at this; omega
        | cons n q => exact ⟨n, q, rfl⟩
      rw [hpost] at hn
      obtain ⟨hi, hnd⟩ := nds_here hn
      have hat : rd_T37 l (pre.length : Int) = l[pre.length] := rd37_at l _ hi
      have h0 : l[pre.length].f0.data.toList = n.path := congrArg Nd.path hnd
      have hsi := hs l[pre.length] (List.getElem_mem _)
      have hpfx := hst n post2 hpost
      obtain ⟨r, hr, hrl⟩ := name_f l[pre.length].f0 y0 (by omega) (by omega) (k + 1) (by omega)
      rw [h0, hy, refName_stop hpfx] at hrl
      have ht : (r.toList != ([] : List UInt8)) = false := by rw [toList_data, hrl]; rfl
      rw [if_pos (by omega), if_pos (by omega), hat, hr]
      simp only [Option.bind_some]
      rw [ht, hj]
    · rw [if_neg (by omega), hj]
  | .cons nm t es, d, last, p, pre, post, k, y0, y1, y2, acc, h, hst, hn, ⟨hy, hyB⟩, he, hk => by
    have h' := h
    rw [Es.ok] at h
    simp only [Bool.and_eq_true, Bool.not_eq_true', decide_eq_true_eq] at h
    obtain ⟨h1, h2, h3, h4, h5⟩ := h
    rw [Es.size] at hk ⊢
    have hp := Tr.size_pos t
    obtain ⟨k, rfl⟩ : ∃ g, k = g + 2 := ⟨k - 2, by omega⟩
    rw [Es.nodes, List.append_assoc] at hn
    obtain ⟨hne, h47⟩ := mayName_ne h1
    have hstop := Es.stops d nm p _ es post nm rfl hne h5 hst
    rw [Es.enc, entryB] at he ⊢
    simp only [List.length_append] at he
    have hnode := Tr.node_is l B hB hl hs t (d + 1) (headOf p ++ nm) pre (es.nodes p ++ post) k h4 hstop hn (by omega) (by omega)
    obtain ⟨m, q, hm, hmp⟩ := Tr.first (headOf p ++ nm) t
    have hn1 : nds l = pre ++ m :: (q ++ (es.nodes p ++ post)) := by rw [hn, hm]; rfl
    obtain ⟨hi, hnd⟩ := nds_here hn1
    have hat : rd_T37 l (pre.length : Int) = l[pre.length] := rd37_at l _ hi
    have h0 : l[pre.length].f0.data.toList = headOf p ++ nm := by rw [← hmp]; exact congrArg Nd.path hnd
    have hsi := hs l[pre.length] (List.getElem_mem _)
    obtain ⟨r, hr, hrl⟩ := name_f l[pre.length].f0 y0 (by omega) (by omega) (k + 1) (by omega)
    obtain ⟨r2, hr2, hrl2⟩ := name_f l[pre.length].f0 y0 (by omega) (by omega) k (by omega)
    rw [h0, hy, refName_in p nm h47] at hrl hrl2
    have ht : (r.toList != ([] : List UInt8)) = true := by rw [toList_data, hrl, bne_iff_ne]; exact hne
    have hnml := mayName_len h1
    have hn2 : nds l = (pre ++ t.nodes (headOf p ++ nm)) ++ (es.nodes p ++ post) := by rw [hn, List.append_assoc]
    have hih := Es.node_is l B hB hl hs es d nm p (pre ++ t.nodes (headOf p ++ nm)) post k y0 y1 y2 (acc ++ strsB [wEntry, wOpen, wName, nm, wNode] ++ t.enc ++ strsB [wShut]) h5 hst hn2 ⟨hy, hyB⟩ (by simp only [List.length_append]; omega) (by omega)
    rw [List.length_append, Tr.nodes_length] at hih
    rw [shelfmarkref10_node.l0, if_pos (by omega), if_pos (by omega), hat, hr]
    simp only [Option.bind_some]
    rw [ht, shelfmarkref10_node.j1, if_pos rfl, hnode]
    simp only [Option.bind_some]
    rw [if_pos (by omega), if_pos (by omega), hat, hr2]
    simp only [Option.bind_some]
    rw [strs8 k (by omega) r2 (by rw [Lib.size_eq, hrl2]; omega), strs2 k (by omega), hrl2]
    simp only [Option.bind_some]
    rw [bs_size, bs_size, if_pos (by omega), bs_append, bs_size, bs_size, if_pos (by rw [List.length_append]; omega), bs_append, bs_size, bs_size, if_pos (by simp only [List.length_append]; omega), bs_append, hih]
    have e1 : acc ++ strsB [wEntry, wOpen, wName, nm, wNode] ++ t.enc ++ strsB [wShut] ++ (es.enc ++ strsB [wShut]) = acc ++ (strsB [wEntry, wOpen, wName, nm, wNode] ++ t.enc ++ strsB [wShut] ++ es.enc ++ strsB [wShut]) := by simp only [List.append_assoc]
    have e2 : pre.length + t.size + es.size = pre.length + (t.size + es.size) := by omega
    rw [e1, e2]
end

theorem encT_le (t : Tr) (h : t.ok 0 = true) (hs : t.size ≤ 256) (hp : ∀ n ∈ t.nodes [], n.path.length ≤ 1048576) : t.enc.length ≤ 353771551 * 257 := by
  have hm := tree_may t h hs
  obtain ⟨h1, h2, h3, h4⟩ := may_parts hm
  rw [← packN_tree t h]
  have h5 := packN_le (t.nodes []) 327827 1048576 (by
    intro n hn
    have := leafB_le n 65536 (by decide) (okNd_le n (h3 n hn))
    omega) hp (by decide) h4 (t.nodes []).length 0
  have h7 := holds_le (t.nodes []) 0
  have h8 : (327827 + (1048576 + 140)) * holds (t.nodes []) 0 ≤ (327827 + (1048576 + 140)) * 257 := Nat.mul_le_mul (Nat.le_refl _) (by omega)
  omega
theorem refPack_f (l : List S37) (hs : ∀ x ∈ l, x.f0.size ≤ 1048576) (k : Nat) (hk : 1200000 ≤ k) : shelfmarkref10_Pack.f k l = some (if May (nds l) = true then (bs (strB wMark ++ packN l.length (nds l) 0), 0) else (⟨#[]⟩, 1)) := by
  unfold shelfmarkref10_Pack.f
  rw [refMay_f l hs k (by omega)]
  simp only [Option.bind_some]
  by_cases h : May (nds l) = true
  · rw [if_pos h, if_pos h]
    obtain ⟨t, ht, hl⟩ := may_tree _ h
    obtain ⟨h1, h2, _, _⟩ := may_parts h
    rw [nds_len] at h1 h2
    have hsz : t.size = l.length := by rw [← Tr.nodes_length [] t, ← hl, nds_len]
    have hpp : ∀ n ∈ t.nodes [], n.path.length ≤ 1048576 := by
      intro n hn
      rw [← hl] at hn
      obtain ⟨x, hx, rfl⟩ := List.mem_map.1 hn
      have := hs x hx
      rw [Lib.size_eq] at this
      exact this
    have he := encT_le t ht (by omega) hpp
    have hn := Tr.node_is l 1048576 (by decide) (by omega) hs t 0 [] [] [] k ht (fun n q e => by cases e) (by rw [hl]; simp) (by omega) (by omega)
    have e0 : (([] : List Nd).length : Int) = 0 := rfl
    rw [e0] at hn
    rw [hn]
    simp only [Option.bind_some]
    rw [strs4 k (by omega)]
    simp only [Option.bind_some]
    have hmk : (strsB [wMark]).length = 24 := by decide
    have e1 : packN l.length (nds l) 0 = t.enc := by
      have := packN_tree t ht
      rw [← hl, nds_len] at this
      exact this
    rw [bs_size, bs_size, if_pos (by omega), bs_append, e1]
    have e2 : strsB [wMark] = strB wMark := by simp only [strsB, List.append_nil]
    rw [e2]
  · rw [if_neg h, if_neg h]
end Go.Proofs.Ytncokgdfkbgflaa

namespace Go.Proofs.Ytncokgdfkbgflaa
set_option linter.unusedVariables false
set_option linter.unusedSimpArgs false
def names6 : List (List UInt8) := [[97], [98, 46, 99], [98, 105, 110], [108, 105, 98], [120, 32, 121], [122]]
def name6 (k : Nat) : List UInt8 := names6.getD k []
def textAt (texts : List (List UInt8)) (i : Nat) : List UInt8 := if texts.length = 0 then [] else texts.getD (i % texts.length) []
def dir2E (texts : List (List UInt8)) : List UInt8 → Nat → Nat → Es
  | [], _, _ => .nil
  | n :: ns, k, cnt => if k < 6 ∧ cnt < 16 then .cons (name6 k) (.leaf 1 (textAt texts n.toNat)) (dir2E texts ns (k + 1) (cnt + 1)) else .nil
def dataOf (texts : List (List UInt8)) (kind : Nat) (a b c : UInt8) : List UInt8 :=
  if kind = 1 ∨ kind = 2 then textAt texts c.toNat ++ [a, b] else if kind = 3 then [116, 111, 47] ++ textAt names6 c.toNat else []
def dirE (texts : List (List UInt8)) : Nat → List UInt8 → Nat → Nat → Nat → Es
  | 0, _, _, _, _ => .nil
  | f + 1, ns, k, deep, cnt =>
    match ns with
    | a :: b :: c :: rest =>
      if k < 6 ∧ cnt < 14 then
        if 6 ≤ k + a.toNat % 3 then .nil
        else if b.toNat % 4 = 3 then
          if deep < 3 then
            .cons (name6 (k + a.toNat % 3)) (.dir (dirE texts f (rest.take (rest.length / 2)) 0 (deep + 1) (cnt + 1)))
              (dir2E texts (rest.drop (rest.length / 2)) (k + a.toNat % 3 + 1) (cnt + 1 + (dirE texts f (rest.take (rest.length / 2)) 0 (deep + 1) (cnt + 1)).size))
          else .cons (name6 (k + a.toNat % 3)) (.dir .nil) (dirE texts f rest (k + a.toNat % 3 + 1) deep (cnt + 1))
        else .cons (name6 (k + a.toNat % 3)) (.leaf (1 + (b.toNat % 4 : Nat)) (dataOf texts (1 + b.toNat % 4) a b c)) (dirE texts f rest (k + a.toNat % 3 + 1) deep (cnt + 1))
      else .nil
    | _ => .nil
def lastOf (k : Nat) : List UInt8 := match k with | 0 => [] | k + 1 => name6 k
theorem name6_ok : ∀ k, k < 6 → mayName (name6 k) = true := by decide +kernel
theorem name6_up : ∀ k, k < 6 → ∀ j, j ≤ k → (Op.bytesLess (name6 k) (lastOf j) || name6 k == lastOf j) = false := by decide +kernel
theorem names6_len : ∀ t ∈ names6, t.length ≤ 3 := by decide
theorem textAt_mem (texts : List (List UInt8)) (i : Nat) : textAt texts i = [] ∨ textAt texts i ∈ texts := by
  unfold textAt
  split
  · exact .inl rfl
  · rename_i h
    right
    have : i % texts.length < texts.length := Nat.mod_lt _ (by omega)
    rw [List.getD_eq_getElem?_getD, List.getElem?_eq_getElem this]
    exact List.getElem_mem _
theorem textAt_le {texts : List (List UInt8)} {M : Nat} (h : ∀ t ∈ texts, t.length ≤ M) (i : Nat) : (textAt texts i).length ≤ M := by
  rcases textAt_mem texts i with e | e
  · rw [e]; exact Nat.zero_le _
  · exact h _ e
theorem dir2E_ok (texts : List (List UInt8)) (h : ∀ t ∈ texts, t.length ≤ 65000) (d : Nat) (hd : d < 64) : ∀ (ns : List UInt8) (k j cnt : Nat), j ≤ k → (dir2E texts ns k cnt).ok d (lastOf j) = true
  | [], k, j, cnt, hj => by rw [dir2E, Es.ok]
  | n :: ns, k, j, cnt, hj => by
    rw [dir2E]
    split
    · rename_i hc
      have := textAt_le h n.toNat
      have ih := dir2E_ok texts h d hd ns (k + 1) (k + 1) (cnt + 1) (Nat.le_refl _)
      rw [Es.ok, name6_ok k hc.1, name6_up k hc.1 j hj, decide_eq_true hd, Tr.ok]
      have e : lastOf (k + 1) = name6 k := rfl
      rw [e] at ih
      rw [ih]
      have : okNd ⟨[], 1, textAt texts n.toNat⟩ = true := by unfold okNd; rw [if_pos (.inl rfl)]; exact decide_eq_true (by show (textAt texts n.toNat).length ≤ _; omega)
      rw [this]; rfl
    · rw [Es.ok]
theorem dir2E_size (texts : List (List UInt8)) : ∀ (ns : List UInt8) (k cnt : Nat), cnt ≤ 16 → cnt + (dir2E texts ns k cnt).size ≤ 16
  | [], k, cnt, h => by rw [dir2E, Es.size]; omega
  | n :: ns, k, cnt, h => by
    rw [dir2E]
    split
    · rename_i hc
      have := dir2E_size texts ns (k + 1) (cnt + 1) (by omega)
      rw [Es.size, Tr.size]; omega
    · rw [Es.size]; omega
theorem dirE_size (texts : List (List UInt8)) : ∀ (f : Nat) (ns : List UInt8) (k deep cnt : Nat), cnt ≤ 16 → cnt + (dirE texts f ns k deep cnt).size ≤ 16
  | 0, ns, k, deep, cnt, h => by rw [dirE, Es.size]; omega
  | f + 1, ns, k, deep, cnt, h => by
    unfold dirE
    split
    · rename_i a b c rest
      split
      · rename_i hc
        split
        · rw [Es.size]; omega
        · split
          · split
            · have h1 := dirE_size texts f (rest.take (rest.length / 2)) 0 (deep + 1) (cnt + 1) (by omega)
              have h2 := dir2E_size texts (rest.drop (rest.length / 2)) (k + a.toNat % 3 + 1) (cnt + 1 + (dirE texts f (rest.take (rest.length / 2)) 0 (deep + 1) (cnt + 1)).size) h1
              rw [Es.size, Tr.size]; omega
            · have h1 := dirE_size texts f rest (k + a.toNat % 3 + 1) deep (cnt + 1) (by omega)
              rw [Es.size, Tr.size, Es.size]; omega
          · have h1 := dirE_size texts f rest (k + a.toNat % 3 + 1) deep (cnt + 1) (by omega)
            rw [Es.size, Tr.size]; omega
      · rw [Es.size]; omega
    · rw [Es.size]; omega
theorem dataOf_ok (texts : List (List UInt8)) (h : ∀ t ∈ texts, t.length ≤ 65000) (m : Nat) (hm : m < 3) (a b c : UInt8) : okNd ⟨[], (1 + (m : Nat) : Int), dataOf texts (1 + m) a b c⟩ = true := by
  have hl := textAt_le h c.toNat
  have hl6 := textAt_le names6_len c.toNat
  rcases (show m = 0 ∨ m = 1 ∨ m = 2 by omega) with rfl | rfl | rfl
  · unfold okNd dataOf
    rw [if_pos (.inl rfl), if_pos (.inl rfl)]
    exact decide_eq_true (by show (textAt texts c.toNat ++ [a, b]).length ≤ _; rw [List.length_append]; simp; omega)
  · unfold okNd dataOf
    rw [if_pos (.inr rfl), if_pos (.inr rfl)]
    exact decide_eq_true (by show (textAt texts c.toNat ++ [a, b]).length ≤ _; rw [List.length_append]; simp; omega)
  · have hz : hasZero ([116, 111, 47] ++ textAt names6 c.toNat) = false := by
      rcases textAt_mem names6 c.toNat with e | e
      · rw [e]; rfl
      · have : ∀ t ∈ names6, hasZero ([116, 111, 47] ++ t) = false := by decide
        exact this _ e
    unfold okNd dataOf
    rw [if_neg (show ¬ ((1 + (2 : Nat) : Int) = 1 ∨ (1 + (2 : Nat) : Int) = 2) by decide), if_pos (show (1 + (2 : Nat) : Int) = 3 by decide), if_neg (show ¬ (1 + 2 = 1 ∨ 1 + 2 = 2) by decide), if_pos (show 1 + 2 = 3 by decide), hz]
    simp only [List.length_append, List.length_cons, List.length_nil, Bool.not_false, Bool.and_true]
    rw [decide_eq_true (by omega)]
    rfl
theorem dirE_ok (texts : List (List UInt8)) (h : ∀ t ∈ texts, t.length ≤ 65000) : ∀ (f : Nat) (ns : List UInt8) (k j deep cnt : Nat), j ≤ k → deep < 60 → (dirE texts f ns k deep cnt).ok deep (lastOf j) = true
  | 0, ns, k, j, deep, cnt, hj, hd => by rw [dirE, Es.ok]
  | f + 1, ns, k, j, deep, cnt, hj, hd => by
    unfold dirE
    split
    · rename_i a b c rest
      split
      · rename_i hc
        split
        · rw [Es.ok]
        · rename_i hk
          have e : lastOf (k + a.toNat % 3 + 1) = name6 (k + a.toNat % 3) := rfl
          have n1 := name6_ok (k + a.toNat % 3) (by omega)
          have n2 := name6_up (k + a.toNat % 3) (by omega) j (by omega)
          split
          · split
            · have h1 := dirE_ok texts h f (rest.take (rest.length / 2)) 0 0 (deep + 1) (cnt + 1) (Nat.le_refl _) (by omega)
              have h2 := dir2E_ok texts h deep (by omega) (rest.drop (rest.length / 2)) (k + a.toNat % 3 + 1) (k + a.toNat % 3 + 1) (cnt + 1 + (dirE texts f (rest.take (rest.length / 2)) 0 (deep + 1) (cnt + 1)).size) (Nat.le_refl _)
              have e0 : lastOf 0 = [] := rfl
              rw [e] at h2
              rw [e0] at h1
              rw [Es.ok, n1, n2, decide_eq_true (show deep < 64 by omega), Tr.ok, h1, h2]; rfl
            · have h2 := dirE_ok texts h f rest (k + a.toNat % 3 + 1) (k + a.toNat % 3 + 1) deep (cnt + 1) (Nat.le_refl _) hd
              rw [e] at h2
              rw [Es.ok, n1, n2, decide_eq_true (show deep < 64 by omega), Tr.ok, Es.ok, h2]; rfl
          · rename_i hb
            have h2 := dirE_ok texts h f rest (k + a.toNat % 3 + 1) (k + a.toNat % 3 + 1) deep (cnt + 1) (Nat.le_refl _) hd
            rw [e] at h2
            have hm := dataOf_ok texts h (b.toNat % 4) (by omega) a b c
            rw [Es.ok, n1, n2, decide_eq_true (show deep < 64 by omega), Tr.ok, hm, h2, decide_eq_true (by omega)]; rfl
      · rw [Es.ok]
    · rw [Es.ok]
def treeOf (ns : List UInt8) (texts : List (List UInt8)) : Tr :=
  match ns with
  | [] => .leaf 1 (textAt texts 0)
  | a :: r =>
    if a.toNat % 5 = 4 ∨ 3 < (a :: r).length ∨ a.toNat % 5 = 3 then .dir (dirE texts (a :: r).length (a :: r) 0 0 1)
    else if a.toNat % 5 = 2 then .leaf 3 [116, 111] else .leaf (1 + (a.toNat % 5 : Nat)) (116 :: textAt texts 0)
theorem treeOf_ok (ns : List UInt8) (texts : List (List UInt8)) (h : ∀ t ∈ texts, t.length ≤ 65000) : (treeOf ns texts).ok 0 = true := by
  have hl := textAt_le h 0
  unfold treeOf
  split
  · rw [Tr.ok]
    have : okNd ⟨[], 1, textAt texts 0⟩ = true := by unfold okNd; rw [if_pos (.inl rfl)]; exact decide_eq_true (by show (textAt texts 0).length ≤ _; omega)
    rw [this]; rfl
  · rename_i a r
    split
    · rw [Tr.ok]
      exact dirE_ok texts h _ _ 0 0 0 1 (Nat.le_refl _) (by decide)
    · rename_i hn
      split
      · rw [Tr.ok]; decide
      · rename_i h2
        have : okNd ⟨[], (1 + (a.toNat % 5 : Nat) : Int), 116 :: textAt texts 0⟩ = true := by unfold okNd; rw [if_pos (by show (1 + (a.toNat % 5 : Nat) : Int) = 1 ∨ (1 + (a.toNat % 5 : Nat) : Int) = 2; omega)]; exact decide_eq_true (by show (116 :: textAt texts 0).length ≤ _; rw [List.length_cons]; omega)
        rw [Tr.ok, this, decide_eq_true (by omega)]; rfl
theorem treeOf_size (ns : List UInt8) (texts : List (List UInt8)) : (treeOf ns texts).size ≤ 16 := by
  cases ns with
  | nil => unfold treeOf; rw [Tr.size]; omega
  | cons a r =>
    unfold treeOf
    simp only
    split
    · have := dirE_size texts (a :: r).length (a :: r) 0 0 1 (by omega)
      rw [Tr.size]; omega
    · split <;> (rw [Tr.size]; omega)
end Go.Proofs.Ytncokgdfkbgflaa

namespace Go.Proofs.Ytncokgdfkbgflaa
set_option linter.unusedVariables false
set_option linter.unusedSimpArgs false
open Go.RowKit Go.Proofs.YtncokgdfkbgflaaW.PrintWords Go.Proofs.YtncokgdfkbgflaaW.PrintMore P
def us (ns : List Int) : List UInt8 := ns.map fun x => UInt8.ofNat x.toNat
def isB (ns : List Int) : Prop := ∀ x ∈ ns, 0 ≤ x ∧ x < 256
theorem us_len (ns : List Int) : (us ns).length = ns.length := by simp [us]
theorem isB_drop {ns : List Int} (h : isB ns) (i : Nat) : isB (ns.drop i) := fun x hx => h x (List.mem_of_mem_drop hx)
theorem isB_take {ns : List Int} (h : isB ns) (i : Nat) : isB (ns.take i) := fun x hx => h x (List.mem_of_mem_take hx)
theorem us_drop (ns : List Int) (i : Nat) : us (ns.drop i) = (us ns).drop i := by simp [us]
theorem us_take (ns : List Int) (i : Nat) : us (ns.take i) = (us ns).take i := by simp [us]
theorem us_at (ns : List Int) (i : Nat) (h : i < ns.length) (hb : isB ns) : ∃ b : UInt8, rd ns (i : Int) = (b.toNat : Int) ∧ (us ns).drop i = b :: (us ns).drop (i + 1) := by
  have h2 : i < (us ns).length := by rw [us_len]; exact h
  refine ⟨(us ns)[i], ?_, List.drop_eq_getElem_cons h2⟩
  obtain ⟨h3, h4⟩ := hb ns[i] (List.getElem_mem _)
  have e : rd ns (i : Int) = ns[i] := by simp [rd, List.getD_eq_getElem?_getD, List.getElem?_eq_getElem h]
  rw [e]
  simp only [us, List.getElem_map]
  rw [UInt8.toNat_ofNat']
  omega
theorem wrapb (b : UInt8) : wrap64 (b.toNat : Int) = (b.toNat : Int) := by
  have := b.toNat_lt
  unfold wrap64; omega
theorem tmodb (n d : Nat) : Int.tmod (n : Int) (d : Int) = ((n % d : Nat) : Int) := by
  rw [Int.tmod_eq_emod_of_nonneg (by omega)]; rfl
theorem wrapn (n : Nat) (h : n < 4611686018427387904) : wrap64 (n : Int) = (n : Int) := by unfold wrap64; omega
theorem wrap_add2 (a b : Nat) (h : a + b < 4611686018427387904) : wrap64 ((a : Int) + (b : Int)) = ((a + b : Nat) : Int) := by unfold wrap64; omega
theorem textf (l : List ByteArray) (i : Nat) : ∃ r, shelfmarklaw10_text.f l (i : Int) = some r ∧ r.data.toList = textAt (strsOf l) i ∧ (r = ⟨#[]⟩ ∨ r ∈ l) := by
  unfold shelfmarklaw10_text.f textAt
  have hl : (strsOf l).length = l.length := by simp [strsOf]
  rw [hl]
  by_cases h : l.length = 0
  · rw [if_pos (by omega), if_pos h]; exact ⟨_, rfl, rfl, .inl rfl⟩
  · have hlt : i % l.length < l.length := Nat.mod_lt _ (by omega)
    rw [if_neg (by omega), if_neg h, tmodb, if_pos (by omega), if_pos (by omega)]
    have e : rdOf ByteArray.empty l ((i % l.length : Nat) : Int) = l[i % l.length] := by unfold rdOf; rw [Int.toNat_natCast, List.getD_eq_getElem?_getD, List.getElem?_eq_getElem hlt]; rfl
    refine ⟨_, rfl, ?_, .inr ?_⟩
    · rw [e]; simp [strsOf, List.getD_eq_getElem?_getD, List.getElem?_eq_getElem hlt]
    · rw [e]; exact List.getElem_mem _
def namesB : List ByteArray := [(⟨#[97]⟩ : ByteArray), (⟨#[98, 46, 99]⟩ : ByteArray), (⟨#[98, 105, 110]⟩ : ByteArray), (⟨#[108, 105, 98]⟩ : ByteArray), (⟨#[120, 32, 121]⟩ : ByteArray), (⟨#[122]⟩ : ByteArray)]
theorem names_str : strsOf namesB = names6 := rfl
theorem names_len : namesB.length = 6 := rfl
theorem names_at : ∀ k : Nat, k < 6 → (rdOf ByteArray.empty namesB (k : Int)).data.toList = name6 k ∧ (rdOf ByteArray.empty namesB (k : Int)).size ≤ 3 := by decide +kernel
theorem nds_add (l m : List S37) : nds (l ++ m) = nds l ++ nds m := by simp [nds]
theorem nds_one (a : ByteArray) (k : Int) (d : ByteArray) : nds [(⟨a, k, d⟩ : S37)] = [⟨a.data.toList, k, d.data.toList⟩] := rfl
theorem cat_list (a b : ByteArray) : (a ++ b).data.toList = a.data.toList ++ b.data.toList := by simp
theorem dir2_rounds (p : ByteArray) (hp : p.size ≤ 100000) (ns : List Int) (hns : isB ns) (hnl : ns.length < 1000000000000000) (texts : List ByteArray) (from_ : Nat) (hf : from_ ≤ 1000) : ∀ (m j k : Nat) (acc : List S37), ns.length - j ≤ m → j ≤ ns.length → acc.length ≤ 1000 → 2 * m + 4 ≤ k →
    ∃ r, shelfmarklaw10_dir2.l0 k acc p ns texts (from_ : Int) namesB (j : Int) = some r ∧ nds r = nds acc ++ (dir2E (strsOf texts) ((us ns).drop j) (from_ + j) acc.length).nodes p.data.toList := by
  have hzp := Lib.size_eq p
  intro m
  induction m with
  | zero =>
    intro j k acc h1 h2 ha hk
    obtain ⟨k, rfl⟩ : ∃ g, k = g + 2 := ⟨k - 2, by omega⟩
    rw [shelfmarklaw10_dir2.l0, if_neg (by omega), shelfmarklaw10_dir2.j1, if_neg (by decide), List.drop_eq_nil_of_le (by rw [us_len]; omega), dir2E, Es.nodes, List.append_nil]
    exact ⟨_, rfl, rfl⟩
  | succ m ih =>
    intro j k acc h1 h2 ha hk
    obtain ⟨k, rfl⟩ : ∃ g, k = g + 2 := ⟨k - 2, by omega⟩
    by_cases hj : j < ns.length
    · obtain ⟨b, hb, hd⟩ := us_at ns j hj hns
      have a1 : from_ + j < 4611686018427387904 := by omega
      have stop : shelfmarklaw10_dir2.j1 (k + 1) acc p ns texts (from_ : Int) namesB (j : Int) false = some acc := by rw [shelfmarklaw10_dir2.j1, if_neg (by decide)]
      rw [hd, dir2E]
      by_cases hk6 : from_ + j < 6
      · by_cases h16 : acc.length < 16
        · obtain ⟨q1, q2⟩ := names_at (from_ + j) hk6
          obtain ⟨t, ht, htl, _⟩ := textf texts b.toNat
          have a2 : j < 4611686018427387904 := by omega
          have a3 : ns.length - (j + 1) ≤ m := by omega
          have a4 : (acc.length : Int) < 16 := by omega
          have a5 : p.size + 1 ≤ 9223372036854775807 := by omega
          have a6 : (p ++ (⟨#[47]⟩ : ByteArray)).size + (rdOf ByteArray.empty namesB ((from_ + j : Nat) : Int)).size ≤ 9223372036854775807 := by rw [ByteArray.size_append]; have : (⟨#[47]⟩ : ByteArray).size = 1 := rfl; omega
          have a7 : acc.length < 3518437208883 := by omega
          rw [shelfmarklaw10_dir2.l0, if_pos (by omega), wrap_add2 from_ j a1, if_pos (by rw [names_len]; omega), decide_eq_true a4, shelfmarklaw10_dir2.j1, if_pos rfl, wrap_add2 from_ j a1, if_pos (by omega), if_pos (by rw [names_len]; omega), if_pos (by omega), if_pos (by omega), hb, wrapb, ht]
          simp only [Option.bind_some]
          rw [if_pos (show from_ + j < 6 ∧ acc.length < 16 from ⟨hk6, h16⟩), toList_data p, wrap_up j a2]
          by_cases hp0 : p.data.toList = []
          · rw [if_pos hp0, if_pos a7]
            obtain ⟨r, hr, hrl⟩ := ih (j + 1) k (acc ++ [(⟨rdOf ByteArray.empty namesB ((from_ + j : Nat) : Int), 1, t⟩ : S37)]) a3 hj (by rw [List.length_append]; simp; omega) (by omega)
            refine ⟨r, hr, ?_⟩
            rw [hrl, nds_add, nds_one, q1, htl, List.length_append, List.append_assoc, Es.nodes, Tr.nodes, hp0]
            rfl
          · rw [if_neg hp0, if_pos a5, if_pos a6, if_pos a7]
            obtain ⟨r, hr, hrl⟩ := ih (j + 1) k (acc ++ [(⟨p ++ (⟨#[47]⟩ : ByteArray) ++ rdOf ByteArray.empty namesB ((from_ + j : Nat) : Int), 1, t⟩ : S37)]) a3 hj (by rw [List.length_append]; simp; omega) (by omega)
            refine ⟨r, hr, ?_⟩
            rw [hrl, nds_add, nds_one, cat_list, cat_list, q1, htl, List.length_append, List.append_assoc, Es.nodes, Tr.nodes, headOf_ne hp0]
            rfl
        · have a4 : ¬ (acc.length : Int) < 16 := by omega
          rw [shelfmarklaw10_dir2.l0, if_pos (by omega), wrap_add2 from_ j a1, if_pos (by rw [names_len]; omega), decide_eq_false a4, stop, if_neg (show ¬ (from_ + j < 6 ∧ acc.length < 16) from fun h => h16 h.2), Es.nodes, List.append_nil]
          exact ⟨_, rfl, rfl⟩
      · rw [shelfmarklaw10_dir2.l0, if_pos (by omega), wrap_add2 from_ j a1, if_neg (by rw [names_len]; omega), stop, if_neg (show ¬ (from_ + j < 6 ∧ acc.length < 16) from fun h => hk6 h.1), Es.nodes, List.append_nil]
        exact ⟨_, rfl, rfl⟩
    · rw [shelfmarklaw10_dir2.l0, if_neg (by omega), shelfmarklaw10_dir2.j1, if_neg (by decide), List.drop_eq_nil_of_le (by rw [us_len]; omega), dir2E, Es.nodes, List.append_nil]
      exact ⟨_, rfl, rfl⟩
theorem dir2f (p : ByteArray) (hp : p.size ≤ 100000) (ns : List Int) (hns : isB ns) (hnl : ns.length < 1000000000000000) (texts : List ByteArray) (from_ : Nat) (hf : from_ ≤ 1000) (acc : List S37) (ha : acc.length ≤ 1000) (k : Nat) (hk : 2 * ns.length + 4 ≤ k) :
    ∃ r, shelfmarklaw10_dir2.f k acc p ns texts (from_ : Int) = some r ∧ nds r = nds acc ++ (dir2E (strsOf texts) (us ns) from_ acc.length).nodes p.data.toList := by
  obtain ⟨r, h1, h2⟩ := dir2_rounds p hp ns hns hnl texts from_ hf ns.length 0 k acc (by omega) (by omega) ha hk
  exact ⟨r, h1, h2⟩
end Go.Proofs.Ytncokgdfkbgflaa

namespace Go.Proofs.Ytncokgdfkbgflaa
set_option linter.unusedVariables false
set_option linter.unusedSimpArgs false
open Go.RowKit Go.Proofs.YtncokgdfkbgflaaW.PrintWords Go.Proofs.YtncokgdfkbgflaaW.PrintMore P
theorem strOf_two (x y : Int) : (strOfNums [x, y]).data.toList = [UInt8.ofNat x.toNat, UInt8.ofNat y.toNat] := by simp [strOfNums]
theorem strOf_size (x y : Int) : (strOfNums [x, y]).size = 2 := by rw [Lib.size_eq, strOf_two]; rfl
theorem byte_back (b : UInt8) : UInt8.ofNat ((b.toNat : Int)).toNat = b := by simp
def DirGoal (texts : List ByteArray) (k : Nat) (acc : List S37) (p : ByteArray) (ns : List Int) (kk deep i : Nat) : Prop :=
  ∃ r, shelfmarklaw10_dir.l0 k acc p ns texts (deep : Int) namesB (kk : Int) (i : Int) = some r ∧ ∀ f, ns.length - i ≤ f → nds r = nds acc ++ (dirE (strsOf texts) f ((us ns).drop i) kk deep acc.length).nodes p.data.toList
theorem drop_three {ns : List Int} {i : Nat} (h : i + 2 < ns.length) (hns : isB ns) : ∃ a b c : UInt8, rd ns (i : Int) = (a.toNat : Int) ∧ rd ns ((i + 1 : Nat) : Int) = (b.toNat : Int) ∧ rd ns ((i + 2 : Nat) : Int) = (c.toNat : Int) ∧ (us ns).drop i = a :: b :: c :: (us ns).drop (i + 3) ∧ (ns.take (i + 2)).drop i = [(a.toNat : Int), (b.toNat : Int)] := by
  obtain ⟨a, h1, h2⟩ := us_at ns i (by omega) hns
  obtain ⟨b, h3, h4⟩ := us_at ns (i + 1) (by omega) hns
  obtain ⟨c, h5, h6⟩ := us_at ns (i + 2) (by omega) hns
  refine ⟨a, b, c, h1, h3, h5, by rw [h2, h4, h6], ?_⟩
  have e1 : ns[i]'(by omega) = (a.toNat : Int) := by
    rw [← h1]; simp [rd, List.getD_eq_getElem?_getD, List.getElem?_eq_getElem (show i < ns.length by omega)]
  have e2 : ns[i + 1]'(by omega) = (b.toNat : Int) := by
    rw [← h3]; unfold rd; rw [Int.toNat_natCast, List.getD_eq_getElem?_getD, List.getElem?_eq_getElem (show i + 1 < ns.length by omega)]; rfl
  have hl : (ns.take (i + 2)).length = i + 2 := by rw [List.length_take]; omega
  rw [List.drop_eq_getElem_cons (by omega), List.drop_eq_getElem_cons (by omega), List.drop_eq_nil_of_le (by omega), List.getElem_take, List.getElem_take, e1, e2]
theorem j4_step (texts : List ByteArray) (k : Nat) (acc : List S37) (p path data : ByteArray) (ns : List Int) (hns : isB ns) (hnl : ns.length < 1000000000000000) (kk deep i m : Nat) (kind : Nat) (hk1 : kind < 5) (hi : i + 2 < ns.length) (hkk : kk ≤ 10) (ha : acc.length < 14) (hdp : deep ≤ 3) (hpp : p.size ≤ 100000) (hpath : path.size ≤ 100000)
    (hk : 2 * ns.length + 4 ≤ k)
    (IHd : kind = 4 → deep < 3 → ∀ sub : List Int, isB sub → sub.length ≤ ns.length - (i + 3) → ∃ r, shelfmarklaw10_dir.f k (acc ++ [(⟨path, (kind : Int), data⟩ : S37)]) path sub texts ((deep + 1 : Nat) : Int) = some r ∧ r.length ≤ 16 ∧ ∀ f, sub.length ≤ f → nds r = nds (acc ++ [(⟨path, (kind : Int), data⟩ : S37)]) ++ (dirE (strsOf texts) f (us sub) 0 (deep + 1) (acc.length + 1)).nodes path.data.toList)
    (IHl : ∃ r, shelfmarklaw10_dir.l0 k (acc ++ [(⟨path, (kind : Int), data⟩ : S37)]) p ns texts (deep : Int) namesB (kk : Int) ((i + 3 : Nat) : Int) = some r ∧ ∀ f, ns.length - (i + 3) ≤ f → nds r = nds (acc ++ [(⟨path, (kind : Int), data⟩ : S37)]) ++ (dirE (strsOf texts) f ((us ns).drop (i + 3)) kk deep (acc.length + 1)).nodes p.data.toList) :
    ∃ r, shelfmarklaw10_dir.j4 (k + 2) acc p ns texts (deep : Int) namesB (kk : Int) (i : Int) path (kind : Int) data = some r ∧ ∀ f, ns.length - (i + 3) ≤ f →
      nds r = nds acc ++ (⟨path.data.toList, (kind : Int), data.data.toList⟩ :: (if kind = 4 ∧ deep < 3 then
          (dirE (strsOf texts) f (((us ns).drop (i + 3)).take (((us ns).drop (i + 3)).length / 2)) 0 (deep + 1) (acc.length + 1)).nodes path.data.toList ++
            (dir2E (strsOf texts) (((us ns).drop (i + 3)).drop (((us ns).drop (i + 3)).length / 2)) kk (acc.length + 1 + (dirE (strsOf texts) f (((us ns).drop (i + 3)).take (((us ns).drop (i + 3)).length / 2)) 0 (deep + 1) (acc.length + 1)).size)).nodes p.data.toList
        else (dirE (strsOf texts) f ((us ns).drop (i + 3)) kk deep (acc.length + 1)).nodes p.data.toList)) := by
  have i3 : wrap64 ((i : Int) + 3) = ((i + 3 : Nat) : Int) := wrap_add2 i 3 (by omega)
  have I3 := Aside0.mk i3
  clear i3
  have hacc : acc.length < 3518437208883 := by omega
  have hj5 : ∀ b : Bool, (b = true ↔ (kind = 4 ∧ deep < 3)) → shelfmarklaw10_dir.j4 (k + 2) acc p ns texts (deep : Int) namesB (kk : Int) (i : Int) path (kind : Int) data = shelfmarklaw10_dir.j5 (k + 1) (acc ++ [(⟨path, (kind : Int), data⟩ : S37)]) p ns texts (deep : Int) namesB (kk : Int) (i : Int) b path (kind : Int) data := by
    intro b hb
    rw [shelfmarklaw10_dir.j4, if_pos hacc]
    simp only [Option.bind_some]
    by_cases h4 : kind = 4
    · rw [if_pos (by omega)]
      have : decide ((deep : Int) < 3) = b := by
        cases b with
        | true => exact decide_eq_true (by have := (hb.1 rfl).2; omega)
        | false => exact decide_eq_false (fun h => by have := hb.2 ⟨h4, by omega⟩; cases this)
      rw [this]
    · rw [if_neg (by omega)]
      have : b = false := by
        cases b with
        | true => exact absurd (hb.1 rfl).1 h4
        | false => rfl
      rw [this]
  have hnd : nds (acc ++ [(⟨path, (kind : Int), data⟩ : S37)]) = nds acc ++ [⟨path.data.toList, (kind : Int), data.data.toList⟩] := by rw [nds_add, nds_one]
  by_cases hc : kind = 4 ∧ deep < 3
  · rw [hj5 true ⟨fun _ => hc, fun _ => rfl⟩, shelfmarklaw10_dir.j5, if_pos rfl, I3.out]
    have w1 : wrap64 (((i + 3 : Nat) : Int) + (ns.length : Int)) = ((i + 3 + ns.length : Nat) : Int) := wrap_add2 (i + 3) ns.length (by omega)
    have w2 : Int.tdiv ((i + 3 + ns.length : Nat) : Int) 2 = (((i + 3 + ns.length) / 2 : Nat) : Int) := by rw [Int.tdiv_eq_ediv_of_nonneg (by omega)]; rfl
    have w3 : wrap64 (((i + 3 + ns.length) / 2 : Nat) : Int) = (((i + 3 + ns.length) / 2 : Nat) : Int) := wrapn _ (by omega)
    have w4 : wrap64 ((deep : Int) + 1) = ((deep + 1 : Nat) : Int) := wrap_up deep (by omega)
    rw [w1, w2, w3, w4]
    clear w1 w2 w3 w4
    have hsub : (((ns.take ((i + 3 + ns.length) / 2)).drop (i + 3))).length ≤ ns.length - (i + 3) := by rw [List.length_drop, List.length_take]; omega
    obtain ⟨r1, q1, q2, q3⟩ := IHd hc.1 hc.2 ((ns.take ((i + 3 + ns.length) / 2)).drop (i + 3)) (isB_drop (isB_take hns _) _) hsub
    obtain ⟨r2, q4, q5⟩ := dir2f p hpp (ns.drop ((i + 3 + ns.length) / 2)) (isB_drop hns _) (by rw [List.length_drop]; omega) texts kk (by omega) r1 (by omega) k (by rw [List.length_drop]; omega)
    rw [if_pos (by omega), if_pos (by omega), if_pos (by omega), Int.toNat_natCast, Int.toNat_natCast, q1]
    simp only [Option.bind_some]
    rw [if_pos (by omega), q4]
    refine ⟨r2, rfl, ?_⟩
    intro f hf
    have hul : (us ns).length = ns.length := us_len ns
    have hl1 : ((us ns).drop (i + 3)).length = ns.length - (i + 3) := by rw [List.length_drop, hul]
    have e1 : us ((ns.take ((i + 3 + ns.length) / 2)).drop (i + 3)) = ((us ns).drop (i + 3)).take (((us ns).drop (i + 3)).length / 2) := by
      rw [us_drop, us_take, List.drop_take, hl1]
      congr 1
      omega
    have e2 : us (ns.drop ((i + 3 + ns.length) / 2)) = ((us ns).drop (i + 3)).drop (((us ns).drop (i + 3)).length / 2) := by
      rw [us_drop, List.drop_drop, hl1]
      congr 1
      omega
    have q6 := q3 f (by rw [List.length_drop, List.length_take]; omega)
    have hr1 : r1.length = acc.length + 1 + (dirE (strsOf texts) f (((us ns).drop (i + 3)).take (((us ns).drop (i + 3)).length / 2)) 0 (deep + 1) (acc.length + 1)).size := by
      have := congrArg List.length q6
      rw [nds_len, List.length_append, nds_len, List.length_append, Es.nodes_length, e1] at this
      simpa using this
    rw [q5, q6, e1, e2, hnd, hr1, if_pos hc, List.append_assoc, List.append_assoc]
    rfl
  · obtain ⟨r, hr, hrl⟩ := IHl
    rw [hj5 false ⟨fun h => (by cases h), fun h => absurd h hc⟩, shelfmarklaw10_dir.j5, if_neg (by decide), I3.out]
    refine ⟨r, hr, fun f hf => ?_⟩
    rw [hrl f hf, hnd, if_neg hc, List.append_assoc]
    rfl
theorem dirE_short (texts : List (List UInt8)) (k d c : Nat) : ∀ (f : Nat) (l : List UInt8), l.length < 3 → dirE texts f l k d c = .nil
  | 0, l, _ => by rw [dirE]
  | f + 1, [], _ => by unfold dirE; rfl
  | f + 1, [a], _ => by unfold dirE; rfl
  | f + 1, [a, b], _ => by unfold dirE; rfl
  | f + 1, a :: b :: c :: l, h => by simp only [List.length_cons] at h; omega
theorem j3_data (texts : List ByteArray) (htx : ∀ t ∈ texts, t.size ≤ 1000000) (k : Nat) (acc : List S37) (p path : ByteArray) (ns : List Int) (deep kk i : Nat) (kind : Nat) (hk1 : 1 ≤ kind ∧ kind < 5) (a b c : UInt8) (hi : i + 2 < ns.length) (hnl : ns.length < 1000000000000000) (hc : rd ns ((i + 2 : Nat) : Int) = (c.toNat : Int)) (hab : (ns.take (i + 2)).drop i = [(a.toNat : Int), (b.toNat : Int)]) :
    ∃ data : ByteArray, data.data.toList = dataOf (strsOf texts) kind a b c ∧ shelfmarklaw10_dir.j3 (k + 1) acc p ns texts (deep : Int) namesB (kk : Int) (i : Int) (kind : Int) (decide (kind = 1 ∨ kind = 2)) path (kind : Int) (⟨#[]⟩ : ByteArray) = shelfmarklaw10_dir.j4 k acc p ns texts (deep : Int) namesB (kk : Int) (i : Int) path (kind : Int) data := by
  have I2 := Aside0.mk (wrap_add2 i 2 (by omega))
  by_cases h12 : kind = 1 ∨ kind = 2
  · obtain ⟨t, ht, htl, htm⟩ := textf texts c.toNat
    have hts : t.size ≤ 1000000 := by
      rcases htm with rfl | h
      · decide
      · exact htx t h
    refine ⟨t ++ strOfNums [(a.toNat : Int), (b.toNat : Int)], ?_, ?_⟩
    · rw [cat_list, strOf_two, byte_back, byte_back, htl, dataOf, if_pos h12]
    · have hsz := strOf_size (a.toNat : Int) (b.toNat : Int)
      rw [shelfmarklaw10_dir.j3, decide_eq_true h12, if_pos rfl]
      have e : wrap64 ((i : Int) + 2) = ((i + 2 : Nat) : Int) := I2.out
      rw [e, hc, wrapb, ht, Int.toNat_natCast, Int.toNat_natCast, hab]
      clear e
      rw [if_pos (by omega), if_pos (by omega)]
      simp only [Option.bind_some]
      rw [if_pos (by omega), if_pos (by omega), if_pos (by omega), if_pos (by omega)]
  · rw [decide_eq_false h12, shelfmarklaw10_dir.j3, if_neg (by decide)]
    by_cases h3 : kind = 3
    · obtain ⟨t, ht, htl, htm⟩ := textf namesB c.toNat
      have hts : t.size ≤ 3 := by
        rcases htm with rfl | h
        · decide
        · have : ∀ t ∈ namesB, t.size ≤ 3 := by decide
          exact this t h
      refine ⟨(⟨#[116, 111, 47]⟩ : ByteArray) ++ t, ?_, ?_⟩
      · rw [cat_list, htl, dataOf, if_neg h12, if_pos h3, names_str]
      · have e : wrap64 ((i : Int) + 2) = ((i + 2 : Nat) : Int) := I2.out
        rw [if_pos (by omega), e, hc, wrapb, ht]
        clear e
        rw [if_pos (by omega), if_pos (by omega)]
        simp only [Option.bind_some]
        rw [if_pos (by omega)]
    · refine ⟨⟨#[]⟩, ?_, ?_⟩
      · rw [dataOf, if_neg h12, if_neg h3]
      · rw [if_neg (by omega)]
theorem dirN_rounds (texts : List ByteArray) (htx : ∀ t ∈ texts, t.size ≤ 1000000) (L : Nat) (hL : L < 1000000000000000) : ∀ (m : Nat) (ns : List Int) (p : ByteArray) (deep kk i k : Nat) (acc : List S37), ns.length - i ≤ m → i ≤ ns.length → isB ns → ns.length ≤ L → kk ≤ 10 → deep ≤ 3 → p.size ≤ 10 * deep → acc.length ≤ 16 → 8 * m + 2 * L + 40 ≤ k →
    DirGoal texts k acc p ns kk deep i := by
  intro m
  induction m with
  | zero =>
    intro ns p deep kk i k acc h1 h2 hns hnL hkk hdp hpp ha hk
    obtain ⟨k, rfl⟩ : ∃ g, k = g + 2 := ⟨k - 2, by omega⟩
    have I2 := Aside0.mk (wrap_add2 i 2 (by omega))
    refine ⟨acc, ?_, fun f hf => ?_⟩
    · rw [shelfmarklaw10_dir.l0, show wrap64 ((i : Int) + 2) = ((i + 2 : Nat) : Int) from I2.out]
      rw [if_neg (by omega), shelfmarklaw10_dir.j1, if_neg (by decide)]
    · rw [dirE_short _ _ _ _ _ _ (by rw [List.length_drop, us_len]; omega), Es.nodes, List.append_nil]
  | succ m ih =>
    intro ns p deep kk i k acc h1 h2 hns hnL hkk hdp hpp ha hk
    obtain ⟨k, rfl⟩ : ∃ g, k = g + 6 := ⟨k - 6, by omega⟩
    have I2 := Aside0.mk (wrap_add2 i 2 (by omega))
    have hzp := Lib.size_eq p
    have stop : shelfmarklaw10_dir.j1 (k + 5) acc p ns texts (deep : Int) namesB (kk : Int) (i : Int) false = some acc := by rw [shelfmarklaw10_dir.j1, if_neg (by decide)]
    by_cases hi : i + 2 < ns.length
    · obtain ⟨a, b, c, ra, rb, rc, hd, hab⟩ := drop_three hi hns
      have hfuel : ∀ f, ns.length - i ≤ f → ∃ g, f = g + 1 ∧ ns.length - (i + 3) ≤ g := fun f hf => ⟨f - 1, by omega, by omega⟩
      by_cases hc1 : kk < 6 ∧ acc.length < 14
      · have i2 : ((i + 2 : Nat) : Int) < (ns.length : Int) := by omega
        have kx : (kk : Int) < (namesB.length : Int) := by rw [names_len]; omega
        have ax : ((acc.length : Nat) : Int) < 14 := by omega
        have b1 : a.toNat % 3 < 3 := Nat.mod_lt _ (by decide)
        have b2 : b.toNat % 4 < 4 := Nat.mod_lt _ (by decide)
        have W1 := Aside0.mk (wrap_add2 kk (a.toNat % 3) (by omega))
        have W2 := Aside0.mk (wrap_add2 i 1 (by omega))
        have W3 := Aside0.mk (wrap_add2 1 (b.toNat % 4) (by omega))
        have W4 := Aside0.mk (wrap_add2 (kk + a.toNat % 3) 1 (by omega))
        have e0 : shelfmarklaw10_dir.l0 (k + 6) acc p ns texts (deep : Int) namesB (kk : Int) (i : Int) = shelfmarklaw10_dir.j1 (k + 5) acc p ns texts (deep : Int) namesB (kk : Int) (i : Int) true := by
          rw [shelfmarklaw10_dir.l0, show wrap64 ((i : Int) + 2) = ((i + 2 : Nat) : Int) from I2.out, if_pos i2, if_pos kx, decide_eq_true ax]
        have i0 : (0 : Int) ≤ (i : Int) := by omega
        have il : (i : Int) < (ns.length : Int) := by omega
        have i1 : (0 : Int) ≤ ((i + 1 : Nat) : Int) := by omega
        have i1l : ((i + 1 : Nat) : Int) < (ns.length : Int) := by omega
        by_cases h6 : 6 ≤ kk + a.toNat % 3
        · refine ⟨acc, ?_, fun f hf => ?_⟩
          · have h6' : ((kk + a.toNat % 3 : Nat) : Int) ≥ (namesB.length : Int) := by rw [names_len]; omega
            rw [e0, shelfmarklaw10_dir.j1, if_pos rfl, if_pos i0, if_pos il, ra, wrapb, show Int.tmod (a.toNat : Int) 3 = ((a.toNat % 3 : Nat) : Int) from tmodb a.toNat 3, show wrap64 ((kk : Int) + ((a.toNat % 3 : Nat) : Int)) = ((kk + a.toNat % 3 : Nat) : Int) from W1.out, if_pos h6']
          · obtain ⟨g, rfl, hg⟩ := hfuel f hf
            rw [hd, dirE, if_pos hc1, if_pos h6, Es.nodes, List.append_nil]
        · obtain ⟨q1, q2⟩ := names_at (kk + a.toNat % 3) (by omega)
          obtain ⟨path, hpath, hpsz, hj1⟩ : ∃ path : ByteArray, path.data.toList = headOf p.data.toList ++ name6 (kk + a.toNat % 3) ∧ path.size ≤ p.size + 4 ∧ shelfmarklaw10_dir.j1 (k + 5) acc p ns texts (deep : Int) namesB (kk : Int) (i : Int) true = shelfmarklaw10_dir.j2 (k + 4) acc p ns texts (deep : Int) namesB ((kk + a.toNat % 3 : Nat) : Int) (i : Int) path ((1 + b.toNat % 4 : Nat) : Int) (⟨#[]⟩ : ByteArray) := by
            have h6a : ¬ ((kk + a.toNat % 3 : Nat) : Int) ≥ (namesB.length : Int) := by rw [names_len]; omega
            have h6b : (0 : Int) ≤ ((kk + a.toNat % 3 : Nat) : Int) := by omega
            have h6c : ((kk + a.toNat % 3 : Nat) : Int) < (namesB.length : Int) := by rw [names_len]; omega
            have s1 : p.size + 1 ≤ 9223372036854775807 := by omega
            have s2 : (p ++ (⟨#[47]⟩ : ByteArray)).size + (rdOf ByteArray.empty namesB ((kk + a.toNat % 3 : Nat) : Int)).size ≤ 9223372036854775807 := by rw [ByteArray.size_append]; have : (⟨#[47]⟩ : ByteArray).size = 1 := rfl; omega
            by_cases hp0 : p.data.toList = []
            · refine ⟨rdOf ByteArray.empty namesB ((kk + a.toNat % 3 : Nat) : Int), by rw [hp0]; exact q1, by omega, ?_⟩
              rw [shelfmarklaw10_dir.j1, if_pos rfl, if_pos i0, if_pos il, ra, wrapb, show Int.tmod (a.toNat : Int) 3 = ((a.toNat % 3 : Nat) : Int) from tmodb a.toNat 3, show wrap64 ((kk : Int) + ((a.toNat % 3 : Nat) : Int)) = ((kk + a.toNat % 3 : Nat) : Int) from W1.out, if_neg h6a, if_pos h6b, if_pos h6c, show wrap64 ((i : Int) + 1) = ((i + 1 : Nat) : Int) from W2.out, if_pos i1, if_pos i1l, toList_data p, if_pos hp0, rb, wrapb, show Int.tmod (b.toNat : Int) 4 = ((b.toNat % 4 : Nat) : Int) from tmodb b.toNat 4, show wrap64 (1 + ((b.toNat % 4 : Nat) : Int)) = ((1 + b.toNat % 4 : Nat) : Int) from W3.out]
            · refine ⟨p ++ (⟨#[47]⟩ : ByteArray) ++ rdOf ByteArray.empty namesB ((kk + a.toNat % 3 : Nat) : Int), by rw [cat_list, cat_list, q1, headOf_ne hp0], by rw [ByteArray.size_append, ByteArray.size_append]; have : (⟨#[47]⟩ : ByteArray).size = 1 := rfl; omega, ?_⟩
              rw [shelfmarklaw10_dir.j1, if_pos rfl, if_pos i0, if_pos il, ra, wrapb, show Int.tmod (a.toNat : Int) 3 = ((a.toNat % 3 : Nat) : Int) from tmodb a.toNat 3, show wrap64 ((kk : Int) + ((a.toNat % 3 : Nat) : Int)) = ((kk + a.toNat % 3 : Nat) : Int) from W1.out, if_neg h6a, if_pos h6b, if_pos h6c, show wrap64 ((i : Int) + 1) = ((i + 1 : Nat) : Int) from W2.out, if_pos i1, if_pos i1l, toList_data p, if_neg hp0, if_pos s1, if_pos s2, rb, wrapb, show Int.tmod (b.toNat : Int) 4 = ((b.toNat % 4 : Nat) : Int) from tmodb b.toNat 4, show wrap64 (1 + ((b.toNat % 4 : Nat) : Int)) = ((1 + b.toNat % 4 : Nat) : Int) from W3.out]
          have hj2 : shelfmarklaw10_dir.j2 (k + 4) acc p ns texts (deep : Int) namesB ((kk + a.toNat % 3 : Nat) : Int) (i : Int) path ((1 + b.toNat % 4 : Nat) : Int) (⟨#[]⟩ : ByteArray) = shelfmarklaw10_dir.j3 (k + 3) acc p ns texts (deep : Int) namesB ((kk + a.toNat % 3 + 1 : Nat) : Int) (i : Int) ((1 + b.toNat % 4 : Nat) : Int) (decide (1 + b.toNat % 4 = 1 ∨ 1 + b.toNat % 4 = 2)) path ((1 + b.toNat % 4 : Nat) : Int) (⟨#[]⟩ : ByteArray) := by
            rw [shelfmarklaw10_dir.j2, show wrap64 (((kk + a.toNat % 3 : Nat) : Int) + 1) = ((kk + a.toNat % 3 + 1 : Nat) : Int) from W4.out]
            clear e0
            by_cases h : 1 + b.toNat % 4 = 1
            · have hh : ((1 + b.toNat % 4 : Nat) : Int) = 1 := by omega
              rw [if_pos hh, decide_eq_true (.inl h), hh]; rfl
            · have hh : ¬ ((1 + b.toNat % 4 : Nat) : Int) = 1 := by omega
              rw [if_neg hh]
              congr 1
              rw [Bool.eq_iff_iff, beq_iff_eq, decide_eq_true_eq]; omega
          obtain ⟨data, hdata, hj3⟩ := j3_data texts htx (k + 2) acc p path ns deep (kk + a.toNat % 3 + 1) i (1 + b.toNat % 4) (by omega) a b c hi (by omega) rc hab
          have hacc1 : (acc ++ [(⟨path, ((1 + b.toNat % 4 : Nat) : Int), data⟩ : S37)]).length = acc.length + 1 := by rw [List.length_append]; rfl
          have hstep := j4_step texts k acc p path data ns hns (by omega) (kk + a.toNat % 3 + 1) deep i m (1 + b.toNat % 4) (by omega) hi (by omega) hc1.2 hdp (by omega) (by omega) (by omega)
            (fun h4 hd3 sub hsb hsl => by
              obtain ⟨k, rfl⟩ : ∃ g, k = g + 1 := ⟨k - 1, by omega⟩
              obtain ⟨r, hr, hrl⟩ := ih sub path (deep + 1) 0 0 k (acc ++ [(⟨path, ((1 + b.toNat % 4 : Nat) : Int), data⟩ : S37)]) (by omega) (by omega) hsb (by omega) (by omega) (by omega) (by omega) (by omega) (by omega)
              refine ⟨r, hr, ?_, fun f hf => ?_⟩
              · have := congrArg List.length (hrl sub.length (by omega))
                rw [nds_len, List.length_append, nds_len, Es.nodes_length, hacc1] at this
                have hs := dirE_size (strsOf texts) sub.length ((us sub).drop 0) 0 (deep + 1) (acc.length + 1) (by omega)
                omega
              · have := hrl f (by omega)
                rw [hacc1, List.drop_zero] at this
                exact this)
            (by
              obtain ⟨r, hr, hrl⟩ := ih ns p deep (kk + a.toNat % 3 + 1) (i + 3) k (acc ++ [(⟨path, ((1 + b.toNat % 4 : Nat) : Int), data⟩ : S37)]) (by omega) (by omega) hns hnL (by omega) hdp hpp (by omega) (by omega)
              refine ⟨r, hr, fun f hf => ?_⟩
              have := hrl f hf
              rw [hacc1] at this
              exact this)
          obtain ⟨r, hr, hrl⟩ := hstep
          refine ⟨r, by rw [e0, hj1, hj2, hj3]; exact hr, fun f hf => ?_⟩
          obtain ⟨g, rfl, hg⟩ := hfuel f hf
          rw [hrl g hg, hpath, hdata, hd, dirE, if_pos hc1, if_neg h6]
          congr 1
          by_cases h4 : b.toNat % 4 = 3
          · rw [if_pos h4, h4]
            by_cases hd3 : deep < 3
            · rw [if_pos hd3, if_pos ⟨rfl, hd3⟩, Es.nodes, Tr.nodes]
              rfl
            · rw [if_neg hd3, if_neg (fun h => hd3 h.2), Es.nodes, Tr.nodes, Es.nodes]
              rfl
          · rw [if_neg h4, if_neg (fun h => h4 (by omega)), Es.nodes, Tr.nodes]
            rfl
      · refine ⟨acc, ?_, fun f hf => ?_⟩
        · rw [shelfmarklaw10_dir.l0, show wrap64 ((i : Int) + 2) = ((i + 2 : Nat) : Int) from I2.out]
          rw [if_pos (by omega)]
          by_cases hk6 : kk < 6
          · rw [if_pos (by rw [names_len]; omega), decide_eq_false (by omega), stop]
          · rw [if_neg (by rw [names_len]; omega), stop]
        · obtain ⟨g, rfl, hg⟩ := hfuel f hf
          rw [hd, dirE, if_neg hc1, Es.nodes, List.append_nil]
    · refine ⟨acc, ?_, fun f hf => ?_⟩
      · rw [shelfmarklaw10_dir.l0, show wrap64 ((i : Int) + 2) = ((i + 2 : Nat) : Int) from I2.out]
        rw [if_neg (by omega), stop]
      · rw [dirE_short _ _ _ _ _ _ (by rw [List.length_drop, us_len]; omega), Es.nodes, List.append_nil]
end Go.Proofs.Ytncokgdfkbgflaa

namespace Go.Proofs.Ytncokgdfkbgflaa
set_option linter.unusedVariables false
set_option linter.unusedSimpArgs false
open Go.RowKit Go.Proofs.YtncokgdfkbgflaaW.PrintWords Go.Proofs.YtncokgdfkbgflaaW.PrintMore P
theorem dirf_root (texts : List ByteArray) (htx : ∀ t ∈ texts, t.size ≤ 1000000) (ns : List Int) (hns : isB ns) (hL : ns.length < 1000000000000000) (k : Nat) (hk : 10 * ns.length + 60 ≤ k) (root : S37) (h0 : nd root = ⟨[], 4, []⟩) :
    ∃ r, shelfmarklaw10_dir.f k [root] (⟨#[]⟩ : ByteArray) ns texts 0 = some r ∧ nds r = Tr.nodes [] (.dir (dirE (strsOf texts) ns.length (us ns) 0 0 1)) := by
  obtain ⟨k, rfl⟩ : ∃ g, k = g + 1 := ⟨k - 1, by omega⟩
  obtain ⟨r, hr, hrl⟩ := dirN_rounds texts htx ns.length hL ns.length ns (⟨#[]⟩ : ByteArray) 0 0 0 k [root] (by omega) (by omega) hns (Nat.le_refl _) (by decide) (by decide) (by decide) (by simp) (by omega)
  refine ⟨r, hr, ?_⟩
  have h := hrl ns.length (by omega)
  rw [h, Tr.nodes]
  show [nd root] ++ _ = _
  rw [h0]
  rfl
theorem tree_f (ns : List Int) (texts : List ByteArray) (htx : ∀ t ∈ texts, t.size ≤ 1000000) (hns : isB ns) (hL : ns.length < 1000000000000000) (k : Nat) (hk : 10 * ns.length + 70 ≤ k) :
    ∃ r, shelfmarklaw10_Tree.f k ns texts = some r ∧ nds r = (treeOf (us ns) (strsOf texts)).nodes [] := by
  unfold shelfmarklaw10_Tree.f
  obtain ⟨t, ht, htl, htm⟩ := textf texts 0
  have e0 : ((0 : Nat) : Int) = 0 := rfl
  rw [e0] at ht
  have hts : t.size ≤ 1000000 := by
    rcases htm with rfl | h
    · decide
    · exact htx t h
  cases ns with
  | nil =>
    rw [if_pos (by decide), ht]
    refine ⟨_, rfl, ?_⟩
    show [Nd.mk [] 1 t.data.toList] = _
    rw [htl]
    show _ = (treeOf [] (strsOf texts)).nodes []
    rw [treeOf, Tr.nodes]
  | cons x rest =>
    obtain ⟨a, ra, hd⟩ := us_at (x :: rest) 0 (by simp) hns
    rw [e0] at ra
    have hus : us (x :: rest) = a :: (us (x :: rest)).drop 1 := by rw [List.drop_zero] at hd; exact hd
    have hlen : (us (x :: rest)).length = (x :: rest).length := us_len _
    have b1 : a.toNat % 5 < 5 := Nat.mod_lt _ (by decide)
    have W := Aside0.mk (wrap_add2 1 (a.toNat % 5) (by omega))
    obtain ⟨k, rfl⟩ : ∃ g, k = g + 2 := ⟨k - 2, by omega⟩
    have hp : 0 < ((x :: rest).length : Int) := by simp
    have hn : ¬ ((x :: rest).length : Int) = 0 := by omega
    rw [if_neg hn, if_pos hp, ra, wrapb, show Int.tmod (a.toNat : Int) 5 = ((a.toNat % 5 : Nat) : Int) from tmodb a.toNat 5, show wrap64 (1 + ((a.toNat % 5 : Nat) : Int)) = ((1 + a.toNat % 5 : Nat) : Int) from W.out]
    have root4 : nd (⟨(⟨#[]⟩ : ByteArray), 4, (⟨#[]⟩ : ByteArray)⟩ : S37) = ⟨[], 4, []⟩ := rfl
    obtain ⟨r, hr, hrl⟩ := dirf_root texts htx (x :: rest) hns hL k (by omega) _ root4
    have j4 : shelfmarklaw10_Tree.j1 (k + 1) (x :: rest) texts (⟨#[]⟩ : ByteArray) 4 (⟨#[]⟩ : ByteArray) = some r := by
      rw [shelfmarklaw10_Tree.j1]
      simp only [Option.bind_some]
      rw [if_neg (by decide), if_pos trivial, hr]
      rfl
    have dirt : (a.toNat % 5 = 4 ∨ 3 < (x :: rest).length ∨ a.toNat % 5 = 3) → nds r = (treeOf (us (x :: rest)) (strsOf texts)).nodes [] := by
      intro h
      rw [hrl]
      conv => rhs; rw [hus]
      rw [treeOf, ← hus, hlen, if_pos h]
    by_cases h4 : a.toNat % 5 = 4
    · rw [if_pos (by omega), shelfmarklaw10_Tree.j0, if_pos rfl, j4]
      exact ⟨r, rfl, dirt (.inl h4)⟩
    · rw [if_neg (by omega)]
      by_cases hl3 : 3 < (x :: rest).length
      · rw [decide_eq_true (by omega), shelfmarklaw10_Tree.j0, if_pos rfl, j4]
        exact ⟨r, rfl, dirt (.inr (.inl hl3))⟩
      · rw [decide_eq_false (by omega), shelfmarklaw10_Tree.j0, if_neg (by decide)]
        by_cases h3 : a.toNat % 5 = 3
        · rw [h3]
          have : shelfmarklaw10_Tree.j1 (k + 1) (x :: rest) texts (⟨#[]⟩ : ByteArray) ((1 + 3 : Nat) : Int) (⟨#[]⟩ : ByteArray) = some r := j4
          rw [this]
          exact ⟨r, rfl, dirt (.inr (.inr h3))⟩
        · have hnd : ¬ (a.toNat % 5 = 4 ∨ 3 < (x :: rest).length ∨ a.toNat % 5 = 3) := by omega
          have ht2 : treeOf (us (x :: rest)) (strsOf texts) = if a.toNat % 5 = 2 then .leaf 3 [116, 111] else .leaf (1 + (a.toNat % 5 : Nat)) (116 :: textAt (strsOf texts) 0) := by
            conv => lhs; rw [hus]
            rw [treeOf, ← hus, hlen, if_neg hnd]
          rw [ht2, shelfmarklaw10_Tree.j1]
          simp only [Option.bind_some]
          by_cases h2 : a.toNat % 5 = 2
          · rw [if_pos (by omega), if_pos (by simp), if_pos h2, h2]
            refine ⟨_, rfl, ?_⟩
            rw [Tr.nodes]
            rfl
          · rw [if_neg (by omega), if_neg (by omega), if_neg h2, ht]
            simp only [Option.bind_some]
            rw [if_pos (by omega), if_pos (by simp)]
            refine ⟨_, rfl, ?_⟩
            rw [Tr.nodes]
            show [Nd.mk [] ((1 + a.toNat % 5 : Nat) : Int) ((⟨#[116]⟩ : ByteArray) ++ t).data.toList] = _
            rw [cat_list, htl]
            rfl
mutual
theorem Tr.path_le : ∀ (t : Tr) (d : Nat) (p : List UInt8), t.ok d = true → d ≤ 64 → ∀ n ∈ t.nodes p, n.path.length ≤ p.length + (64 - d) * 256
  | .leaf k x, d, p, h, hd, n, hn => by
    rw [Tr.nodes] at hn
    rw [List.mem_singleton.1 hn]
    show p.length ≤ _
    omega
  | .dir es, d, p, h, hd, n, hn => by
    rw [Tr.nodes] at hn
    rw [Tr.ok] at h
    rcases List.mem_cons.1 hn with rfl | hn
    · show p.length ≤ _
      omega
    · exact Es.path_le es d [] p h hd n hn
theorem Es.path_le : ∀ (es : Es) (d : Nat) (last p : List UInt8), es.ok d last = true → d ≤ 64 → ∀ n ∈ es.nodes p, n.path.length ≤ p.length + (64 - d) * 256
  | .nil, d, last, p, h, hd, n, hn => by rw [Es.nodes] at hn; simp at hn
  | .cons nm t es, d, last, p, h, hd, n, hn => by
    rw [Es.nodes] at hn
    rw [Es.ok] at h
    simp only [Bool.and_eq_true, decide_eq_true_eq] at h
    obtain ⟨h1, _, h3, h4, h5⟩ := h
    rcases List.mem_append.1 hn with hn | hn
    · have h6 := Tr.path_le t (d + 1) (headOf p ++ nm) h4 (by omega) n hn
      have h7 : nm.length ≤ 255 := by
        unfold mayName at h1
        simp only [Bool.and_eq_true, decide_eq_true_eq] at h1
        exact h1.2.1
      have h8 : (headOf p).length ≤ p.length + 1 := by
        unfold headOf
        split
        · simp
        · rw [List.length_append]; exact Nat.le_refl _
      rw [List.length_append] at h6
      have h9 : (64 - d) * 256 = (64 - (d + 1)) * 256 + 256 := by omega
      omega
    · exact Es.path_le es d nm p h5 hd n hn
end
theorem strsB_mod : ∀ l : List (List UInt8), (strsB l).length % 8 = 0
  | [] => rfl
  | s :: l => by
    have h1 := strB_mod s
    have h2 := strsB_mod l
    rw [strsB, List.length_append]; omega
theorem leafB_mod (n : Nd) : (leafB n).length % 8 = 0 := by
  unfold leafB
  split
  · exact strsB_mod _
  · split
    · exact strsB_mod _
    · exact strsB_mod _
mutual
theorem Tr.enc_mod : ∀ t : Tr, t.enc.length % 8 = 0
  | .leaf k x => by
    have h1 := strsB_mod [wOpen, wType]
    have h2 := leafB_mod ⟨[], k, x⟩
    have h3 := strsB_mod [wShut]
    rw [Tr.enc]
    simp only [List.length_append]; omega
  | .dir es => by
    have h1 := strsB_mod [wOpen, wType]
    have h2 := Es.enc_mod es
    have h3 := strsB_mod [wShut]
    have h4 := strsB_mod [wDir]
    rw [Tr.enc]
    simp only [List.length_append]; omega
theorem Es.enc_mod : ∀ es : Es, es.enc.length % 8 = 0
  | .nil => rfl
  | .cons nm t es => by
    have h1 := strsB_mod [wEntry, wOpen, wName, nm, wNode]
    have h2 := Tr.enc_mod t
    have h3 := strsB_mod [wShut]
    have h4 := Es.enc_mod es
    rw [Es.enc, entryB]
    simp only [List.length_append]; omega
end
end Go.Proofs.Ytncokgdfkbgflaa

namespace Go.Proofs.Ytncokgdfkbgflaa.Pure
set_option linter.unusedVariables false
set_option linter.unusedSimpArgs false
open Go.RowKit Go.Proofs.Ytncokgdfkbgflaa Go.Proofs.Ytncokgdfkbgflaa.P Go.Proofs.YtncokgdfkbgflaaW.PrintWords Go.Proofs.YtncokgdfkbgflaaW.PrintMore
theorem made_awake (k : Nat) (hk : 1000 ≤ k) : shelfmarklaw10_awake.f k = some true := by
  obtain ⟨k, rfl⟩ : ∃ g, k = g + 9 := ⟨k - 9, by omega⟩
  exact awake_true k
theorem strsOf_le {texts : List ByteArray} {M : Nat} (h : ∀ t ∈ texts, t.size ≤ M) : ∀ t ∈ strsOf texts, t.length ≤ M := by
  intro t ht
  obtain ⟨s, hs, rfl⟩ := List.mem_map.1 ht
  have := h s hs
  rw [Lib.size_eq] at this
  exact this
theorem made_main (ns : List Int) (texts : List ByteArray) (htx : ∀ t ∈ texts, t.size ≤ 300) (hns : isB ns) (hL : ns.length < 1000000000000000) (k : Nat) (hk : 10 * ns.length + 2000000 ≤ k) (i : Int) (hi : ¬ i < (texts.length : Int)) :
    shelfmarklaw10_NarMade.l0 (k + 1) ns texts i = some true := by
  obtain ⟨l, hl, hln⟩ := tree_f ns texts (fun t ht => by have := htx t ht; omega) hns hL k (by omega)
  have hok := treeOf_ok (us ns) (strsOf texts) (strsOf_le (fun t ht => by have := htx t ht; omega))
  have hsz := treeOf_size (us ns) (strsOf texts)
  generalize treeOf (us ns) (strsOf texts) = t at hln hok hsz
  have hmay : May (nds l) = true := by rw [hln]; exact tree_may t hok (by omega)
  have hp : ∀ x ∈ l, x.f0.size ≤ 1048576 := by
    intro x hx
    have h1 : nd x ∈ t.nodes [] := by rw [← hln]; exact List.mem_map.2 ⟨x, hx, rfl⟩
    have h2 := Tr.path_le t 0 [] hok (by omega) (nd x) h1
    have h3 : x.f0.data.toList.length ≤ ([] : List UInt8).length + (64 - 0) * 256 := h2
    rw [Lib.size_eq]
    rw [List.length_nil] at h3
    omega
  have hlen : l.length = t.size := by rw [← nds_len, hln, Tr.nodes_length]
  have hT := tame_all l (fun x hx => by have := hp x hx; omega)
  have hpk : packN l.length (nds l) 0 = t.enc := by
    have := packN_tree t hok
    rw [← hln, nds_len] at this
    exact this
  have hmod : ((bs (strB wMark ++ t.enc)).size : Int) % 8 = 0 := by
    have h1 := Tr.enc_mod t
    have h2 := strB_mod wMark
    rw [bs_size, List.length_append]; omega
  rw [shelfmarklaw10_NarMade.l0, if_neg hi, hl]
  simp only [Option.bind_some]
  rw [pack_is l hT hp, may_f l hT k (by omega), refPack_f l hp k (by omega), hmay, if_pos rfl, hpk, made_awake k (by omega)]
  simp only [Option.bind_some, if_true, shelfmarklaw1_Err.f]
  rw [if_pos hmod]
theorem made_rounds (ns : List Int) (texts : List ByteArray) (h8 : texts.length ≤ 8) (hns : isB ns) (hL : ns.length < 1000000000000000) : ∀ (m i k : Nat), texts.length - i ≤ m → i ≤ texts.length → (∀ j (hj : j < texts.length), j < i → texts[j].size ≤ 300) → m + 10 * ns.length + 2000010 ≤ k →
    shelfmarklaw10_NarMade.l0 k ns texts (i : Int) = some true := by
  intro m
  induction m with
  | zero =>
    intro i k h1 h2 hs hk
    obtain ⟨k, rfl⟩ : ∃ g, k = g + 1 := ⟨k - 1, by omega⟩
    refine made_main ns texts (fun t ht => ?_) hns hL k (by omega) i (by omega)
    obtain ⟨j, hj, rfl⟩ := List.getElem_of_mem ht
    exact hs j hj (by omega)
  | succ m ih =>
    intro i k h1 h2 hs hk
    by_cases hi : i < texts.length
    · obtain ⟨k, rfl⟩ : ∃ g, k = g + 1 := ⟨k - 1, by omega⟩
      have e : rdOf ByteArray.empty texts (i : Int) = texts[i] := by simp [rdOf, List.getD_eq_getElem?_getD, List.getElem?_eq_getElem hi]
      rw [shelfmarklaw10_NarMade.l0, if_pos (by omega), if_pos (by omega), e]
      by_cases h3 : texts[i].size ≤ 300
      · rw [if_neg (by omega), wrap_up i (by omega)]
        refine ih (i + 1) k (by omega) (by omega) (fun j hj hij => ?_) (by omega)
        by_cases ej : j = i
        · subst ej; exact h3
        · exact hs j hj (by omega)
      · rw [if_pos (by omega), made_awake k (by omega)]
        rfl
    · exact ih i k (by omega) h2 hs (by omega)
theorem NarMade (ns : List Int) (texts : List ByteArray) (hw : (∀ y ∈ ns, 0 ≤ y ∧ y < 256) ∧ ns.length ≤ 140737488355328) : ∃ k, shelfmarklaw10_NarMade.f k ns texts = some true := by
  refine ⟨10 * ns.length + 3000000, ?_⟩
  unfold shelfmarklaw10_NarMade.f
  by_cases h8 : texts.length ≤ 8
  · rw [if_neg (by omega)]
    exact made_rounds ns texts h8 hw.1 (by omega) texts.length 0 _ (by omega) (by omega) (fun j hj h => by omega) (by omega)
  · rw [if_pos (by omega), made_awake _ (by omega)]
    rfl
end Go.Proofs.Ytncokgdfkbgflaa.Pure

namespace Go.Proofs.Ytncokgdfkbgflaa
open Go.RowKit Go.ChangeShapes Go.Deep Go.Proofs.YtncokgdfkbgflaaW.PrintWords P
set_option linter.unusedVariables false
set_option linter.unusedSimpArgs false
section
variable {H : Type} {enc : TypeId × Value → H} {w : World} {base : Nat} {spare : Nat → Bool} {held : Bool}
theorem Kd.C_none {α : Type} (d : Kd α) (w : World) : Kd.C d w none ([] : List α).length [] := ⟨rfl, by simp, fun h => absurd h (by simp)⟩
theorem map_range_get {α : Type} {len j : Nat} {Y : Nat → α} {p : α} (hp : ((List.range len).map Y)[j]? = some p) : j < len ∧ Y j = p := by
  rw [List.getElem?_map] at hp
  obtain ⟨q, hq, hq2⟩ := Option.map_eq_some_iff.1 hp
  obtain ⟨hlt, hq3⟩ := List.getElem?_eq_some_iff.1 hq
  rw [List.getElem_range] at hq3
  subst hq3
  exact ⟨by simpa using hlt, hq2⟩
set_option maxRecDepth 100000 in
theorem open_nodes {fuel : Nat} {a : Option Addr} {len cap : Nat} {x : DataW H × List MemPlace} (h : DataW.trod enc Try.prog w base spare held fuel 25 [.slice a len cap] = some x) :
    ∃ l : List S37, l.length = len ∧ len ≤ cap ∧ Kd.C k37 w a l.length l := by
  rcases open_slice Try.underlying25 h with ⟨h0, _⟩ | ⟨ad, len', cap', m, n, D, Pl, hcs, hb, hl, hm, hmm, _, hx⟩
  · simp only [List.cons.injEq, Value.slice.injEq, and_true] at h0
    obtain ⟨rfl, rfl, rfl⟩ := h0
    exact ⟨[], rfl, Nat.le_refl _, Kd.C_none _ _⟩
  · simp only [List.cons.injEq, Value.slice.injEq, and_true] at hcs
    obtain ⟨rfl, rfl, rfl⟩ := hcs
    have ce : Try.prog.cellsOf 37 = 3 := by kernel_rfl
    have c0 : Try.prog.cellsOf 9 = 1 := by kernel_rfl
    have c1 : Try.prog.cellsOf 3 = 1 := by kernel_rfl
    have hlm : len ≤ m := by rw [hmm]; split <;> omega
    have each : ∀ i, i < len → ∃ y : S37, w.cell? (ad.add (i * 3)) = some (.string y.f0) ∧ w.cell? (ad.add (i * 3 + 1)) = some (.int .i64 y.f1) ∧ w.cell? (ad.add (i * 3 + 2)) = some (.string y.f2) := by
      intro i hi
      obtain ⟨cs', h1, h2⟩ := hx i (by omega)
      rw [ce] at h1
      obtain ⟨_, hlen, hcell⟩ := World.cells?_some h1
      obtain ⟨xs, k, hk, hxy, _, hxl, hf⟩ := DataW.trod_struct Try.underlying37 h2
      match xs, hxl, cs', hlen with
      | [y0, y1, y2], _, [v0, v1, v2], _ =>
        have g0 := hf 0 _ rfl
        have g1 := hf 1 _ rfl
        have g2 := hf 2 _ rfl
        simp [c0, c1] at g0 g1 g2
        obtain ⟨s0, e0, _, _⟩ := DataW.trod_string Try.underlying9 g0
        obtain ⟨n1, e1, _, _⟩ := DataW.trod_int Try.underlying3 g1
        obtain ⟨s2, e2, _, _⟩ := DataW.trod_string Try.underlying9 g2
        have q0 := hcell 0 (by omega)
        have q1 := hcell 1 (by omega)
        have q2 := hcell 2 (by omega)
        rw [Deep.add_add] at q0 q1 q2
        simp only [List.cons.injEq, and_true] at e0 e1 e2
        subst e0 e1 e2
        exact ⟨⟨s0, n1, s2⟩, by simpa using q0, by simpa using q1, by simpa using q2⟩
    have : Inhabited S37 := ⟨z37⟩
    obtain ⟨Y, hY⟩ := choose_lt each
    refine ⟨(List.range len).map Y, by simp, hl, by simp, by simp only [List.length_map, List.length_range]; have : cap ≤ maxLen := hm; unfold maxLen at this; omega, fun _ => ⟨ad, rfl, fun j p hp => ?_⟩⟩
    obtain ⟨hj, rfl⟩ := map_range_get hp
    obtain ⟨q0, q1, q2⟩ := hY j hj
    refine ⟨_, rfl, k37_mk w (Y j), fun i u hu => ?_⟩
    match i, hu with
    | 0, hu => rw [show u = .string (Y j).f0 from by simpa using hu.symm]; exact q0
    | 1, hu => rw [show u = .int .i64 (Y j).f1 from by simpa using hu.symm]; exact q1
    | 2, hu => rw [show u = .string (Y j).f2 from by simpa using hu.symm]; exact q2
    | i + 3, hu => simp at hu
set_option maxRecDepth 100000 in
theorem open_texts {fuel : Nat} {a : Option Addr} {len cap : Nat} {x : DataW H × List MemPlace} (h : DataW.trod enc Try.prog w base spare held fuel 23 [.slice a len cap] = some x) :
    ∃ l : List ByteArray, l.length = len ∧ len ≤ cap ∧ Kd.C Kd.string w a l.length l := by
  rcases open_strs Try.underlying23 Try.underlying9 (by kernel_rfl) h with ⟨h0, _⟩ | ⟨ad, len', cap', m, Sx, hcs, hb, hl, hm, hmm, _, hx⟩
  · simp only [List.cons.injEq, Value.slice.injEq, and_true] at h0
    obtain ⟨rfl, rfl, rfl⟩ := h0
    exact ⟨[], rfl, Nat.le_refl _, Kd.C_none _ _⟩
  · simp only [List.cons.injEq, Value.slice.injEq, and_true] at hcs
    obtain ⟨rfl, rfl, rfl⟩ := hcs
    have hlm : len ≤ m := by rw [hmm]; split <;> omega
    refine ⟨(List.range len).map Sx, by simp, hl, by simp, by simp only [List.length_map, List.length_range]; have : cap ≤ maxLen := hm; unfold maxLen at this; omega, fun _ => ⟨ad, rfl, fun j p hp => ?_⟩⟩
    obtain ⟨hj, rfl⟩ := map_range_get hp
    refine ⟨[.string (Sx j)], rfl, rfl, fun i u hu => ?_⟩
    match i, hu with
    | 0, hu =>
      rw [show u = .string (Sx j) from by simpa using hu.symm]
      show w.cell? (ad.add (j * 1 + 0)) = _
      rw [Nat.mul_one, Nat.add_zero]
      exact (hx j (by omega)).1
    | i + 1, hu => simp at hu
set_option maxRecDepth 100000 in
theorem open_bytes {fuel : Nat} {a : Option Addr} {len cap : Nat} {x : DataW H × List MemPlace} (h : DataW.trod enc Try.prog w base spare held fuel 22 [.slice a len cap] = some x) :
    ∃ l : List Int, l.length = len ∧ len ≤ cap ∧ Kd.C (Kd.int .u8) w a l.length l ∧ ∀ y ∈ l, 0 ≤ y ∧ y < 256 := by
  rcases open_slice1 Try.underlying22 (by kernel_rfl) h with ⟨h0, _⟩ | ⟨ad, len', cap', m, n, V, D, Pl, hcs, hb, hl, hm, hmm, _, hx⟩
  · simp only [List.cons.injEq, Value.slice.injEq, and_true] at h0
    obtain ⟨rfl, rfl, rfl⟩ := h0
    exact ⟨[], rfl, Nat.le_refl _, Kd.C_none _ _, fun y hy => by simp at hy⟩
  · simp only [List.cons.injEq, Value.slice.injEq, and_true] at hcs
    obtain ⟨rfl, rfl, rfl⟩ := hcs
    have hlm : len ≤ m := by rw [hmm]; split <;> omega
    have each : ∀ i, i < len → ∃ y : Int, w.cell? (ad.add i) = some (.int .u8 y) ∧ 0 ≤ y ∧ y < 256 := by
      intro i hi
      obtain ⟨h1, h2⟩ := hx i (by omega)
      obtain ⟨y, e, _, hw⟩ := DataW.trod_int Try.underlying5 h2
      simp only [List.cons.injEq, and_true] at e
      rw [e] at h1
      refine ⟨y, h1, ?_⟩
      simp [Lit.wf, IntKind.min, IntKind.max, IntKind.signed, IntKind.bits] at hw
      omega
    obtain ⟨Y, hY⟩ := choose_lt each
    refine ⟨(List.range len).map Y, by simp, hl, ⟨by simp, by simp only [List.length_map, List.length_range]; have : cap ≤ maxLen := hm; unfold maxLen at this; omega, fun _ => ⟨ad, rfl, fun j p hp => ?_⟩⟩, ?_⟩
    · obtain ⟨hj, rfl⟩ := map_range_get hp
      refine ⟨[.int .u8 (Y j)], rfl, rfl, fun i u hu => ?_⟩
      match i, hu with
      | 0, hu =>
        rw [show u = .int .u8 (Y j) from by simpa using hu.symm]
        show w.cell? (ad.add (j * 1 + 0)) = _
        rw [Nat.mul_one, Nat.add_zero]
        exact (hY j hj).1
      | i + 1, hu => simp at hu
    · intro y hy
      obtain ⟨j, hj, rfl⟩ := List.mem_map.1 hy
      exact (hY j (List.mem_range.1 hj)).2
end
end Go.Proofs.Ytncokgdfkbgflaa

namespace Go.Proofs.YtncokgdfkbgflaaW.PrintWords
open Go.ChangeShapes Go.WideShapes
theorem sized_ints {H : Type} {enc : TypeId × Value → H} {P : Program} {W : World} {base : Nat} {spare : Nat → Bool} {held : Bool} {t e : TypeId} {k : IntKind} {a : Option Addr} {len cap : Nat} {d : DataW H} {ps : List MemPlace} {ts : List TypeId} {ds : List (DataW H)} {j : Nat}
    (hsz : (DataW.weightsEach P ts ds).all (· ≤ reachBytes) = true) (ht : ts[j]? = some t) (hd : ds[j]? = some d) (hu : P.underlying t = some (.slice e)) (he : P.underlying e = some (.int k)) (hc : P.cellsOf e = 1) {B : Nat} (hB : P.bytesOf e = B)
    (h : DataW.Trod enc P W base spare held t (.slice a len cap) d ps) : len * B ≤ 140737488351232 := by
  obtain ⟨fuel, hf⟩ := h
  rcases open_ints hu he hc hf with ⟨hcs, _⟩ | ⟨x, l, c, zs, hcs, _, hl, _, hz, hx, _, _⟩
  · simp [Value.cells] at hcs
    obtain ⟨rfl, rfl, rfl⟩ := hcs
    simp
  · simp [Value.cells] at hcs
    obtain ⟨rfl, rfl, rfl⟩ := hcs
    obtain ⟨hx, _⟩ := Prod.mk.inj hx
    subst hx
    have z := sized_slice hsz ht hd hu
    rw [hB] at z
    have hl2 : len ≤ zs.length := by
      rw [hz]
      split
      · exact hl
      · exact Nat.le_refl _
    have h1 : (lits (H := H) k (zs.take len)).length + (lits (H := H) k (zs.drop len)).length = zs.length := by
      simp [lits]
      omega
    rw [h1] at z
    exact Nat.le_trans (Nat.mul_le_mul_right _ hl2) z
end Go.Proofs.YtncokgdfkbgflaaW.PrintWords
