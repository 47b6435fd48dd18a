/- What nar.May answers, in plain words. -/
/- HOMES: nar_May nar_MayName -/
import Derived.Test.YtncokgdfkbgflaaPx8
import Derived.Test.YtncokgdfkbgflaaPx9
import Derived.Test.YtncokgdfkbgflaaS3
import Derived.Test.YtncokgdfkbgflaaG10
namespace Go.Proofs.Ytncokgdfkbgflaa
set_option linter.unusedVariables false
set_option linter.unusedSimpArgs false
open Go.RowKit Go.Proofs.YtncokgdfkbgflaaW.PrintWords Go.Proofs.YtncokgdfkbgflaaW.PrintMore P

/-- What the walk of strings.ContainsAny knows of a text. -/
def Tame (s : List UInt8) : Prop := 8 < s.length ∨ (s.all fun b => decide (b.toNat < 128)) = true

theorem mayName_f (s : ByteArray) (h : Tame s.data.toList) : nar_MayName.f s = some (mayName s.data.toList) := by
  unfold nar_MayName.f mayName
  rw [toList_data]
  by_cases h0 : s.data.toList = []
  · rw [if_pos h0, h0]; rfl
  · rw [if_neg h0]
    have h1 : (s.data.toList == []) = false := beq_eq_false_iff_ne.2 h0
    rw [h1]
    by_cases h2 : (s.size : Int) ≤ 255
    · rw [if_pos h2]
      have h3 : s.data.toList.length ≤ 255 := by rw [← Lib.size_eq]; omega
      have h4 : strings_ContainsAny.f s ⟨#[0, 47]⟩ = some (hasSep s.data.toList) := by
        unfold strings_ContainsAny.f
        rw [if_pos ⟨rfl, by omega, by rw [Lib.size_eq]; exact h⟩]
      rw [h4, decide_eq_true h3]
      simp only [Option.bind_some]
      cases hasSep s.data.toList with
      | true => simp
      | false =>
        by_cases h5 : s.data.toList = [46]
        · simp [h5]
        · simp [h5, bne]
    · rw [if_neg h2]
      have h3 : ¬ s.data.toList.length ≤ 255 := by rw [← Lib.size_eq]; omega
      rw [decide_eq_false h3]
      simp

def lv (x : S74) : Lv := (x.f0.data.toList, x.f1.data.toList)
theorem idx_lv (a : ByteArray) : ∀ (l : List S74), idxOf (isLevel a) l = idxOf (fun x : Lv => x.1 == a.data.toList) (l.map lv)
  | [] => rfl
  | x :: l => by
    have ih := idx_lv a l
    have e : isLevel a x = ((lv x).1 == a.data.toList) := by simp [isLevel, lv, toList_data]
    simp only [idxOf, List.map_cons, ih, e]

theorem idxOf_lt {α : Type} (p : α → Bool) : ∀ (l : List α) (i : Nat), idxOf p l = i → i < l.length
  | [], i, h => by simp [idxOf] at h
  | x :: l, i, h => by
    have hg := idxOf_ge p l
    unfold idxOf at h
    rw [List.length_cons]
    split at h
    · omega
    · split at h
      · omega
      · have := idxOf_lt p l (i - 1) (by omega)
        omega

/-- nar.within, in plain words. -/
theorem within_f (op : List S74) (p : ByteArray) (hp : p.size < 4611686018427387904) :
    (∃ i nm, nar_within.f op p = some (i, nm, false) ∧ withinP (op.map lv) p.data.toList = none) ∨
    (∃ (i : Nat) (nm : ByteArray), i < op.length ∧ nar_within.f op p = some ((i : Int), nm, true) ∧ withinP (op.map lv) p.data.toList = some (i, nm.data.toList)) := by
  have key : ∀ (a nm : ByteArray), (∃ i nm', some (idxOf (isLevel a) op, nm, decide (0 ≤ idxOf (isLevel a) op)) = some (i, nm', false) ∧ (if idxOf (fun x : Lv => x.1 == a.data.toList) (op.map lv) < 0 then (none : Option (Nat × List UInt8)) else some ((idxOf (fun x : Lv => x.1 == a.data.toList) (op.map lv)).toNat, nm.data.toList)) = none) ∨
      (∃ (i : Nat) (nm' : ByteArray), i < op.length ∧ some (idxOf (isLevel a) op, nm, decide (0 ≤ idxOf (isLevel a) op)) = some ((i : Int), nm', true) ∧ (if idxOf (fun x : Lv => x.1 == a.data.toList) (op.map lv) < 0 then (none : Option (Nat × List UInt8)) else some ((idxOf (fun x : Lv => x.1 == a.data.toList) (op.map lv)).toNat, nm.data.toList)) = some (i, nm'.data.toList)) := by
    intro a nm
    rw [← idx_lv]
    by_cases h : 0 ≤ idxOf (isLevel a) op
    · right
      obtain ⟨i, hi⟩ := Int.eq_ofNat_of_zero_le h
      refine ⟨i, nm, idxOf_lt _ _ _ hi, ?_, ?_⟩
      · rw [decide_eq_true h, hi]
      · rw [if_neg (by omega), hi, Int.toNat_natCast]
    · left
      refine ⟨_, nm, by rw [decide_eq_false h], ?_⟩
      rw [if_pos (by omega)]
  unfold nar_within.f withinP
  rw [if_pos hp]
  have hz : p.data.size = p.data.toList.length := by simp
  rcases Lib.lastIndexByte_spec p 47 with ⟨h1, h2⟩ | ⟨i, hi, h1, h2, h3⟩
  · have hn : 47 ∉ p.data.toList := by
      intro hm
      obtain ⟨j, hj, hj2⟩ := List.getElem_of_mem hm
      have h4 := h2 j (by rw [Lib.size_eq]; exact hj)
      apply h4
      rw [getElem!_pos p.data j (by rw [hz]; exact hj)]
      have : p.data[j]'(by rw [hz]; exact hj) = 47 := by rw [← hj2]; simp
      rw [this]; rfl
    rw [cutSlash_none _ hn, if_pos (by omega)]
    exact key ⟨#[]⟩ p
  · have hi' : i < p.data.toList.length := by rw [← Lib.size_eq]; exact hi
    have e47 : p.data.toList[i] = 47 := by
      rw [getElem!_pos p.data i (by rw [hz]; exact hi')] at h2
      have : ((p.data.toList[i]).toNat : Int) = 47 := by simpa using h2
      apply UInt8.toNat_inj.mp
      show _ = 47
      omega
    have hn : 47 ∉ p.data.toList.drop (i + 1) := by
      intro hm
      obtain ⟨j, hj, hj2⟩ := List.getElem_of_mem hm
      rw [List.length_drop] at hj
      rw [List.getElem_drop] at hj2
      have h4 := h3 (i + 1 + j) (by omega) (by rw [Lib.size_eq]; omega)
      apply h4
      rw [getElem!_pos p.data (i + 1 + j) (by rw [hz]; omega)]
      have : p.data[i + 1 + j]'(by rw [hz]; omega) = 47 := by rw [← hj2]; simp
      rw [this]; rfl
    have hcut : cutSlash p.data.toList = some (p.data.toList.take i, p.data.toList.drop (i + 1)) := by
      have h5 := cutSlash_some (p.data.toList.take i) _ hn
      rw [← h5]
      congr 1
      conv => lhs; rw [← List.take_append_drop i p.data.toList]
      rw [List.drop_eq_getElem_cons hi', e47]
    rw [hcut, if_neg (by omega)]
    simp only
    by_cases hz0 : Lib.lastIndexByte p 47 = 0
    · rw [if_pos hz0]
      have : i = 0 := by omega
      subst this
      exact .inl ⟨0, ⟨#[]⟩, rfl, by simp⟩
    · rw [if_neg hz0, if_neg (by
        intro h6
        have h7 := congrArg List.length h6
        rw [List.length_take, List.length_nil] at h7
        omega), h1, Int.toNat_natCast]
      have ea : (p.extract 0 i).data.toList = p.data.toList.take i := by simp [ByteArray.data_extract]
      have eb : (p.extract (i + 1) p.size).data.toList = p.data.toList.drop (i + 1) := by
        rw [ByteArray.data_extract, Array.toList_extract, List.extract_eq_take_drop]
        exact List.take_of_length_le (by rw [List.length_drop, ← Lib.size_eq]; omega)
      have := key (p.extract 0 i) (p.extract (i + 1) p.size)
      rw [ea, eb] at this
      exact this

theorem le_step {op : List S74} {i : Nat} (hi : i < op.length) : (op.map lv).getD i ([], []) = lv op[i] := by
  simp [List.getD_eq_getElem?_getD, List.getElem?_eq_getElem hi]

set_option maxHeartbeats 400000 in
theorem j3_ok (k : Nat) (op : List S74) (i : Nat) (hi : i < op.length) (hop : op.length ≤ 1000001) (nm : ByteArray) (y : List S37) (L : Int) (j : Int) (x0 : ByteArray) (x1 : Int) (x2 : ByteArray) :
    nar_May.j3 (k + 1) op (i : Int) nm y L j false x0 x1 x2 = nar_May.l0 k ((op.take (i + 1)).set i ⟨op[i].f0, nm⟩ ++ (if x1 = 4 then [⟨x0, ⟨#[]⟩⟩] else [])) y L (wrap64 (j + 1)) := by
  have hwi : wrap64 ((i : Int) + 1) = ((i + 1 : Nat) : Int) := by unfold wrap64; omega
  have hlen : (op.take (i + 1)).length = i + 1 := by rw [List.length_take]; omega
  have c1 : (0 : Int) ≤ ((i + 1 : Nat) : Int) := by omega
  have c2 : ((i + 1 : Nat) : Int) ≤ (op.length : Int) := by omega
  have c3 : (0 : Int) ≤ (i : Int) := by omega
  unfold nar_May.j3
  rw [hwi, Int.toNat_natCast, Int.toNat_natCast, if_neg (by decide), if_pos c1, if_pos c2, Option.bind_some, if_pos c3, if_pos (by rw [hlen]; omega), Option.bind_some]
  rw [rd74_at _ i (by rw [hlen]; omega), List.getElem_take]
  by_cases h4 : x1 = 4
  · rw [if_pos h4, if_pos h4, if_pos (by rw [List.length_set, hlen]; omega)]
  · rw [if_neg h4, if_neg h4, List.append_nil]
theorem wrap_next (j : Nat) (h : j ≤ 1000000) : wrap64 ((j : Int) + 1) = ((j + 1 : Nat) : Int) := by unfold wrap64; omega
theorem next_len (op : List S74) (i j : Nat) (hi : i < op.length) (h : op.length ≤ j + 1) (z : S74) (x0 : ByteArray) (x1 : Int) : ((op.take (i + 1)).set i z ++ (if x1 = 4 then [(⟨x0, ⟨#[]⟩⟩ : S74)] else [])).length ≤ j + 1 + 1 := by
  rw [List.length_append, List.length_set, List.length_take]
  split
  · simp only [List.length_cons, List.length_nil]; omega
  · simp only [List.length_nil]; omega
theorem map_lv_next (op : List S74) (i : Nat) (hi : i < op.length) (nm x0 : ByteArray) (x1 : Int) : ((op.take (i + 1)).set i (⟨op[i].f0, nm⟩ : S74) ++ (if x1 = 4 then [(⟨x0, ⟨#[]⟩⟩ : S74)] else [])).map lv =
    ((op.map lv).take (i + 1)).set i ((lv op[i]).1, nm.data.toList) ++ (if x1 = 4 then [(x0.data.toList, [])] else []) := by
  rw [List.map_append, List.map_set, List.map_take]
  congr 1
  split <;> rfl

set_option maxHeartbeats 400000 in
/-- The rounds of nar.May, in plain words. -/
theorem may_rounds (y : List S37) (hy : y.length ≤ 1000000) (hs : ∀ x ∈ y, x.f0.size < 4611686018427387904 ∧ ∀ nm, (∃ a, cutSlash x.f0.data.toList = some (a, nm) ∨ nm = x.f0.data.toList) → Tame nm) :
    ∀ (m : Nat) (k j : Nat) (op : List S74), y.length - j ≤ m → j ≤ y.length → op.length ≤ j + 1 → 2 * m + 1 ≤ k → nar_May.l0 k op y (y.length : Int) (j : Int) = some (mayGo (op.map lv) ((nds y).drop j)) := by
  intro m
  induction m with
  | zero =>
    intro k j op h1 h2 h3 h4
    obtain ⟨k, rfl⟩ : ∃ k', k = k' + 1 := ⟨k - 1, by omega⟩
    have hj : j = y.length := by omega
    subst hj
    simp only [nar_May.l0]
    rw [if_neg (by omega), List.drop_eq_nil_of_le (by simp [nds])]
    rfl
  | succ m ih =>
    intro k j op h1 h2 h3 h4
    by_cases hj : j = y.length
    · subst hj
      obtain ⟨k, rfl⟩ : ∃ k', k = k' + 1 := ⟨k - 1, by omega⟩
      simp only [nar_May.l0]
      rw [if_neg (by omega), List.drop_eq_nil_of_le (by simp [nds])]
      rfl
    · obtain ⟨k, rfl⟩ : ∃ k', k = k' + 1 + 1 := ⟨k - 2, by omega⟩
      have hj : j < y.length := by omega
      obtain ⟨x, hx⟩ : ∃ x, x = y[j] := ⟨_, rfl⟩
      have hsx := hs x (by rw [hx]; exact List.getElem_mem hj)
      have hopl : op.length ≤ 1000001 := by omega
      have hjl : j ≤ 1000000 := by omega
      have hm1 : y.length - (j + 1) ≤ m := by omega
      have hj1 : j + 1 ≤ y.length := by omega
      have hk1 : 2 * m + 1 ≤ k := by omega
      have hdrop : (nds y).drop j = nd x :: (nds y).drop (j + 1) := by
        rw [List.drop_eq_getElem_cons (by simpa [nds] using hj)]
        congr 1
        simp [nds, hx]
      rw [hdrop, nar_May.l0, if_pos (by omega), if_pos (by omega), if_pos (by omega), rd37_at y j hj, ← hx]
      have hp : (nd x).path = x.f0.data.toList := rfl
      have hkd : (nd x).kind = x.f1 := rfl
      simp only [mayGo, mayStep, hp, hkd]
      rcases within_f op x.f0 hsx.1 with ⟨i, nm, e1, e2⟩ | ⟨i, nm, hi, e1, e2⟩
      · rw [e1, e2]
        simp only [Option.bind_some]
        rw [if_neg (by decide)]
        simp only [nar_May.j3]
        rw [if_pos (by simp)]
      · have htame : Tame nm.data.toList := by
          apply hsx.2
          unfold withinP at e2
          split at e2
          · split at e2
            · cases e2
            · rename_i hc _
              injection e2 with e2
              exact ⟨[], .inr (congrArg Prod.snd e2).symm⟩
          · rename_i a n hc
            split at e2
            · cases e2
            · split at e2
              · cases e2
              · injection e2 with e2
                refine ⟨a, .inl ?_⟩
                rw [hc, show nm.data.toList = n from (congrArg Prod.snd e2).symm]
        rw [e1, e2]
        simp only [Option.bind_some]
        rw [if_pos (by simp), mayName_f nm htame]
        simp only [Option.bind_some]
        have hlv := le_step hi
        rw [hlv]
        cases hmn : mayName nm.data.toList with
        | false =>
          rw [if_neg (by decide)]
          simp only [nar_May.j3, Bool.false_and]
          rw [if_pos (by simp)]
          simp
        | true =>
          rw [if_pos (by simp), if_pos (by omega), if_pos (by omega), rd74_at op i hi, toList_data, toList_data]
          have hl2 : (lv op[i]).2 = op[i].f1.data.toList := rfl
          rw [hl2]
          cases hcmp : (Op.bytesLess nm.data.toList op[i].f1.data.toList || nm.data.toList == op[i].f1.data.toList) with
          | true =>
            rw [if_pos (by simp)]
            simp only [nar_May.j3]
            rw [if_pos (by simp)]
            simp
          | false =>
            rw [if_neg (by decide)]
            have hge : decide ((i : Int) ≥ 64) = !decide (i < 64) := by
              rw [Bool.eq_iff_iff]; simp; omega
            rw [hge]
            cases h64 : decide (i < 64) with
            | false =>
              simp only [nar_May.j3]
              rw [if_pos (by simp)]
              simp
            | true =>
              have hwi : wrap64 ((i : Int) + 1) = ((i + 1 : Nat) : Int) := by unfold wrap64; omega
              rw [show (!true) = false from rfl, j3_ok k op i hi hopl, wrap_next j hjl, ih k (j + 1) _ hm1 hj1 (next_len op i j hi h3 _ _ _) hk1, map_lv_next op i hi]
              rfl

theorem okNode_nd (x : S37) : okNode x = okNd (nd x) := by
  have hs : x.f2.size = x.f2.data.toList.length := Lib.size_eq x.f2
  simp only [okNode, okNd, nd, hs]
  rfl

/-- What the walk of nar.May knows of nodes. -/
def TameAll (l : List S37) : Prop := ∀ x ∈ l, x.f0.size < 4611686018427387904 ∧ ∀ nm, (∃ a, cutSlash x.f0.data.toList = some (a, nm) ∨ nm = x.f0.data.toList) → Tame nm

theorem may_f0 (l : List S37) (hs : TameAll l) : nar_May.f (2 * l.length + 10) l = some (May (nds l)) := by
  unfold nar_May.f
  cases l with
  | nil => simp [nar_May.j0, nds, May]
  | cons x r =>
    have hlen : ((x :: r).length : Int) = (r.length : Int) + 1 := by simp
    have hnds : nds (x :: r) = nd x :: nds r := rfl
    have hnl : (nd x :: nds r).length = r.length + 1 := by simp [nds]
    rw [hnds, May, hnl, if_neg (by omega)]
    by_cases h256 : r.length + 1 ≤ 256
    · rw [decide_eq_true h256, if_neg (by omega), if_pos (by omega), show rd_T37 (x :: r) 0 = x from rfl, toList_data]
      have hp : (nd x).path = x.f0.data.toList := rfl
      have hkd : (nd x).kind = x.f1 := rfl
      rw [hp, hkd]
      by_cases h0 : x.f0.data.toList = []
      · have hall : containsMay1.f (x :: r) = some (!((nd x :: nds r).all okNd)) := by
          unfold containsMay1.f
          congr 1
          have : ∀ l : List S37, (l.any fun x => !okNode x) = !((nds l).all okNd) := by
            intro l
            induction l with
            | nil => rfl
            | cons y l ih =>
              show ((!okNode y) || (l.any fun x => !okNode x)) = !(okNd (nd y) && (nds l).all okNd)
              rw [ih, okNode_nd, Bool.not_and]
          exact this (x :: r)
        rw [if_pos h0, hall, h0]
        simp only [Option.bind_some]
        cases hok : (nd x :: nds r).all okNd with
        | false =>
          rw [show 2 * (x :: r).length + 10 = (2 * (x :: r).length + 9) + 1 from rfl]
          simp [nar_May.j0]
        | true =>
          have hgo := may_rounds r (by omega) (fun y hy => hs y (List.mem_cons_of_mem _ hy)) r.length (2 * (x :: r).length + 8) 0
          have hfuel : 2 * r.length + 1 ≤ 2 * (x :: r).length + 8 := by rw [List.length_cons]; omega
          rw [show 2 * (x :: r).length + 10 = (2 * (x :: r).length + 8) + 1 + 1 from rfl]
          simp only [nar_May.j0]
          rw [if_neg (by decide), if_pos (by omega), show rd_T37 (x :: r) 0 = x from rfl]
          have hz : ((0 : Nat) : Int) = 0 := rfl
          by_cases h4 : x.f1 = 4
          · rw [if_pos h4, if_pos (by decide), if_pos h4]
            have := hgo ([] ++ [(⟨⟨#[]⟩, ⟨#[]⟩⟩ : S74)]) (by omega) (by omega) (by simp) hfuel
            simp only [nar_May.j1]
            rw [if_pos (by omega)]
            simp only [Option.bind_some, List.drop_succ_cons, List.drop_zero]
            rw [hz] at this
            rw [this]
            rfl
          · rw [if_neg h4, if_neg h4]
            have := hgo [] (by omega) (by omega) (by simp) hfuel
            simp only [nar_May.j1]
            rw [if_pos (by omega)]
            simp only [Option.bind_some, List.drop_succ_cons, List.drop_zero]
            rw [hz] at this
            rw [this]
            rfl
      · rw [if_neg h0, beq_eq_false_iff_ne.2 h0, show 2 * (x :: r).length + 10 = (2 * (x :: r).length + 9) + 1 from rfl]
        simp [nar_May.j0]
    · rw [decide_eq_false h256, if_pos (by omega), show 2 * (x :: r).length + 10 = (2 * (x :: r).length + 9) + 1 from rfl]
      simp [nar_May.j0]
theorem may_f (l : List S37) (hs : TameAll l) (k : Nat) (hk : 2 * l.length + 10 ≤ k) : nar_May.f k l = some (May (nds l)) := leo_up (nar_May.mono l) (may_f0 l hs) k hk
theorem may_is (l : List S37) (hs : TameAll l) : mayC l = some (May (nds l)) := mayC_of (may_f0 l hs)

theorem cutSlash_mem : ∀ (l a n : List UInt8), cutSlash l = some (a, n) → ∀ b ∈ n, b ∈ l
  | [], a, n, h => by simp [cutSlash] at h
  | c :: l, a, n, h => by
    intro b hb
    unfold cutSlash at h
    split at h
    · rename_i a' n' h2
      injection h with h
      obtain rfl : n' = n := congrArg Prod.snd h
      exact List.mem_cons_of_mem _ (cutSlash_mem l a' n' h2 b hb)
    · split at h
      · injection h with h
        obtain rfl : l = n := congrArg Prod.snd h
        exact List.mem_cons_of_mem _ hb
      · cases h
/-- Paths of ASCII letters are tame. -/
theorem tame_ascii (l : List S37) (hs : ∀ x ∈ l, x.f0.size < 4611686018427387904) (ha : ∀ x ∈ l, ∀ b ∈ x.f0.data.toList, b.toNat < 128) : TameAll l := by
  intro x hx
  refine ⟨hs x hx, fun nm hnm => .inr ?_⟩
  rw [List.all_eq_true]
  intro b hb
  rw [decide_eq_true_eq]
  obtain ⟨a, h | h⟩ := hnm
  · exact ha x hx b (cutSlash_mem _ _ _ h b hb)
  · subst h; exact ha x hx b hb
end Go.Proofs.Ytncokgdfkbgflaa
