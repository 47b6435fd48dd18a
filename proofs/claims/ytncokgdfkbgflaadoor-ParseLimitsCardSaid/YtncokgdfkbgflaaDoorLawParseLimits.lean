/- ParseLimits: depths, data, nodes: as many as may be are read, more say nothing. -/
import Derived.Test.YtncokgdfkbgflaaDoorLimitsM4
import Derived.Test.YtncokgdfkbgflaaDoorLimitsM6
import Derived.Test.YtncokgdfkbgflaaDoorLimitsM5
import Derived.Test.YtncokgdfkbgflaaDoorLimitsM7
import Derived.KernelRfl
import Derived.Test.YtncokgdfkbgflaaDoorLimitsM8
import Derived.Test.YtncokgdfkbgflaaDoorRows
import Derived.WalkKit
import Derived.ProofKit
import Derived.OpenShut
import Derived.ShutString
import Derived.ChangeOld
import Derived.Below
import Derived.SizedLaws
import Derived.LaidMore
import Derived.Lay
import Derived.SevenTiedAt
import Derived.Stop.Joined
import Derived.Test.YtncokgdfkbgflaaDoorTie
import Derived.Test.YtncokgdfkbgflaaDoorCards
set_option linter.unusedVariables false
set_option linter.unusedSimpArgs false
namespace Go.Proofs.YtncokgdfkbgflaaDoor.P
open Go.RowKit Go.Proofs.YtncokgdfkbgflaaDoorW.PrintWords Go.Proofs.YtncokgdfkbgflaaDoorW.PrintLast Go.Proofs.YtncokgdfkbgflaaDoorW.PrintMore
attribute [local go_sem] max2_int min2_int max_two min_two max_three min_three max_four min_four   -- for this text's walks alone
set_option linter.unusedVariables false
set_option linter.unusedSimpArgs false
theorem eqA68 (d : Nat) (w : World) (x0 y0 : ByteArray) (x1 y1 : Int) (x2 y2 : ByteArray) :
    (Op.equalIn (d + 2) 68 (.agg #[.string x0, .int .i64 x1, .string x2]) (.agg #[.string y0, .int .i64 y1, .string y2])).run Tryd.prog w = .ok (x0.toList == y0.toList && (x1 == y1 && (x2.toList == y2.toList))) w := by
  refine eqA_of Tryd.underlying68 (by kernel_rfl) ?_
  refine eqf_cons (by rfl) (by go_simp; rfl) (by go_simp; rfl) (by go_simp) ?_
  refine eqf_cons (by rfl) (by go_simp; rfl) (by go_simp; rfl) (by go_simp) ?_
  exact eqf_last (by rfl) (by go_simp; rfl) (by go_simp; rfl) (by go_simp)
end Go.Proofs.YtncokgdfkbgflaaDoor.P

namespace Go.Proofs.YtncokgdfkbgflaaDoor.P
open Go.RowKit Go.Proofs.YtncokgdfkbgflaaDoorW.PrintWords Go.Proofs.YtncokgdfkbgflaaDoorW.PrintLast Go.Proofs.YtncokgdfkbgflaaDoorW.PrintMore
attribute [local go_sem] max2_int min2_int max_two min_two max_three min_three max_four min_four   -- for this text's walks alone
set_option linter.unusedVariables false
set_option linter.unusedSimpArgs false
attribute [local go_sem high] eqA68
def shelfmarkref10_Same.l0 : Nat → List (S68) → List (S68) → Int → Option (Bool)
  | 0, _, _, _ => none
  | k + 1, x0, x1, x5 => if x5 < (x0.length : Int) then (if 0 ≤ x5 then (if x5 < (x1.length : Int) then (if (!((((rd_T68 x0 x5).f0).toList) == (((rd_T68 x1 x5).f0).toList)) || (!(((rd_T68 x0 x5).f1) == ((rd_T68 x1 x5).f1)) || (!((((rd_T68 x0 x5).f2).toList) == (((rd_T68 x1 x5).f2).toList))))) = true then (some false) else (shelfmarkref10_Same.l0 k x0 x1 (wrap64 (x5 + 1)))) else (none)) else (none)) else (some true)
def shelfmarkref10_Same.f (k : Nat) (l0 : List (S68)) (l1 : List (S68)) : Option (Bool) := if (l0.length : Int) = (l1.length : Int) then (shelfmarkref10_Same.l0 k l0 l1 0) else (some false)
end Go.Proofs.YtncokgdfkbgflaaDoor.P

namespace Go.Proofs.YtncokgdfkbgflaaDoor
set_option linter.unusedVariables false
set_option linter.unusedSimpArgs false
open Go.RowKit Go.Proofs.YtncokgdfkbgflaaDoorW.PrintWords Go.Proofs.YtncokgdfkbgflaaDoorW.PrintMore P
theorem extract_list (s : ByteArray) (i j : Nat) : (s.extract i j).data.toList = (s.data.toList.drop i).take (j - i) := by
  rw [ByteArray.data_extract, Array.toList_extract, List.extract_eq_take_drop]
theorem hasPrefix_false {l p : List UInt8} (h : ¬ ∃ t, l = p ++ t) : Lib.hasPrefix l p = false := by
  cases hp : Lib.hasPrefix l p with
  | false => rfl
  | true => exact absurd ((hasPrefix_iff _ _).1 hp) h
theorem name_f (a b : ByteArray) (ha : a.size < 4611686018427387904) (hb : b.size < 4611686018427387904) (k : Nat) (hk : a.size + 2 ≤ k) : ∃ r, shelfmarkref10_name.f k a b = some r ∧ r.data.toList = refName a.data.toList b.data.toList := by
  have hza := Lib.size_eq a
  have hzb := Lib.size_eq b
  obtain ⟨k, rfl⟩ : ∃ g, k = g + 1 := ⟨k - 1, by omega⟩
  unfold shelfmarkref10_name.f
  rw [toList_data b, toList_data]
  by_cases h0 : b.data.toList = []
  · rw [if_pos h0]
    have e47 : shelfmarkref10_has.f (k + 1) a 47 = some (a.data.toList.contains 47) := has_f a 47 ha (k + 1) (by omega)
    rw [e47]
    simp only [Option.bind_some]
    have e : refName a.data.toList b.data.toList = if a.data.toList.contains 47 = true then [] else a.data.toList := by
      rw [h0, refName, show headOf [] = [] from rfl, if_pos (show Lib.hasPrefix a.data.toList [] = true from (hasPrefix_iff _ _).2 ⟨a.data.toList, rfl⟩)]
      rfl
    rw [e]
    split
    · exact ⟨_, rfl, rfl⟩
    · exact ⟨_, rfl, rfl⟩
  · rw [if_neg h0]
    have hpos : 0 < b.data.toList.length := Nat.pos_of_ne_zero (fun e => h0 (List.length_eq_zero_iff.1 e))
    have j1 : shelfmarkref10_name.j0 (k + 1) a b true = some (⟨#[]⟩ : ByteArray) := by rw [shelfmarkref10_name.j0, if_pos rfl]
    have e0 : Lib.hasPrefix a.data.toList (headOf b.data.toList) = false → refName a.data.toList b.data.toList = [] := refName_stop
    have hh : headOf b.data.toList = b.data.toList ++ [47] := by rw [headOf, if_neg h0]
    by_cases h1 : a.data.toList.length ≤ b.data.toList.length
    · rw [if_pos (by omega), j1]
      refine ⟨_, rfl, ?_⟩
      rw [e0 (hasPrefix_false (by
        rintro ⟨t, ht⟩
        have := congrArg List.length ht
        rw [hh, List.length_append, List.length_append] at this
        simp only [List.length_cons, List.length_nil] at this
        omega))]
    · rw [if_neg (by omega), if_pos (by omega), if_pos (by omega), Int.toNat_natCast, extract_list]
      have hx : ((a.data.toList.drop 0).take (b.size - 0)) = a.data.toList.take b.data.toList.length := by rw [List.drop_zero, hzb]; rfl
      rw [hx]
      by_cases h2 : a.data.toList.take b.data.toList.length = b.data.toList
      · rw [if_pos h2, if_pos (by omega), show ((b.size : Nat) : Int) = ((b.data.toList.length : Nat) : Int) by omega, bt_is a _ (by omega)]
        have hlt : b.data.toList.length < a.data.toList.length := by omega
        have hs : a.data.toList = b.data.toList ++ (a.data.toList[b.data.toList.length] :: a.data.toList.drop (b.data.toList.length + 1)) := by
          rw [← List.drop_eq_getElem_cons hlt]
          conv => lhs; rw [← List.take_append_drop b.data.toList.length a.data.toList]
          rw [h2]
        by_cases h3 : a.data.toList[b.data.toList.length] = 47
        · have e4 : ((((a.data.toList[b.data.toList.length]).toNat : Nat) : Int) != 47) = false := by rw [h3]; rfl
          rw [e4, shelfmarkref10_name.j0, if_neg (by decide), show wrap64 ((b.size : Int) + 1) = ((b.data.toList.length + 1 : Nat) : Int) by unfold wrap64; omega, if_pos (by omega), if_pos (by omega), Int.toNat_natCast]
          have hxl : (a.extract (b.data.toList.length + 1) a.size).data.toList = a.data.toList.drop (b.data.toList.length + 1) := by
            rw [extract_list]
            exact List.take_of_length_le (by rw [List.length_drop]; omega)
          have hxs : (a.extract (b.data.toList.length + 1) a.size).size ≤ a.size := by
            rw [Lib.size_eq, hxl, List.length_drop]; omega
          have e47 : shelfmarkref10_has.f k (a.extract (b.data.toList.length + 1) a.size) 47 = some ((a.data.toList.drop (b.data.toList.length + 1)).contains 47) := by
            rw [← hxl]
            exact has_f _ 47 (by omega) k (by omega)
          rw [e47]
          simp only [Option.bind_some]
          have hex : ∃ t, a.data.toList = (b.data.toList ++ [47]) ++ t := ⟨a.data.toList.drop (b.data.toList.length + 1), by
            rw [List.append_assoc]
            rw [h3] at hs
            exact hs⟩
          have e : refName a.data.toList b.data.toList = if (a.data.toList.drop (b.data.toList.length + 1)).contains 47 = true then [] else a.data.toList.drop (b.data.toList.length + 1) := by
            rw [refName, hh, if_pos ((hasPrefix_iff _ _).2 hex)]
            rw [List.length_append]
            rfl
          rw [e]
          split
          · exact ⟨_, rfl, rfl⟩
          · exact ⟨_, rfl, hxl⟩
        · have e4 : ((((a.data.toList[b.data.toList.length]).toNat : Nat) : Int) != 47) = true := by
            rw [bne_iff_ne]
            intro e
            apply h3
            apply UInt8.toNat_inj.mp
            show _ = 47
            omega
          rw [e4, j1]
          refine ⟨_, rfl, ?_⟩
          rw [e0 (hasPrefix_false (by
            rintro ⟨t, ht⟩
            apply h3
            rw [hh, List.append_assoc] at ht
            have e5 := hs.symm.trans ht
            have e6 := List.append_cancel_left e5
            injection e6))]
      · rw [if_neg h2, j1]
        refine ⟨_, rfl, ?_⟩
        rw [e0 (hasPrefix_false (by
          rintro ⟨t, ht⟩
          apply h2
          rw [ht, hh, List.append_assoc]
          exact List.take_left' rfl))]
theorem nds_drop (l : List S68) (i : Nat) (h : i < l.length) : (nds l).drop i = nd l[i] :: (nds l).drop (i + 1) := by
  have h1 : i < (nds l).length := by simp [nds]; exact h
  rw [List.drop_eq_getElem_cons h1]
  congr 1
  simp [nds]
theorem nds_len (l : List S68) : (nds l).length = l.length := by simp [nds]
theorem under_next (l : List S68) (m next B k : Nat) (hn : next < l.length) (a1 : l.length - (next + 1) ≤ m) (a3 : 3 * m + B + 8 ≤ k) (hnx : rd_T68 l (next : Int) = l[next])
    (ih : l[next].f1 = 4 → ∃ j : Nat, shelfmarkref10_under.l0 k l (next : Int) ((next + 1 : Nat) : Int) (⟨#[]⟩ : ByteArray) = some (j : Int) ∧ next + 1 ≤ j ∧ j ≤ l.length ∧ ∀ f, l.length - (next + 1) < f → (nds l).drop j = takeDir f l[next].f0.data.toList [] ((nds l).drop (next + 1))) :
    ∃ j : Nat, shelfmarkref10_under.l0 k l (next : Int) ((next + 1 : Nat) : Int) (⟨#[]⟩ : ByteArray) = some (j : Int) ∧ next + 1 ≤ j ∧ j ≤ l.length ∧ ∀ f, l.length - (next + 1) < f → (nds l).drop j = if l[next].f1 = 4 then takeDir f l[next].f0.data.toList [] ((nds l).drop (next + 1)) else (nds l).drop (next + 1) := by
  by_cases h5 : l[next].f1 = 4
  · obtain ⟨j, a, b, c, d⟩ := ih h5
    exact ⟨j, a, b, c, fun f hf => by rw [if_pos h5]; exact d f hf⟩
  · refine ⟨next + 1, ?_, Nat.le_refl _, hn, fun f hf => by rw [if_neg h5]⟩
    obtain ⟨k, rfl⟩ : ∃ g, k = g + 2 := ⟨k - 2, by omega⟩
    have h6 : (l[next].f1 == 4) = false := beq_eq_false_iff_ne.2 h5
    by_cases h7 : next + 1 < l.length
    · rw [shelfmarkref10_under.l0, if_pos (by omega), if_pos (by omega), if_pos (by omega), hnx, h6, shelfmarkref10_under.j1, if_neg (by decide)]
    · rw [shelfmarkref10_under.l0, if_neg (by omega), shelfmarkref10_under.j1, if_neg (by decide)]
theorem under_rounds (l : List S68) (B : Nat) (hB : B < 1000000000) (hl : l.length < 1000000000) (hs : ∀ x ∈ l, x.f0.size ≤ B) : ∀ (m next at_ : Nat) (last : ByteArray) (k : Nat), l.length - next ≤ m → next ≤ l.length → (ha : at_ < l.length) → 3 * m + B + 8 ≤ k → l[at_].f1 = 4 →
    ∃ j : Nat, shelfmarkref10_under.l0 k l (at_ : Int) (next : Int) last = some (j : Int) ∧ next ≤ j ∧ j ≤ l.length ∧ ∀ f, l.length - next < f → (nds l).drop j = takeDir f l[at_].f0.data.toList last.data.toList ((nds l).drop next) := by
  intro m
  induction m with
  | zero =>
    intro next at_ last k h1 h2 ha hk h4
    obtain ⟨k, rfl⟩ : ∃ g, k = g + 2 := ⟨k - 2, by omega⟩
    refine ⟨next, ?_, Nat.le_refl _, h2, ?_⟩
    · rw [shelfmarkref10_under.l0, if_neg (by omega), shelfmarkref10_under.j1, if_neg (by decide)]
    · intro f hf
      obtain ⟨f, rfl⟩ : ∃ g, f = g + 1 := ⟨f - 1, by omega⟩
      rw [List.drop_eq_nil_of_le (by rw [nds_len]; omega), takeDir]
  | succ m ih =>
    intro next at_ last k h1 h2 ha hk h4
    by_cases hn : next < l.length
    · obtain ⟨k, rfl⟩ : ∃ g, k = g + 3 := ⟨k - 3, by omega⟩
      have hat : rd_T68 l (at_ : Int) = l[at_] := rd68_at l at_ ha
      have hnx : rd_T68 l (next : Int) = l[next] := rd68_at l next hn
      have hsn := hs l[next] (List.getElem_mem _)
      have hsa := hs l[at_] (List.getElem_mem _)
      obtain ⟨r, hr, hrl⟩ := name_f l[next].f0 l[at_].f0 (by omega) (by omega) (k + 1) (by omega)
      have hd := nds_drop l next hn
      have hkd : (nd l[next]).path = l[next].f0.data.toList := rfl
      have hkk : (nd l[next]).kind = l[next].f1 := rfl
      have hl0 : shelfmarkref10_under.l0 (k + 3) l (at_ : Int) (next : Int) last = (if r.toList = ([] : List UInt8) then (some (next : Int)) else (if (Op.bytesLess r.toList last.toList || r.toList == last.toList) = true then (some (next : Int)) else ((shelfmarkref10_under.f (k + 1) l (next : Int)).bind fun t213 => (shelfmarkref10_under.l0 (k + 1) l (at_ : Int) t213 r)))) := by
        rw [shelfmarkref10_under.l0, if_pos (by omega), if_pos (by omega), if_pos (by omega), hat, h4, shelfmarkref10_under.j1, if_pos (by rfl), if_pos (by omega), if_pos (by omega), if_pos (by omega), if_pos (by omega), hat, hnx, hr]
        rfl
      rw [hl0, toList_data, toList_data, hrl]
      by_cases hstop : refName l[next].f0.data.toList l[at_].f0.data.toList = [] ∨ (Op.bytesLess (refName l[next].f0.data.toList l[at_].f0.data.toList) last.data.toList || refName l[next].f0.data.toList l[at_].f0.data.toList == last.data.toList) = true
      · refine ⟨next, ?_, Nat.le_refl _, h2, ?_⟩
        · rcases hstop with h | h
          · rw [if_pos h]
          · rw [if_pos h]; split <;> rfl
        · intro f hf
          obtain ⟨f, rfl⟩ : ∃ g, f = g + 1 := ⟨f - 1, by omega⟩
          rw [hd, takeDir, hkd, if_pos hstop]
      · rw [if_neg (fun h => hstop (.inl h)), if_neg (fun h => hstop (.inr h))]
        have HS := Aside0.mk hstop
        have HL := Aside0.mk hl0
        clear hstop hl0
        have a0 : next < 4611686018427387904 := by omega
        have a1 : l.length - (next + 1) ≤ m := by omega
        have a3 : 3 * m + B + 8 ≤ k := by omega
        have a4 : 3 * m + B + 8 ≤ k + 1 := by omega
        rw [shelfmarkref10_under.f, wrap_up next a0]
        obtain ⟨j, hj, hj1, hj2, hj3⟩ := under_next l m next B k hn a1 a3 hnx (fun h5 => ih (next + 1) next (⟨#[]⟩ : ByteArray) k a1 hn hn a3 h5)
        rw [hj]
        simp only [Option.bind_some]
        obtain ⟨i, hi, hi1, hi2, hi3⟩ := ih j at_ r (k + 1) (Nat.le_trans (Nat.sub_le_sub_left hj1 _) a1) hj2 ha a4 h4
        refine ⟨i, hi, Nat.le_trans (Nat.le_of_succ_le hj1) hi1, hi2, ?_⟩
        intro f hf
        obtain ⟨f, rfl⟩ : ∃ g, f = g + 1 := ⟨f - 1, by omega⟩
        have b1 : l.length - (next + 1) < f := by omega
        rw [hi3 f (Nat.lt_of_le_of_lt (Nat.sub_le_sub_left hj1 _) b1), hd, takeDir, hkd, hkk, if_neg HS.out, hrl, hj3 f b1]
    · obtain ⟨k, rfl⟩ : ∃ g, k = g + 2 := ⟨k - 2, by omega⟩
      refine ⟨next, ?_, Nat.le_refl _, h2, ?_⟩
      · rw [shelfmarkref10_under.l0, if_neg (by omega), shelfmarkref10_under.j1, if_neg (by decide)]
      · intro f hf
        obtain ⟨f, rfl⟩ : ∃ g, f = g + 1 := ⟨f - 1, by omega⟩
        rw [List.drop_eq_nil_of_le (by rw [nds_len]; omega), takeDir]
theorem under_f (l : List S68) (B : Nat) (hB : B < 1000000000) (hl : l.length < 1000000000) (hs : ∀ x ∈ l, x.f0.size ≤ B) (h0 : 0 < l.length) (k : Nat) (hk : 3 * l.length + B + 9 ≤ k) :
    ∃ j : Nat, shelfmarkref10_under.f k l 0 = some (j : Int) ∧ j ≤ l.length ∧ (nds l).drop j = if l[0].f1 = 4 then takeDir l.length l[0].f0.data.toList [] ((nds l).drop 1) else (nds l).drop 1 := by
  obtain ⟨k, rfl⟩ : ∃ g, k = g + 3 := ⟨k - 3, by omega⟩
  have hat : rd_T68 l 0 = l[0] := rd68_at l 0 h0
  rw [shelfmarkref10_under.f, show wrap64 (0 + 1) = ((1 : Nat) : Int) by unfold wrap64; decide]
  by_cases h5 : l[0].f1 = 4
  · obtain ⟨j, a, b, c, d⟩ := under_rounds l B hB hl hs l.length 1 0 (⟨#[]⟩ : ByteArray) (k + 2) (by omega) (by omega) h0 (by omega) h5
    exact ⟨j, a, c, by rw [if_pos h5]; exact d l.length (by omega)⟩
  · refine ⟨1, ?_, h0, by rw [if_neg h5]⟩
    have h6 : (l[0].f1 == 4) = false := beq_eq_false_iff_ne.2 h5
    by_cases h7 : 1 < l.length
    · rw [shelfmarkref10_under.l0, if_pos (by omega), if_pos (by decide), if_pos (by omega), hat, h6, shelfmarkref10_under.j1, if_neg (by decide)]
    · rw [shelfmarkref10_under.l0, if_neg (by omega), shelfmarkref10_under.j1, if_neg (by decide)]
theorem refMay_rounds (l : List S68) (B : Nat) (hB : B < 1000000000) (hl : l.length < 1000000000) (hs : ∀ x ∈ l, x.f0.size ≤ B) (h0 : 0 < l.length) : ∀ (m i k : Nat), l.length - i ≤ m → i ≤ l.length → m + 3 * l.length + B + 6000 ≤ k →
    shelfmarkref10_May.l0 k l (i : Int) = some (((nds l).drop i).all refNode && (if l[0].f1 = 4 then (takeDir l.length l[0].f0.data.toList [] ((nds l).drop 1)).isEmpty else ((nds l).drop 1).isEmpty)) := by
  intro m
  induction m with
  | zero =>
    intro i k h1 h2 hk
    obtain ⟨k, rfl⟩ : ∃ g, k = g + 1 := ⟨k - 1, by omega⟩
    rw [shelfmarkref10_May.l0, if_neg (by omega), List.drop_eq_nil_of_le (by rw [nds_len]; omega), List.all_nil, Bool.true_and]
    obtain ⟨j, hj, hj1, hj2⟩ := under_f l B hB hl hs h0 k (by omega)
    rw [hj]
    simp only [Option.bind_some]
    congr 1
    have e : (((j : Int) == (l.length : Int)) : Bool) = ((nds l).drop j).isEmpty := by
      rw [Bool.eq_iff_iff, beq_iff_eq, List.isEmpty_iff, List.drop_eq_nil_iff, nds_len]; omega
    rw [e, hj2]
    split <;> rfl
  | succ m ih =>
    intro i k h1 h2 hk
    by_cases hi : i < l.length
    · obtain ⟨k, rfl⟩ : ∃ g, k = g + 1 := ⟨k - 1, by omega⟩
      have hx : rd_T68 l (i : Int) = l[i] := rd68_at l i hi
      have hsi := hs l[i] (List.getElem_mem _)
      obtain ⟨a, nm, hc, hcl⟩ := cut_f l[i].f0 (by omega) k (by omega)
      have hnmsz : nm.size ≤ l[i].f0.size := by
        rw [Lib.size_eq, hcl, Lib.size_eq]
        cases h : cutSlash l[i].f0.data.toList with
        | none => exact Nat.le_refl _
        | some y =>
          have := cutSlash_is _ y.1 y.2 h
          simp only
          rw [this]; simp; omega
      have e1 : shelfmarkref10_MayName.f k nm = some (mayName nm.data.toList) := refMayName_f nm k (by omega)
      have e2 := deep_f l[i].f0 (by omega) k (by omega)
      have e3 := mayData_f l[i] k (by omega)
      rw [shelfmarkref10_May.l0, if_pos (by omega), if_pos (by omega), hx, hc]
      simp only [Option.bind_some]
      rw [e1]
      simp only [Option.bind_some]
      rw [nds_drop l i hi, List.all_cons]
      have er : refNode (nd l[i]) = (okNd (nd l[i]) && (decide (slashes l[i].f0.data.toList < 64) && mayName nm.data.toList)) := by
        unfold refNode; rw [hcl]; rfl
      rw [er]
      by_cases h3 : mayName nm.data.toList = true
      · rw [if_pos h3, e2, h3]
        simp only [Option.bind_some]
        by_cases h4 : slashes l[i].f0.data.toList < 64
        · rw [if_neg (by omega), e3, decide_eq_true h4]
          simp only [Option.bind_some]
          by_cases h5 : okNd (nd l[i]) = true
          · rw [if_pos h5, h5, wrap_up i (by omega), ih (i + 1) k (by omega) (by omega) (by omega)]
            rfl
          · rw [if_neg h5, Bool.eq_false_iff.2 h5]; rfl
        · rw [if_pos (by omega), decide_eq_false h4]; simp
      · rw [if_neg h3, Bool.eq_false_iff.2 h3]; simp
    · exact ih i k (by omega) h2 (by omega)
theorem refMay_f (l : List S68) (hs : ∀ x ∈ l, x.f0.size ≤ 1048576) (k : Nat) (hk : 1100000 ≤ k) : shelfmarkref10_May.f k l = some (May (nds l)) := by
  rw [← refMay_is]
  obtain ⟨k, rfl⟩ : ∃ g, k = g + 1 := ⟨k - 1, by omega⟩
  unfold shelfmarkref10_May.f
  by_cases h0 : 0 < l.length
  · have hat : rd_T68 l 0 = l[0] := rd68_at l 0 h0
    have hc : nds l = nd l[0] :: (nds l).drop 1 := by
      have := nds_drop l 0 h0
      rw [List.drop_zero] at this
      exact this
    have hL := nds_len l
    have j1 : shelfmarkref10_May.j0 (k + 1) l true = some false := by rw [shelfmarkref10_May.j0, if_pos rfl]
    rw [if_neg (by omega)]
    have er : refMay (nds l) = (decide (l.length ≤ 256) && ((nd l[0]).path == [] && (okNd (nd l[0]) && (((nds l).drop 1).all refNode && (if (nd l[0]).kind = 4 then (takeDir l.length [] [] ((nds l).drop 1)).isEmpty else ((nds l).drop 1).isEmpty))))) := by
      conv => lhs; rw [hc]
      rw [refMay_cons, ← hc, hL]
      have e9 : ((nds l).drop 1).length + 1 = l.length := by rw [List.length_drop, hL]; omega
      rw [e9]
    rw [er]
    by_cases h1 : l.length ≤ 256
    · rw [if_neg (by omega), if_pos (by omega), hat, toList_data, decide_eq_true h1]
      have hp : (nd l[0]).path = l[0].f0.data.toList := rfl
      have hkd : (nd l[0]).kind = l[0].f1 := rfl
      rw [hp, hkd]
      by_cases h2 : l[0].f0.data.toList = []
      · have e3 := mayData_f l[0] (k + 1) (by omega)
        rw [if_pos h2, e3]
        simp only [Option.bind_some]
        by_cases h4 : okNd (nd l[0]) = true
        · have hm := refMay_rounds l 1048576 (by decide) (by omega) hs h0 l.length 1 k (by omega) (by omega) (by omega)
          rw [h4, show (!true) = false from rfl, shelfmarkref10_May.j0, if_neg (by decide)]
          have e1 : ((1 : Nat) : Int) = 1 := rfl
          rw [← e1, hm, h2]
          rfl
        · rw [Bool.eq_false_iff.2 h4, show (!false) = true from rfl, j1]
          simp
      · rw [if_neg h2, j1, beq_eq_false_iff_ne.2 h2]
        simp
    · rw [if_pos (by omega), j1, decide_eq_false h1]
      simp
  · have : l = [] := List.length_eq_zero_iff.1 (by omega)
    subst this
    rw [if_pos (by decide), shelfmarkref10_May.j0, if_pos rfl]
    rfl
end Go.Proofs.YtncokgdfkbgflaaDoor

namespace Go.Proofs.YtncokgdfkbgflaaDoor
set_option linter.unusedVariables false
set_option linter.unusedSimpArgs false
open Go.RowKit Go.Proofs.YtncokgdfkbgflaaDoorW.PrintWords Go.Proofs.YtncokgdfkbgflaaDoorW.PrintMore P
theorem little_step (k : Nat) (n : Nat) (xs : List Int) (i : Nat) (hi : i < 8) (hx : xs.length = 8) :
    shelfmarkref1_little.l0 (k + 1) (n : Int) 8 xs (i : Int) = shelfmarkref1_little.l0 k (n : Int) 8 (xs.set i (((n / 2 ^ (8 * i) : Nat) : Int) % 256)) ((i + 1 : Nat) : Int) := by
  have hw : wrap64 (8 * (i : Int)) = ((8 * i : Nat) : Int) := by unfold wrap64; omega
  have hw2 : wrap64 ((i : Int) + 1) = ((i + 1 : Nat) : Int) := by unfold wrap64; omega
  have hs : shr .u64 (n : Int) ((8 * i : Nat) : Int) = ((n / 2 ^ (8 * i) : Nat) : Int) := by
    unfold shr
    rw [Int.toNat_natCast, Nat.min_eq_left (by show 8 * i ≤ 64; omega)]
    simp
  simp only [shelfmarkref1_little.l0]
  rw [if_pos (by omega), hw, if_pos (by omega), if_pos (by omega), if_pos (by rw [hx]; omega), hw2, hs, Int.toNat_natCast]
theorem little_any (k : Nat) (n : Nat) : shelfmarkref1_little.f (k + 9) (n : Int) 8 = some (bs (le8 n)) := by
  unfold shelfmarkref1_little.f
  rw [if_pos (by decide), if_pos (by decide)]
  show shelfmarkref1_little.l0 (k + 8 + 1) (n : Int) 8 _ ((0 : Nat) : Int) = _
  rw [little_step (k + 8) n _ 0 (by omega) (by rfl)]
  rw [show k + 8 = (k + 7) + 1 from rfl, little_step (k + 7) n _ 1 (by omega) (by simp)]
  rw [show k + 7 = (k + 6) + 1 from rfl, little_step (k + 6) n _ 2 (by omega) (by simp)]
  rw [show k + 6 = (k + 5) + 1 from rfl, little_step (k + 5) n _ 3 (by omega) (by simp)]
  rw [show k + 5 = (k + 4) + 1 from rfl, little_step (k + 4) n _ 4 (by omega) (by simp)]
  rw [show k + 4 = (k + 3) + 1 from rfl, little_step (k + 3) n _ 5 (by omega) (by simp)]
  rw [show k + 3 = (k + 2) + 1 from rfl, little_step (k + 2) n _ 6 (by omega) (by simp)]
  rw [show k + 2 = (k + 1) + 1 from rfl, little_step (k + 1) n _ 7 (by omega) (by simp)]
  simp only [shelfmarkref1_little.l0]
  rw [if_neg (by omega)]
  congr 1
  have hb : ∀ m : Nat, UInt8.ofNat (((m : Int) % 256).toNat) = UInt8.ofNat m := by
    intro m
    have : ((m : Int) % 256).toNat = m % 256 := by omega
    rw [this]
    apply UInt8.toNat_inj.mp
    simp
  rw [show ((8 : Int)).toNat = 8 from rfl]
  simp only [List.replicate_succ, List.replicate_zero, List.set_cons_zero, List.set_cons_succ, strOfNums, List.map_cons, List.map_nil, hb, bs, le8]
  simp
theorem refWord_any (k : Nat) (n : Nat) (hn : n < 9223372036854775808) : shelfmarkref10_Word.f (k + 9) (n : Int) = some (bs (le8 n)) := by
  have hm : mx (n : Int) 0 = n := by unfold mx; split <;> omega
  have hw : IntKind.u64.wrap (n : Int) = (n : Int) := by simp [IntKind.wrap, IntKind.signed, IntKind.bits]; omega
  unfold shelfmarkref10_Word.f shelfmarkref1_Little.f
  rw [hm, hw, little_any]
  rfl
theorem fill_rounds : ∀ (m k : Nat) (x : List UInt8), x.length + m < 4611686018427387904 → m < 8 → (x.length + m) % 8 = 0 → m + 1 ≤ k → shelfmarkref10_Str.l0 k (bs x) = some (bs (x ++ List.replicate m 0)) := by
  intro m
  induction m with
  | zero =>
    intro k x hx h8 hm hk
    obtain ⟨k, rfl⟩ : ∃ g, k = g + 1 := ⟨k - 1, by omega⟩
    rw [shelfmarkref10_Str.l0, bs_size, if_pos (by omega), List.replicate_zero, List.append_nil]
  | succ m ih =>
    intro k x hx h8 hm hk
    obtain ⟨k, rfl⟩ : ∃ g, k = g + 1 := ⟨k - 1, by omega⟩
    rw [shelfmarkref10_Str.l0, bs_size, if_neg (by omega), if_pos (by omega)]
    have e : (bs x ++ (⟨#[0]⟩ : ByteArray)) = bs (x ++ [0]) := by rw [← bs_append]; rfl
    rw [e, ih k (x ++ [0]) (by rw [List.length_append]; simp; omega) (by omega) (by rw [List.length_append]; simp; omega) (by omega), List.append_assoc]
    rfl
theorem refStr_f (s : ByteArray) (hs : s.size < 4611686018427380000) (k : Nat) (hk : 17 ≤ k) : shelfmarkref10_Str.f k s = some (bs (strB s.data.toList)) := by
  have hz := Lib.size_eq s
  obtain ⟨k, rfl⟩ : ∃ g, k = g + 9 := ⟨k - 9, by omega⟩
  unfold shelfmarkref10_Str.f
  rw [refWord_any k s.size (by omega)]
  simp only [Option.bind_some]
  have hp8 : pad s.size < 8 := by unfold pad; omega
  have hp : (8 + s.size + pad s.size) % 8 = 0 := by unfold pad; omega
  rw [bs_size, le8_length, if_pos (by omega)]
  have e : bs (le8 s.size) ++ s = bs (le8 s.size ++ s.data.toList) := by rw [← bs_append, bs_data]
  rw [e, fill_rounds (pad s.size) (k + 9) _ (by rw [List.length_append, le8_length]; omega) hp8 (by rw [List.length_append, le8_length, ← hz]; exact hp) (by omega), strB, ← hz]
theorem strs_rounds (l : List ByteArray) (M : Nat) (hM : M < 1000000000) (hl : l.length < 1000000000) (hs : ∀ s ∈ l, s.size ≤ M) : ∀ (m i k : Nat) (x : List UInt8), l.length - i ≤ m → i ≤ l.length → x.length ≤ i * (M + 15) → m + 18 ≤ k →
    shelfmarkref10_strs.l0 k l (bs x) (i : Int) = some (bs (x ++ strsB (strsOf (l.drop i)))) := by
  intro m
  induction m with
  | zero =>
    intro i k x h1 h2 hx hk
    obtain ⟨k, rfl⟩ : ∃ g, k = g + 1 := ⟨k - 1, by omega⟩
    rw [shelfmarkref10_strs.l0, if_neg (by omega), List.drop_eq_nil_of_le (by omega)]
    simp [strsOf, strsB]
  | succ m ih =>
    intro i k x h1 h2 hx hk
    by_cases hi : i < l.length
    · obtain ⟨k, rfl⟩ : ∃ g, k = g + 1 := ⟨k - 1, by omega⟩
      have hr : rdOf ByteArray.empty l (i : Int) = l[i] := by simp [rdOf, List.getD_eq_getElem?_getD, List.getElem?_eq_getElem hi]
      have hsi := hs l[i] (List.getElem_mem _)
      have hb : i * (M + 15) ≤ 1000000000 * (M + 15) := Nat.mul_le_mul (by omega) (Nat.le_refl _)
      have hle := strB_le l[i].data.toList
      have hz := Lib.size_eq l[i]
      rw [shelfmarkref10_strs.l0, if_pos (by omega), if_pos (by omega), hr, refStr_f l[i] (by omega) k (by omega)]
      simp only [Option.bind_some]
      rw [bs_size, bs_size, if_pos (by omega), bs_append, show wrap64 ((i : Int) + 1) = ((i + 1 : Nat) : Int) by unfold wrap64; omega,
        ih (i + 1) k _ (by omega) (by omega) (by rw [List.length_append, Nat.succ_mul]; omega) (by omega), List.drop_eq_getElem_cons hi]
      show _ = some (bs (x ++ strsB (l[i].data.toList :: strsOf (l.drop (i + 1)))))
      rw [strsB, List.append_assoc]
    · exact ih i k x (by omega) h2 hx (by omega)
theorem refStrs_f (l : List ByteArray) (M : Nat) (hM : M < 1000000000) (hl : l.length < 1000000000) (hs : ∀ s ∈ l, s.size ≤ M) (k : Nat) (hk : l.length + 18 ≤ k) : shelfmarkref10_strs.f k l = some (bs (strsB (strsOf l))) := by
  unfold shelfmarkref10_strs.f
  have := strs_rounds l M hM hl hs l.length 0 k [] (by omega) (by omega) (by simp) hk
  rw [List.drop_zero, List.nil_append] at this
  exact this
end Go.Proofs.YtncokgdfkbgflaaDoor

namespace Go.Proofs.YtncokgdfkbgflaaDoor
set_option linter.unusedVariables false
set_option linter.unusedSimpArgs false
open Go.RowKit Go.Proofs.YtncokgdfkbgflaaDoorW.PrintWords Go.Proofs.YtncokgdfkbgflaaDoorW.PrintMore P
theorem strs1 (k : Nat) (hk : 30 ≤ k) : shelfmarkref10_strs.f k [(⟨#[40]⟩ : ByteArray), (⟨#[116, 121, 112, 101]⟩ : ByteArray)] = some (bs (strsB [wOpen, wType])) := refStrs_f _ 300 (by decide) (by decide) (by decide) k (by simp; omega)
theorem strs2 (k : Nat) (hk : 30 ≤ k) : shelfmarkref10_strs.f k [(⟨#[41]⟩ : ByteArray)] = some (bs (strsB [wShut])) := refStrs_f _ 300 (by decide) (by decide) (by decide) k (by simp; omega)
theorem strs3 (k : Nat) (hk : 30 ≤ k) : shelfmarkref10_strs.f k [(⟨#[100, 105, 114, 101, 99, 116, 111, 114, 121]⟩ : ByteArray)] = some (bs (strsB [wDir])) := refStrs_f _ 300 (by decide) (by decide) (by decide) k (by simp; omega)
theorem strs4 (k : Nat) (hk : 30 ≤ k) : shelfmarkref10_strs.f k [(⟨#[110, 105, 120, 45, 97, 114, 99, 104, 105, 118, 101, 45, 49]⟩ : ByteArray)] = some (bs (strsB [wMark])) := refStrs_f _ 300 (by decide) (by decide) (by decide) k (by simp; omega)
theorem strs5 (k : Nat) (hk : 30 ≤ k) (d : ByteArray) (hd : d.size ≤ 70000) : shelfmarkref10_strs.f k [(⟨#[114, 101, 103, 117, 108, 97, 114]⟩ : ByteArray), (⟨#[99, 111, 110, 116, 101, 110, 116, 115]⟩ : ByteArray), d] = some (bs (strsB [wRegular, wContents, d.data.toList])) :=
  refStrs_f _ 70000 (by decide) (by simp) (by intro s hs; simp only [List.mem_cons, List.not_mem_nil, or_false] at hs; rcases hs with rfl | rfl | rfl; all_goals first | exact hd | decide) k (by simp; omega)
theorem strs6 (k : Nat) (hk : 30 ≤ k) (d : ByteArray) (hd : d.size ≤ 70000) : shelfmarkref10_strs.f k [(⟨#[114, 101, 103, 117, 108, 97, 114]⟩ : ByteArray), (⟨#[101, 120, 101, 99, 117, 116, 97, 98, 108, 101]⟩ : ByteArray), (⟨#[]⟩ : ByteArray), (⟨#[99, 111, 110, 116, 101, 110, 116, 115]⟩ : ByteArray), d] = some (bs (strsB [wRegular, wExec, [], wContents, d.data.toList])) :=
  refStrs_f _ 70000 (by decide) (by simp) (by intro s hs; simp only [List.mem_cons, List.not_mem_nil, or_false] at hs; rcases hs with rfl | rfl | rfl | rfl | rfl; all_goals first | exact hd | decide) k (by simp; omega)
theorem strs7 (k : Nat) (hk : 30 ≤ k) (d : ByteArray) (hd : d.size ≤ 70000) : shelfmarkref10_strs.f k [(⟨#[115, 121, 109, 108, 105, 110, 107]⟩ : ByteArray), (⟨#[116, 97, 114, 103, 101, 116]⟩ : ByteArray), d] = some (bs (strsB [wSymlink, wTarget, d.data.toList])) :=
  refStrs_f _ 70000 (by decide) (by simp) (by intro s hs; simp only [List.mem_cons, List.not_mem_nil, or_false] at hs; rcases hs with rfl | rfl | rfl; all_goals first | exact hd | decide) k (by simp; omega)
theorem strs8 (k : Nat) (hk : 30 ≤ k) (d : ByteArray) (hd : d.size ≤ 70000) : shelfmarkref10_strs.f k [(⟨#[101, 110, 116, 114, 121]⟩ : ByteArray), (⟨#[40]⟩ : ByteArray), (⟨#[110, 97, 109, 101]⟩ : ByteArray), d, (⟨#[110, 111, 100, 101]⟩ : ByteArray)] = some (bs (strsB [wEntry, wOpen, wName, d.data.toList, wNode])) :=
  refStrs_f _ 70000 (by decide) (by simp) (by intro s hs; simp only [List.mem_cons, List.not_mem_nil, or_false] at hs; rcases hs with rfl | rfl | rfl | rfl | rfl; all_goals first | exact hd | decide) k (by simp; omega)
theorem nds_here {l : List S68} {pre post : List Nd} {n : Nd} (h : nds l = pre ++ (n :: post)) : ∃ hi : pre.length < l.length, nd l[pre.length] = n := by
  have hl : pre.length < l.length := by rw [← nds_len, h, List.length_append, List.length_cons]; omega
  refine ⟨hl, ?_⟩
  have h1 : (nds l)[pre.length]? = some n := by rw [h]; simp
  have h2 : (nds l)[pre.length]? = some (nd l[pre.length]) := by simp [nds, List.getElem?_eq_getElem hl]
  rw [h2] at h1
  exact Option.some.inj h1
theorem mayName_len {t : List UInt8} (h : mayName t = true) : t.length ≤ 255 := by
  unfold mayName at h
  simp only [Bool.and_eq_true, decide_eq_true_eq] at h
  exact h.2.1
mutual
theorem Tr.node_is (l : List S68) (B : Nat) (hB : B < 1000000000) (hl : l.length < 1000000000) (hs : ∀ x ∈ l, x.f0.size ≤ B) : ∀ (t : Tr) (d : Nat) (p : List UInt8) (pre post : List Nd) (k : Nat), t.ok d = true → StopsAt (headOf p) post → nds l = pre ++ (t.nodes p ++ post) → t.enc.length < 1000000000000000 → 3 * t.size + B + 60 ≤ k →
    shelfmarkref10_node.f k l (pre.length : Int) = some (bs t.enc, ((pre.length + t.size : Nat) : Int))
  | .leaf kk x, d, p, pre, post, k, h, hst, hn, he, hk => by
    obtain ⟨k, rfl⟩ : ∃ g, k = g + 1 := ⟨k - 1, by omega⟩
    rw [Tr.ok] at h
    simp only [Bool.and_eq_true, decide_eq_true_eq] at h
    rw [Tr.nodes] at hn
    obtain ⟨hi, hnd⟩ := nds_here hn
    have hat : rd_T68 l (pre.length : Int) = l[pre.length] := rd68_at l _ hi
    have h1 : l[pre.length].f1 = kk := congrArg Nd.kind hnd
    have h2 : l[pre.length].f2.data.toList = x := congrArg Nd.data hnd
    have hx := okNd_le _ h.2
    have hx2 : x.length ≤ 65536 := hx
    have hsz : l[pre.length].f2.size ≤ 70000 := by rw [Lib.size_eq, h2]; omega
    have HW := Aside0.mk (wrap_up pre.length (by omega))
    rw [Tr.enc] at he ⊢
    simp only [List.length_append] at he
    rw [shelfmarkref10_node.f, if_pos (by omega), if_pos (by omega), strs1 k (by omega)]
    simp only [Option.bind_some]
    rw [hat, h1, strs5 k (by omega) _ hsz, strs6 k (by omega) _ hsz, strs7 k (by omega) _ hsz, h2, strs2 k (by omega), HW.out, Tr.size]
    simp only [Option.bind_some]
    rcases h.1 with rfl | rfl | rfl
    · rw [if_pos rfl, bs_size, bs_size, if_pos (by simp only [leafB, if_pos] at he; omega), bs_append, bs_size, bs_size, if_pos (by simp only [leafB, if_pos] at he; rw [List.length_append]; omega), bs_append]
      rfl
    · rw [if_neg (by decide), if_pos rfl, bs_size, bs_size]
      have hb : leafB ⟨[], 2, x⟩ = strsB [wRegular, wExec, [], wContents, x] := by simp [leafB]
      rw [hb] at he ⊢
      rw [if_pos (by omega), bs_append, bs_size, bs_size, if_pos (by rw [List.length_append]; omega), bs_append]
    · rw [if_neg (by decide), if_neg (by decide), if_pos rfl, bs_size, bs_size]
      have hb : leafB ⟨[], 3, x⟩ = strsB [wSymlink, wTarget, x] := by simp [leafB]
      rw [hb] at he ⊢
      rw [if_pos (by omega), bs_append, bs_size, bs_size, if_pos (by rw [List.length_append]; omega), bs_append]
  | .dir es, d, p, pre, post, k, h, hst, hn, he, hk => by
    obtain ⟨k, rfl⟩ : ∃ g, k = g + 1 := ⟨k - 1, by omega⟩
    rw [Tr.ok] at h
    rw [Tr.size] at hk ⊢
    rw [Tr.nodes] at hn
    obtain ⟨hi, hnd⟩ := nds_here hn
    have hat : rd_T68 l (pre.length : Int) = l[pre.length] := rd68_at l _ hi
    have h1 : l[pre.length].f1 = 4 := congrArg Nd.kind hnd
    have h0 : l[pre.length].f0.data.toList = p := congrArg Nd.path hnd
    have hsi := hs l[pre.length] (List.getElem_mem _)
    have HW := Aside0.mk (wrap_up pre.length (by omega))
    rw [Tr.enc] at he ⊢
    simp only [List.length_append] at he
    have hn2 : nds l = (pre ++ [⟨p, 4, []⟩]) ++ (es.nodes p ++ post) := by rw [hn]; simp
    have hr := Es.node_is l B hB hl hs es d [] p (pre ++ [⟨p, 4, []⟩]) post k l[pre.length].f0 l[pre.length].f1 l[pre.length].f2 (strsB [wOpen, wType] ++ strsB [wDir]) h hst hn2 ⟨h0, hsi⟩ (by simp only [List.length_append]; omega) (by omega)
    rw [List.length_append, List.length_singleton] at hr
    rw [shelfmarkref10_node.f, if_pos (by omega), if_pos (by omega), strs1 k (by omega)]
    simp only [Option.bind_some]
    rw [hat]
    have g1 : ¬ l[pre.length].f1 = 1 := by omega
    have g2 : ¬ l[pre.length].f1 = 2 := by omega
    have g3 : ¬ l[pre.length].f1 = 3 := by omega
    rw [if_neg g1, if_neg g2, if_neg g3, strs3 k (by omega)]
    simp only [Option.bind_some]
    rw [bs_size, bs_size, if_pos (by omega), bs_append, HW.out, hr]
    have e1 : strsB [wOpen, wType] ++ strsB [wDir] ++ (es.enc ++ strsB [wShut]) = strsB [wOpen, wType] ++ (strsB [wDir] ++ es.enc) ++ strsB [wShut] := by simp only [List.append_assoc]
    have e2 : pre.length + 1 + es.size = pre.length + (1 + es.size) := by omega
    rw [e1, e2]
theorem Es.node_is (l : List S68) (B : Nat) (hB : B < 1000000000) (hl : l.length < 1000000000) (hs : ∀ x ∈ l, x.f0.size ≤ B) : ∀ (es : Es) (d : Nat) (last p : List UInt8) (pre post : List Nd) (k : Nat) (y0 : ByteArray) (y1 : Int) (y2 : ByteArray) (acc : List UInt8), es.ok d last = true → StopsAt (headOf p) post → nds l = pre ++ (es.nodes p ++ post) → y0.data.toList = p ∧ y0.size ≤ B →
    acc.length + es.enc.length + (strsB [wShut]).length < 1000000000000000 → 3 * es.size + B + 62 ≤ k →
    shelfmarkref10_node.l0 k l (bs acc) (pre.length : Int) y0 y1 y2 = some (bs (acc ++ (es.enc ++ strsB [wShut])), ((pre.length + es.size : Nat) : Int))
  | .nil, d, last, p, pre, post, k, y0, y1, y2, acc, h, hst, hn, ⟨hy, hyB⟩, he, hk => by
    obtain ⟨k, rfl⟩ : ∃ g, k = g + 2 := ⟨k - 2, by omega⟩
    rw [Es.nodes, List.nil_append] at hn
    rw [Es.enc] at he ⊢
    rw [Es.size, List.nil_append]
    have hj : shelfmarkref10_node.j1 (k + 1) l (bs acc) (pre.length : Int) false y0 y1 y2 = some (bs (acc ++ strsB [wShut]), ((pre.length + 0 : Nat) : Int)) := by
      rw [shelfmarkref10_node.j1, if_neg (by decide), strs2 k (by omega)]
      simp only [Option.bind_some]
      rw [bs_size, bs_size, if_pos (by simp only [List.length_nil] at he; omega), bs_append]
      rfl
    rw [shelfmarkref10_node.l0]
    by_cases hlt : pre.length < l.length
    · obtain ⟨n, post2, hpost⟩ : ∃ n post2, post = n :: post2 := by
        cases post with
        | nil => have := nds_len l; rw [hn, List.append_nil] at this; omega
        | cons n q => exact ⟨n, q, rfl⟩
      rw [hpost] at hn
      obtain ⟨hi, hnd⟩ := nds_here hn
      have hat : rd_T68 l (pre.length : Int) = l[pre.length] := rd68_at l _ hi
      have h0 : l[pre.length].f0.data.toList = n.path := congrArg Nd.path hnd
      have hsi := hs l[pre.length] (List.getElem_mem _)
      have hpfx := hst n post2 hpost
      obtain ⟨r, hr, hrl⟩ := name_f l[pre.length].f0 y0 (by omega) (by omega) (k + 1) (by omega)
      rw [h0, hy, refName_stop hpfx] at hrl
      have ht : (r.toList != ([] : List UInt8)) = false := by rw [toList_data, hrl]; rfl
      rw [if_pos (by omega), if_pos (by omega), hat, hr]
      simp only [Option.bind_some]
      rw [ht, hj]
    · rw [if_neg (by omega), hj]
  | .cons nm t es, d, last, p, pre, post, k, y0, y1, y2, acc, h, hst, hn, ⟨hy, hyB⟩, he, hk => by
    have h' := h
    rw [Es.ok] at h
    simp only [Bool.and_eq_true, Bool.not_eq_true', decide_eq_true_eq] at h
    obtain ⟨h1, h2, h3, h4, h5⟩ := h
    rw [Es.size] at hk ⊢
    have hp := Tr.size_pos t
    obtain ⟨k, rfl⟩ : ∃ g, k = g + 2 := ⟨k - 2, by omega⟩
    rw [Es.nodes, List.append_assoc] at hn
    obtain ⟨hne, h47⟩ := mayName_ne h1
    have hstop := Es.stops d nm p _ es post nm rfl hne h5 hst
    rw [Es.enc, entryB] at he ⊢
    simp only [List.length_append] at he
    have hnode := Tr.node_is l B hB hl hs t (d + 1) (headOf p ++ nm) pre (es.nodes p ++ post) k h4 hstop hn (by omega) (by omega)
    obtain ⟨m, q, hm, hmp⟩ := Tr.first (headOf p ++ nm) t
    have hn1 : nds l = pre ++ m :: (q ++ (es.nodes p ++ post)) := by rw [hn, hm]; rfl
    obtain ⟨hi, hnd⟩ := nds_here hn1
    have hat : rd_T68 l (pre.length : Int) = l[pre.length] := rd68_at l _ hi
    have h0 : l[pre.length].f0.data.toList = headOf p ++ nm := by rw [← hmp]; exact congrArg Nd.path hnd
    have hsi := hs l[pre.length] (List.getElem_mem _)
    obtain ⟨r, hr, hrl⟩ := name_f l[pre.length].f0 y0 (by omega) (by omega) (k + 1) (by omega)
    obtain ⟨r2, hr2, hrl2⟩ := name_f l[pre.length].f0 y0 (by omega) (by omega) k (by omega)
    rw [h0, hy, refName_in p nm h47] at hrl hrl2
    have ht : (r.toList != ([] : List UInt8)) = true := by rw [toList_data, hrl, bne_iff_ne]; exact hne
    have hnml := mayName_len h1
    have hn2 : nds l = (pre ++ t.nodes (headOf p ++ nm)) ++ (es.nodes p ++ post) := by rw [hn, List.append_assoc]
    have hih := Es.node_is l B hB hl hs es d nm p (pre ++ t.nodes (headOf p ++ nm)) post k y0 y1 y2 (acc ++ strsB [wEntry, wOpen, wName, nm, wNode] ++ t.enc ++ strsB [wShut]) h5 hst hn2 ⟨hy, hyB⟩ (by simp only [List.length_append]; omega) (by omega)
    rw [List.length_append, Tr.nodes_length] at hih
    rw [shelfmarkref10_node.l0, if_pos (by omega), if_pos (by omega), hat, hr]
    simp only [Option.bind_some]
    rw [ht, shelfmarkref10_node.j1, if_pos rfl, hnode]
    simp only [Option.bind_some]
    rw [if_pos (by omega), if_pos (by omega), hat, hr2]
    simp only [Option.bind_some]
    rw [strs8 k (by omega) r2 (by rw [Lib.size_eq, hrl2]; omega), strs2 k (by omega), hrl2]
    simp only [Option.bind_some]
    rw [bs_size, bs_size, if_pos (by omega), bs_append, bs_size, bs_size, if_pos (by rw [List.length_append]; omega), bs_append, bs_size, bs_size, if_pos (by simp only [List.length_append]; omega), bs_append, hih]
    have e1 : acc ++ strsB [wEntry, wOpen, wName, nm, wNode] ++ t.enc ++ strsB [wShut] ++ (es.enc ++ strsB [wShut]) = acc ++ (strsB [wEntry, wOpen, wName, nm, wNode] ++ t.enc ++ strsB [wShut] ++ es.enc ++ strsB [wShut]) := by simp only [List.append_assoc]
    have e2 : pre.length + t.size + es.size = pre.length + (t.size + es.size) := by omega
    rw [e1, e2]
end
theorem encT_le (t : Tr) (h : t.ok 0 = true) (hs : t.size ≤ 256) (hp : ∀ n ∈ t.nodes [], n.path.length ≤ 1048576) : t.enc.length ≤ 353771551 * 257 := by
  have hm := tree_may t h hs
  obtain ⟨h1, h2, h3, h4⟩ := may_parts hm
  rw [← packN_tree t h]
  have h5 := packN_le (t.nodes []) 327827 1048576 (by
    intro n hn
    have := leafB_le n 65536 (by decide) (okNd_le n (h3 n hn))
    omega) hp (by decide) h4 (t.nodes []).length 0
  have h7 := holds_le (t.nodes []) 0
  have h8 : (327827 + (1048576 + 140)) * holds (t.nodes []) 0 ≤ (327827 + (1048576 + 140)) * 257 := Nat.mul_le_mul (Nat.le_refl _) (by omega)
  omega
theorem refPack_f (l : List S68) (hs : ∀ x ∈ l, x.f0.size ≤ 1048576) (k : Nat) (hk : 1200000 ≤ k) : shelfmarkref10_Pack.f k l = some (if May (nds l) = true then (bs (strB wMark ++ packN l.length (nds l) 0), 0) else (⟨#[]⟩, 1)) := by
  unfold shelfmarkref10_Pack.f
  rw [refMay_f l hs k (by omega)]
  simp only [Option.bind_some]
  by_cases h : May (nds l) = true
  · rw [if_pos h, if_pos h]
    obtain ⟨t, ht, hl⟩ := may_tree _ h
    obtain ⟨h1, h2, _, _⟩ := may_parts h
    rw [nds_len] at h1 h2
    have hsz : t.size = l.length := by rw [← Tr.nodes_length [] t, ← hl, nds_len]
    have hpp : ∀ n ∈ t.nodes [], n.path.length ≤ 1048576 := by
      intro n hn
      rw [← hl] at hn
      obtain ⟨x, hx, rfl⟩ := List.mem_map.1 hn
      have := hs x hx
      rw [Lib.size_eq] at this
      exact this
    have he := encT_le t ht (by omega) hpp
    have hn := Tr.node_is l 1048576 (by decide) (by omega) hs t 0 [] [] [] k ht (fun n q e => by cases e) (by rw [hl]; simp) (by omega) (by omega)
    have e0 : (([] : List Nd).length : Int) = 0 := rfl
    rw [e0] at hn
    rw [hn]
    simp only [Option.bind_some]
    rw [strs4 k (by omega)]
    simp only [Option.bind_some]
    have hmk : (strsB [wMark]).length = 24 := by decide
    have e1 : packN l.length (nds l) 0 = t.enc := by
      have := packN_tree t ht
      rw [← hl, nds_len] at this
      exact this
    rw [bs_size, bs_size, if_pos (by omega), bs_append, e1]
    have e2 : strsB [wMark] = strB wMark := by simp only [strsB, List.append_nil]
    rw [e2]
  · rw [if_neg h, if_neg h]
end Go.Proofs.YtncokgdfkbgflaaDoor

namespace Go.Proofs.YtncokgdfkbgflaaDoor
set_option linter.unusedVariables false
set_option linter.unusedSimpArgs false
open Go.RowKit Go.Proofs.YtncokgdfkbgflaaDoorW.PrintWords Go.Proofs.YtncokgdfkbgflaaDoorW.PrintMore P
end Go.Proofs.YtncokgdfkbgflaaDoor

namespace Go.Proofs.YtncokgdfkbgflaaDoor
set_option linter.unusedVariables false
set_option linter.unusedSimpArgs false
open Go.RowKit Go.Proofs.YtncokgdfkbgflaaDoorW.PrintWords Go.Proofs.YtncokgdfkbgflaaDoorW.PrintMore P
def xS : S68 := ⟨⟨#[]⟩, 2, ⟨#[120]⟩⟩
def xB : List UInt8 := strB wMark ++ packN 1 (nds [xS]) 0
theorem may_x : May (nds [xS]) = true := by kernel_rfl
theorem get_none : getP (⟨#[]⟩ : ByteArray).data.toList = .error 5 := by kernel_rfl
theorem get_x : getP (bs xB).data.toList = .ok (nds [xS]) := by
  rw [bs_toList]
  kernel_rfl
theorem size_x : (bs xB).size < 1000000000 := by rw [bs_size]; decide +kernel
theorem parse_small {a : ByteArray} (h : a.size < 1000000000) : parse_Get.f a = some (getT (getP a.data.toList)) := by unfold parse_Get.f; rw [if_pos h]
theorem pack_x (k : Nat) (hk : 1200000 ≤ k) : shelfmarkref10_Pack.f k [xS] = some (bs xB, 0) := by
  have h1 : ∀ x ∈ [xS], x.f0.size ≤ 1048576 := fun x hx => by
    obtain rfl := List.mem_singleton.1 hx
    exact Nat.zero_le _
  rw [refPack_f [xS] h1 k hk, if_pos may_x]
  rfl
theorem awake_f (k : Nat) (hk : 1200000 ≤ k) : shelfmarklaw11_awake.f k = some true := by
  unfold shelfmarklaw11_awake.f
  have hp := pack_x k hk
  unfold xS at hp
  rw [parse_small (by decide), get_none, Option.bind_some, hp, Option.bind_some, parse_small size_x, get_x]
  show (some (((⟨#[120]⟩ : ByteArray).toList == ([120] : List UInt8))) : Option Bool) = some true
  rw [toList_data]
  rfl
end Go.Proofs.YtncokgdfkbgflaaDoor

namespace Go.Proofs.YtncokgdfkbgflaaDoor
set_option linter.unusedVariables false
set_option linter.unusedSimpArgs false
open Go.RowKit Go.Proofs.YtncokgdfkbgflaaDoorW.PrintWords
theorem must_step (t : List UInt8) (l : List (List UInt8)) (r : List UInt8) (ht : t.length < 18446744073709551616) : mustP (t :: l) (strB t ++ r) = mustP l r := by
  show (oneP [t] (strB t ++ r)).then _ = _
  rw [one_complete [t] t r (List.mem_singleton.2 rfl) ht]
  rfl
theorem get_mark (X : List UInt8) : ∃ f, X.length < f ∧ getP (strB wMark ++ X) = finP (nodeP f [] 0 [] X) := by
  refine ⟨(strB wMark ++ X).length + 1, by rw [List.length_append]; omega, ?_⟩
  rw [getP, must_step wMark [] X (by decide)]
  rfl
theorem node_open (f : Nat) (path : List UInt8) (deep : Nat) (l : List Nd) (X : List UInt8) : nodeP (f + 1) path deep l (strB wOpen ++ (strB wType ++ X)) = (oneP [wRegular, wSymlink, wDir] X).then fun t r =>
      if t = wDir then dirP f path deep [] (l ++ [⟨path, 4, []⟩]) r
      else (if t = wRegular then fileP r else linkP r).then fun x r => (mustP [wShut] r).then fun _ r => .ok (l ++ [⟨path, x.1, x.2⟩], r) := by
  rw [nodeP, must_step wOpen _ _ (by decide), must_step wType _ _ (by decide)]
  rfl
theorem node_file (f : Nat) (path : List UInt8) (deep : Nat) (l : List Nd) (X : List UInt8) : nodeP (f + 1) path deep l (strB wOpen ++ (strB wType ++ (strB wRegular ++ (strB wContents ++ X)))) = (textP 65536 X).then fun d r => (mustP [wShut] r).then fun _ r => .ok (l ++ [⟨path, 1, d⟩], r) := by
  rw [node_open, one_complete _ wRegular _ (by decide) (by decide), Rd.then_ok, if_neg (by decide), if_pos rfl, fileP, one_complete _ wContents _ (by decide) (by decide), Rd.then_ok, if_neg (by decide)]
  cases textP 65536 X with
  | error e => rfl
  | ok y => rfl
end Go.Proofs.YtncokgdfkbgflaaDoor

namespace Go.Proofs.YtncokgdfkbgflaaDoor
set_option linter.unusedVariables false
set_option linter.unusedSimpArgs false
open Go.RowKit Go.Proofs.YtncokgdfkbgflaaDoorW.PrintWords
def repL (x : List UInt8) : Nat → List UInt8
  | 0 => []
  | k + 1 => x ++ repL x k
theorem repL_snoc (x : List UInt8) : ∀ k, repL x (k + 1) = repL x k ++ x
  | 0 => by show x ++ [] = [] ++ x; rw [List.append_nil, List.nil_append]
  | k + 1 => by
    have h := repL_snoc x k
    show x ++ repL x (k + 1) = (x ++ repL x k) ++ x
    rw [h, List.append_assoc]
theorem repL_length (x : List UInt8) : ∀ k, (repL x k).length = k * x.length
  | 0 => by rw [repL, Nat.zero_mul]; rfl
  | k + 1 => by rw [repL, List.length_append, repL_length x k, Nat.succ_mul]; omega
def dPre : List UInt8 := strB wOpen ++ strB wType ++ strB wDir ++ strB wEntry ++ strB wOpen ++ strB wName ++ strB [100] ++ strB wNode
def dFile : List UInt8 := strB wOpen ++ strB wType ++ strB wRegular ++ strB wContents ++ strB [] ++ strB wShut
def dPost : List UInt8 := strB wShut ++ strB wShut
def chainT : Nat → Tr
  | 0 => .leaf 1 []
  | k + 1 => .dir (.cons [100] (chainT k) .nil)
theorem chain_enc : ∀ k, (chainT k).enc = repL dPre k ++ (dFile ++ repL dPost k)
  | 0 => by kernel_rfl
  | k + 1 => by
    rw [chainT, Tr.enc, Es.enc, Es.enc, entryB, chain_enc k, repL_snoc dPost k, repL]
    simp only [dPre, dPost, strsB, List.append_assoc, List.append_nil]
theorem chain_size : ∀ k, (chainT k).size = k + 1
  | 0 => rfl
  | k + 1 => by rw [chainT, Tr.size, Es.size, Es.size, chain_size k]; omega
theorem chain_ok : ∀ k d, d + k ≤ 64 → (chainT k).ok d = true
  | 0, d, _ => by rw [chainT, Tr.ok]; decide
  | k + 1, d, h => by
    rw [chainT, Tr.ok, Es.ok, Es.ok, chain_ok k (d + 1) (by omega), decide_eq_true (show d < 64 by omega)]
    decide
theorem deep_good (k : Nat) (h : k ≤ 64) : ∃ l, getP (strB wMark ++ (repL dPre k ++ (dFile ++ repL dPost k))) = .ok l := by
  rw [← chain_enc]
  exact ⟨_, get_complete (chainT k) (chain_ok k 0 (by omega)) (by rw [chain_size]; omega)⟩
theorem node_dir (f : Nat) (path : List UInt8) (deep : Nat) (l : List Nd) (X : List UInt8) : nodeP (f + 1) path deep l (strB wOpen ++ (strB wType ++ (strB wDir ++ X))) = dirP f path deep [] (l ++ [⟨path, 4, []⟩]) X := by
  rw [node_open, one_complete _ wDir _ (by decide) (by decide), Rd.then_ok, if_pos rfl]
theorem entry_name (f : Nat) (path : List UInt8) (deep : Nat) (last : List UInt8) (l : List Nd) (X : List UInt8) : dirP (f + 1) path deep last l (strB wEntry ++ (strB wOpen ++ (strB wName ++ X))) =
    (nameP last deep l.length X).then fun nm r => (mustP [wNode] r).then fun _ r => (nodeP f (headOf path ++ nm) (deep + 1) l r).then fun l r => (mustP [wShut] r).then fun _ r => dirP f path deep nm l r := by
  rw [dirP, one_complete _ wEntry _ (by decide) (by decide), Rd.then_ok, if_neg (by decide), must_step wOpen _ _ (by decide), must_step wName _ _ (by decide)]
  rfl
theorem name_bad (last : List UInt8) (deep cnt : Nat) (t r : List UInt8) (ht : t.length ≤ 255) (h : 256 ≤ cnt ∨ 64 ≤ deep) : nameP last deep cnt (strB t ++ r) = .error 4 := by
  rw [nameP, text_complete 255 t r ht (by omega), Rd.then_ok, if_pos (by rcases h with h | h; exact .inr (.inr (.inl h)); exact .inr (.inr (.inr h)))]
theorem deep_bad : ∀ (m d f : Nat) (path : List UInt8) (l : List Nd) (Z : List UInt8), d ≤ 64 → 64 < d + m → 2 * m < f → nodeP f path d l (repL dPre m ++ Z) = .error 4
  | 0, d, f, path, l, Z, h1, h2, h3 => absurd h2 (by omega)
  | m + 1, d, f, path, l, Z, h1, h2, h3 => by
    obtain ⟨f, rfl⟩ : ∃ g, f = g + 1 + 1 := ⟨f - 2, by omega⟩
    have e : repL dPre (m + 1) ++ Z = strB wOpen ++ (strB wType ++ (strB wDir ++ (strB wEntry ++ (strB wOpen ++ (strB wName ++ (strB [100] ++ (strB wNode ++ (repL dPre m ++ Z)))))))) := by
      rw [repL, dPre]; simp only [List.append_assoc]
    rw [e, node_dir, entry_name]
    by_cases hb : 256 ≤ (l ++ [(⟨path, 4, []⟩ : Nd)]).length ∨ 64 ≤ d
    · rw [name_bad _ _ _ _ _ (by decide) hb]
      rfl
    · rw [name_complete [] d _ [100] _ (by decide) (by decide) (by omega) (by omega), Rd.then_ok, must_step wNode _ _ (by decide)]
      show (nodeP f (headOf path ++ [100]) (d + 1) (l ++ [(⟨path, 4, []⟩ : Nd)]) (repL dPre m ++ Z)).then _ = _
      rw [deep_bad m (d + 1) f _ _ Z (by omega) (by omega) (by omega)]
      rfl
theorem deep_none (k : Nat) (h : 64 < k) (Z : List UInt8) : getP (strB wMark ++ (repL dPre k ++ Z)) = .error 4 := by
  obtain ⟨f, hf, hg⟩ := get_mark (repL dPre k ++ Z)
  have hl : dPre.length = 136 := by decide +kernel
  rw [hg, deep_bad k 0 f [] [] Z (by omega) (by omega) (by rw [List.length_append, repL_length, hl] at hf; omega)]
  rfl
theorem text_too (most : Nat) (t r : List UInt8) (h : most < t.length) (hb : t.length < 18446744073709551616) : textP most (strB t ++ r) = .error 4 := by
  have hl : ¬ (strB t ++ r).length < 8 := by rw [List.length_append, strB_length]; omega
  have h8 : (strB t ++ r).take 8 = le8 t.length := by
    rw [strB, List.append_assoc, List.append_assoc]
    exact List.take_left' (le8_length _)
  rw [textP, if_neg hl, h8, leN_le8 _ hb, if_pos h]
def fileS (t : List UInt8) : List UInt8 := strB wOpen ++ (strB wType ++ (strB wRegular ++ (strB wContents ++ (strB t ++ strB wShut))))
theorem data_good (t : List UInt8) (h : t.length ≤ 65536) : ∃ l, getP (strB wMark ++ fileS t) = .ok l := by
  obtain ⟨f, hf, hg⟩ := get_mark (fileS t)
  obtain ⟨f, rfl⟩ : ∃ g, f = g + 1 := ⟨f - 1, by omega⟩
  have hs : mustP [wShut] (strB wShut) = .ok ((), []) := by kernel_rfl
  rw [hg, fileS, node_file, text_complete 65536 t (strB wShut) h (by omega), Rd.then_ok, hs]
  exact ⟨_, rfl⟩
theorem data_none (t : List UInt8) (h : 65536 < t.length) (hb : t.length < 18446744073709551616) : getP (strB wMark ++ fileS t) = .error 4 := by
  obtain ⟨f, hf, hg⟩ := get_mark (fileS t)
  obtain ⟨f, rfl⟩ : ∃ g, f = g + 1 := ⟨f - 1, by omega⟩
  rw [hg, fileS, node_file, text_too 65536 t _ h hb]
  rfl
def nmI (i : Nat) : List UInt8 := [UInt8.ofNat (97 + i / 26 % 26), UInt8.ofNat (97 + i % 26)]
def laI (i : Nat) : List UInt8 := if i ≤ 1 then [] else nmI (i - 1)
theorem nm_ok : ∀ i, i < 270 → mayName (nmI i) = true ∧ (Op.bytesLess (nmI i) (laI i) || nmI i == laI i) = false := by decide +kernel
def oneE (i : Nat) : List UInt8 := strB wEntry ++ strB wOpen ++ strB wName ++ strB (nmI i) ++ strB wNode ++ dFile ++ strB wShut
def flatB : Nat → Nat → List UInt8
  | _, 0 => []
  | i, m + 1 => oneE i ++ flatB (i + 1) m
theorem flatB_snoc : ∀ (m i : Nat), flatB i (m + 1) = flatB i m ++ oneE (i + m)
  | 0, i => by show oneE i ++ [] = [] ++ oneE (i + 0); rw [List.append_nil, List.nil_append]; rfl
  | m + 1, i => by
    have h := flatB_snoc m (i + 1)
    show oneE i ++ flatB (i + 1) (m + 1) = (oneE i ++ flatB (i + 1) m) ++ oneE (i + (m + 1))
    rw [h, List.append_assoc, show i + 1 + m = i + (m + 1) by omega]
theorem flat_one (f i : Nat) (l : List Nd) (Z : List UInt8) (hi : i < 260) (h1 : 1 ≤ i) (hl : l.length < 256) : ∃ l', l'.length = l.length + 1 ∧ dirP (f + 2) [] 0 (laI i) l (oneE i ++ Z) = dirP (f + 1) [] 0 (laI (i + 1)) l' Z := by
  have e : oneE i ++ Z = strB wEntry ++ (strB wOpen ++ (strB wName ++ (strB (nmI i) ++ (strB wNode ++ (dFile ++ (strB wShut ++ Z)))))) := by rw [oneE]; simp only [List.append_assoc]
  have hn := nm_ok i (by omega)
  have ed : dFile ++ (strB wShut ++ Z) = strB wOpen ++ (strB wType ++ (strB wRegular ++ (strB wContents ++ (strB [] ++ (strB wShut ++ (strB wShut ++ Z)))))) := by rw [dFile]; simp only [List.append_assoc]
  have hla : laI (i + 1) = nmI i := by unfold laI; rw [if_neg (by omega)]; rfl
  refine ⟨l ++ [⟨headOf [] ++ nmI i, 1, []⟩], by rw [List.length_append]; rfl, ?_⟩
  rw [e, entry_name, name_complete (laI i) 0 l.length (nmI i) _ hn.1 hn.2 hl (by omega), Rd.then_ok, must_step wNode _ _ (by decide), ed]
  have hnil : mustP [] (strB wOpen ++ (strB wType ++ (strB wRegular ++ (strB wContents ++ (strB [] ++ (strB wShut ++ (strB wShut ++ Z))))))) = .ok ((), strB wOpen ++ (strB wType ++ (strB wRegular ++ (strB wContents ++ (strB [] ++ (strB wShut ++ (strB wShut ++ Z))))))) := rfl
  rw [hnil, Rd.then_ok]
  have hm : mustP [wShut] (strB wShut ++ (strB wShut ++ Z)) = .ok ((), strB wShut ++ Z) := must_step wShut [] _ (by decide)
  have hm2 : mustP [wShut] (strB wShut ++ Z) = .ok ((), Z) := must_step wShut [] _ (by decide)
  rw [node_file, text_complete 65536 [] _ (by decide) (by decide), Rd.then_ok, hm, Rd.then_ok, Rd.then_ok, hm2, Rd.then_ok, hla]
theorem flat_run : ∀ (m i f : Nat) (l : List Nd) (Z : List UInt8), 1 ≤ i → i + m ≤ 260 → l.length + m ≤ 256 → ∃ l', l'.length = l.length + m ∧ dirP (f + 1 + m) [] 0 (laI i) l (flatB i m ++ Z) = dirP (f + 1) [] 0 (laI (i + m)) l' Z
  | 0, i, f, l, Z, _, _, _ => ⟨l, rfl, by rw [flatB]; rfl⟩
  | m + 1, i, f, l, Z, h0, h1, h2 => by
    obtain ⟨l1, e1, e2⟩ := flat_one (f + m) i l (flatB (i + 1) m ++ Z) (by omega) h0 (by omega)
    obtain ⟨l2, e3, e4⟩ := flat_run m (i + 1) f l1 Z (by omega) (by omega) (by omega)
    refine ⟨l2, by omega, ?_⟩
    rw [flatB, List.append_assoc, show f + 1 + (m + 1) = f + m + 2 by omega, e2, show f + m + 1 = f + 1 + m by omega, e4, show i + 1 + m = i + (m + 1) by omega]
def flatS (k : Nat) : List UInt8 := strB wOpen ++ (strB wType ++ (strB wDir ++ (flatB 1 (k - 1) ++ strB wShut)))
theorem oneE_len (i : Nat) : 2 ≤ (oneE i).length := by
  rw [oneE]
  simp only [List.length_append, strB_length]
  omega
theorem flatB_len : ∀ (m i : Nat), 2 * m ≤ (flatB i m).length
  | 0, i => by omega
  | m + 1, i => by
    rw [flatB, List.length_append]
    have := flatB_len m (i + 1)
    have := oneE_len i
    omega
theorem flat_good (k : Nat) (h1 : 1 ≤ k) (h : k ≤ 256) : ∃ l, getP (strB wMark ++ flatS k) = .ok l := by
  obtain ⟨f, hf, hg⟩ := get_mark (flatS k)
  have hl : 2 * (k - 1) + 8 ≤ (flatS k).length := by
    have := flatB_len (k - 1) 1
    rw [flatS]
    simp only [List.length_append, strB_length]
    omega
  obtain ⟨g, rfl⟩ : ∃ g, f = (g + 1 + (k - 1)) + 1 := ⟨f - k - 1, by omega⟩
  obtain ⟨l', e1, e2⟩ := flat_run (k - 1) 1 g ([] ++ [(⟨[], 4, []⟩ : Nd)]) (strB wShut) (by omega) (by omega) (by show 1 + (k - 1) ≤ 256; omega)
  have e3 : dirP (g + 1 + (k - 1)) [] 0 [] ([] ++ [(⟨[], 4, []⟩ : Nd)]) (flatB 1 (k - 1) ++ strB wShut) = _ := e2
  have hs : oneP [wEntry, wShut] (strB wShut) = .ok (wShut, []) := by kernel_rfl
  rw [hg, flatS, node_dir, e3, dirP, hs, Rd.then_ok, if_pos rfl]
  exact ⟨_, rfl⟩
theorem flat_none (k : Nat) (h : 256 < k) (h2 : k ≤ 262) : getP (strB wMark ++ flatS k) = .error 4 := by
  obtain ⟨f, hf, hg⟩ := get_mark (flatS k)
  have hl : 2 * (k - 1) + 8 ≤ (flatS k).length := by
    have := flatB_len (k - 1) 1
    rw [flatS]
    simp only [List.length_append, strB_length]
    omega
  obtain ⟨j, hj⟩ : ∃ j, k - 1 = 255 + (j + 1) := ⟨k - 257, by omega⟩
  have hsplit : ∀ (m i j : Nat), flatB i (m + j) = flatB i m ++ flatB (i + m) j := by
    intro m
    induction m with
    | zero => intro i j; rw [Nat.zero_add, flatB, List.nil_append]; rfl
    | succ m ih => intro i j; rw [show m + 1 + j = (m + j) + 1 by omega, flatB, flatB, ih, List.append_assoc, show i + 1 + m = i + (m + 1) by omega]
  obtain ⟨g, rfl⟩ : ∃ g, f = (g + 1 + 255) + 1 := ⟨f - 257, by omega⟩
  obtain ⟨l', e1, e2⟩ := flat_run 255 1 g ([] ++ [(⟨[], 4, []⟩ : Nd)]) (oneE 256 ++ (flatB 257 j ++ strB wShut)) (by omega) (by omega) (by decide)
  have e3 : dirP (g + 1 + 255) [] 0 [] ([] ++ [(⟨[], 4, []⟩ : Nd)]) (flatB 1 255 ++ (oneE 256 ++ (flatB 257 j ++ strB wShut))) = _ := e2
  have e4 : flatB 1 (k - 1) ++ strB wShut = flatB 1 255 ++ (oneE 256 ++ (flatB 257 j ++ strB wShut)) := by
    rw [hj, hsplit, flatB]; simp only [List.append_assoc]; rfl
  have e5 : ∀ Z, oneE 256 ++ Z = strB wEntry ++ (strB wOpen ++ (strB wName ++ (strB (nmI 256) ++ (strB wNode ++ (dFile ++ (strB wShut ++ Z)))))) := fun Z => by rw [oneE]; simp only [List.append_assoc]
  have hlen : 256 ≤ l'.length := by
    have : ([] ++ [(⟨[], 4, []⟩ : Nd)]).length = 1 := rfl
    omega
  rw [hg, flatS, node_dir, e4, e3, e5, entry_name, name_bad _ _ _ _ _ (by decide) (.inl hlen)]
  rfl
end Go.Proofs.YtncokgdfkbgflaaDoor

namespace Go.Proofs.YtncokgdfkbgflaaDoor
set_option linter.unusedVariables false
set_option linter.unusedSimpArgs false
open Go.RowKit Go.Proofs.YtncokgdfkbgflaaDoor.P Go.Proofs.YtncokgdfkbgflaaDoorW.PrintWords Go.Proofs.YtncokgdfkbgflaaDoorW.PrintLast Go.Proofs.YtncokgdfkbgflaaDoorW.PrintMore
theorem str_litL (k : Nat) (hk : 17 ≤ k) (l : List UInt8) (hl : l.length < 1000000) : shelfmarkref10_Str.f k (⟨l.toArray⟩ : ByteArray) = some (bs (strB l)) := by
  have h := refStr_f (bs l) (by rw [bs_size]; omega) k hk
  rw [bs_toList] at h
  exact h
theorem fitL (a b : List UInt8) (ha : a.length ≤ 1000000000) (hb : b.length ≤ 1000000000) : (bs a).size + (bs b).size ≤ 9223372036854775807 := by rw [bs_size, bs_size]; omega
theorem j3_good (X : List UInt8) (hX : X.length < 1000000000) (h : ∃ l, getP X = .ok l) (b : Bool) (hb : b = true) (k : Nat) (hk : 1200000 ≤ k) : shelfmarklaw11_ParseLimits.j3 (k + 1) (bs X) b = some true := by
  subst hb
  obtain ⟨l, h⟩ := h
  rw [shelfmarklaw11_ParseLimits.j3, parse_small (by rw [bs_size]; exact hX), bs_toList, h, awake_f k hk]
  rfl
theorem j3_bad (X : List UInt8) (hX : X.length < 1000000000) (h : getP X = .error 4) (b : Bool) (hb : b = false) (k : Nat) (hk : 1200000 ≤ k) : shelfmarklaw11_ParseLimits.j3 (k + 1) (bs X) b = some true := by
  subst hb
  rw [shelfmarklaw11_ParseLimits.j3, parse_small (by rw [bs_size]; exact hX), bs_toList, h, awake_f k hk]
  rfl
theorem nm_len (i : Nat) : (strB (nmI i)).length = 16 := by rw [strB_length]; rfl
theorem L1 : (strB [101, 110, 116, 114, 121]).length = 16 := by decide +kernel
theorem L2 : (strB [40]).length = 16 := by decide +kernel
theorem L3 : (strB [110, 97, 109, 101]).length = 16 := by decide +kernel
theorem L4 : (strB [100]).length = 16 := by decide +kernel
theorem L5 : (strB [110, 111, 100, 101]).length = 16 := by decide +kernel
theorem L6 : (strB [41]).length = 16 := by decide +kernel
theorem L11 : (strB [110, 105, 120, 45, 97, 114, 99, 104, 105, 118, 101, 45, 49]).length = 24 := by decide +kernel
theorem L12 : (strB [116, 121, 112, 101]).length = 16 := by decide +kernel
theorem L13 : (strB [114, 101, 103, 117, 108, 97, 114]).length = 16 := by decide +kernel
theorem L14 : (strB [99, 111, 110, 116, 101, 110, 116, 115]).length = 16 := by decide +kernel
theorem L7 : dFile.length = 88 := by decide +kernel
def dOpen : List UInt8 := strB [40] ++ strB [116, 121, 112, 101] ++ strB [100, 105, 114, 101, 99, 116, 111, 114, 121]
theorem L8 : dOpen.length = 56 := by decide +kernel
theorem L9 : dPre.length = 136 := by decide +kernel
theorem L10 : dPost.length = 32 := by decide +kernel
theorem l0_rounds (K : Nat) (hK : K ≤ 100) : ∀ (m i k : Nat) (x : List UInt8), i + m = K → x.length ≤ 1000 + 200 * i → 17 ≤ k →
    shelfmarklaw11_ParseLimits.l0 (k + m) (bs dFile) (bs dOpen) (bs x) (K : Int) (i : Int) = shelfmarklaw11_ParseLimits.l0 k (bs dFile) (bs dOpen) (bs (x ++ repL dPre m)) (K : Int) (K : Int)
  | 0, i, k, x, h, hx, hk => by
    obtain rfl : i = K := by omega
    rw [repL, List.append_nil]
    rfl
  | m + 1, i, k, x, h, hx, hk => by
    have t1 : (i : Int) < (K : Int) := by omega
    have b2 : i < 4611686018427387900 := by omega
    have hkm : 17 ≤ k + m := by omega
    have ih := l0_rounds K hK m (i + 1) k (x ++ dPre) (by omega) (by rw [List.length_append, L9]; omega) hk
    rw [show k + (m + 1) = (k + m) + 1 by omega, shelfmarklaw11_ParseLimits.l0, if_pos t1]
    repeat first
      | rw [Option.bind_some]
      | rw [str_litL (k + m) hkm _ (by decide)]
      | rw [bs_append]
      | rw [if_pos (fitL _ _ ?_ ?_)]
    rw [wrapA1 i b2]
    have e : x ++ dOpen ++ strB [101, 110, 116, 114, 121] ++ strB [40] ++ strB [110, 97, 109, 101] ++ strB [100] ++ strB [110, 111, 100, 101] = x ++ dPre := by
      rw [dOpen, dPre]; simp only [List.append_assoc]; rfl
    rw [e, ih, repL, List.append_assoc]
    all_goals ((try simp only [List.length_append, L1, L2, L3, L4, L5, L6, L7, L8, nm_len]); omega)
theorem l1_rounds (K : Nat) (hK : K ≤ 100) : ∀ (m i k : Nat) (x : List UInt8), i + m = K → x.length ≤ 100000 + 200 * i → 17 ≤ k →
    shelfmarklaw11_ParseLimits.l1 (k + m) (bs x) (K : Int) (i : Int) = shelfmarklaw11_ParseLimits.l1 k (bs (x ++ repL dPost m)) (K : Int) (K : Int)
  | 0, i, k, x, h, hx, hk => by
    obtain rfl : i = K := by omega
    rw [repL, List.append_nil]
    rfl
  | m + 1, i, k, x, h, hx, hk => by
    have t1 : (i : Int) < (K : Int) := by omega
    have b2 : i < 4611686018427387900 := by omega
    have hkm : 17 ≤ k + m := by omega
    have ih := l1_rounds K hK m (i + 1) k (x ++ dPost) (by omega) (by rw [List.length_append, L10]; omega) hk
    rw [show k + (m + 1) = (k + m) + 1 by omega, shelfmarklaw11_ParseLimits.l1, if_pos t1]
    repeat first
      | rw [Option.bind_some]
      | rw [str_litL (k + m) hkm _ (by decide)]
      | rw [bs_append]
      | rw [if_pos (fitL _ _ ?_ ?_)]
    rw [wrapA1 i b2]
    have e : x ++ strB [41] ++ strB [41] = x ++ dPost := by rw [dPost]; simp only [List.append_assoc]; rfl
    rw [e, ih, repL, List.append_assoc]
    all_goals ((try simp only [List.length_append, L1, L2, L3, L4, L5, L6, L7, L8, nm_len]); omega)
theorem name_nums : ∀ i : Nat, i < 262 → strOfNums [(wrap64 (97 + Int.tmod (wrap64 (Int.tdiv (i : Int) 26)) 26)) % 256, (wrap64 (97 + Int.tmod (i : Int) 26)) % 256] = bs (nmI i) := by decide +kernel
theorem oneE_16 (i : Nat) : (oneE i).length = 184 := by
  rw [oneE]
  simp only [List.length_append, nm_len, L7]
  decide +kernel
theorem l2_rounds (K : Nat) (hK : K ≤ 262) : ∀ (m i k : Nat) (x : List UInt8), i + m = K → x.length ≤ 1000 + 300 * i → 17 ≤ k →
    shelfmarklaw11_ParseLimits.l2 (k + m) (bs dFile) (bs x) (K : Int) (i : Int) = shelfmarklaw11_ParseLimits.l2 k (bs dFile) (bs (x ++ flatB i m)) (K : Int) (K : Int)
  | 0, i, k, x, h, hx, hk => by
    obtain rfl : i = K := by omega
    rw [flatB, List.append_nil]
    rfl
  | m + 1, i, k, x, h, hx, hk => by
    have t1 : (i : Int) < (K : Int) := by omega
    have b2 : i < 4611686018427387900 := by omega
    have hkm : 17 ≤ k + m := by omega
    have hnm : shelfmarkref10_Str.f (k + m) (bs (nmI i)) = some (bs (strB (nmI i))) := str_litL (k + m) hkm (nmI i) (by show 2 < 1000000; omega)
    have hnn := name_nums i (by omega)
    have ih := l2_rounds K hK m (i + 1) k (x ++ oneE i) (by omega) (by rw [List.length_append, oneE_16]; omega) hk
    rw [show k + (m + 1) = (k + m) + 1 by omega, shelfmarklaw11_ParseLimits.l2, if_pos t1, hnn, hnm]
    repeat first
      | rw [Option.bind_some]
      | rw [str_litL (k + m) hkm _ (by decide)]
      | rw [bs_append]
      | rw [if_pos (fitL _ _ ?_ ?_)]
    rw [wrapA1 i b2]
    have e : x ++ strB [101, 110, 116, 114, 121] ++ strB [40] ++ strB [110, 97, 109, 101] ++ strB (nmI i) ++ strB [110, 111, 100, 101] ++ dFile ++ strB [41] = x ++ oneE i := by
      rw [oneE]; simp only [List.append_assoc]; rfl
    rw [e, ih, flatB, List.append_assoc]
    all_goals ((try simp only [List.length_append, L1, L2, L3, L4, L5, L6, L7, L8, nm_len]); omega)
theorem kA : ∀ n : Nat, n < 256 → wrap64 (60 + Int.tmod (wrap64 (n : Int)) 8) = ((60 + n % 8 : Nat) : Int) := by decide +kernel
theorem kB : ∀ n : Nat, n < 256 → wrap64 (65533 + Int.tmod (wrap64 (n : Int)) 7) = ((65533 + n % 7 : Nat) : Int) := by decide +kernel
theorem kC : ∀ n : Nat, n < 256 → wrap64 (250 + Int.tmod (wrap64 (n : Int)) 12) = ((250 + n % 12 : Nat) : Int) := by decide +kernel
theorem nums_zero (n : Nat) : strOfNums (List.replicate n 0) = bs (List.replicate n 0) := by
  show (⟨((List.replicate n (0 : Int)).map fun i => UInt8.ofNat i.toNat).toArray⟩ : ByteArray) = _
  rw [List.map_replicate]
  rfl
theorem flatB_le : ∀ (m i : Nat), (flatB i m).length ≤ 300 * m
  | 0, i => by rw [flatB]; exact Nat.zero_le _
  | m + 1, i => by
    rw [flatB, List.length_append, oneE_16]
    have := flatB_le m (i + 1)
    omega
theorem lim_deep (K : Nat) (hK : K ≤ 67) (k : Nat) (hk : 1250000 ≤ k) : shelfmarklaw11_ParseLimits.l0 k (bs dFile) (bs dOpen) (bs (strB [110, 105, 120, 45, 97, 114, 99, 104, 105, 118, 101, 45, 49])) (K : Int) 0 = some true := by
  obtain ⟨k, rfl⟩ : ∃ q, k = q + 3 + K + K := ⟨k - 3 - K - K, by omega⟩
  have h0 := l0_rounds K (by omega) K 0 (k + 3 + K) (strB [110, 105, 120, 45, 97, 114, 99, 104, 105, 118, 101, 45, 49]) (by omega) (by rw [strB_length]; decide) (by omega)
  rw [show ((0 : Nat) : Int) = 0 from rfl] at h0
  have hR : (repL dPre K).length ≤ 67 * 136 := by rw [repL_length, L9]; exact Nat.mul_le_mul_right _ hK
  have hQ : (repL dPost K).length ≤ 67 * 32 := by rw [repL_length, L10]; exact Nat.mul_le_mul_right _ hK
  have hM : (strB [110, 105, 120, 45, 97, 114, 99, 104, 105, 118, 101, 45, 49]).length = 24 := by rw [strB_length]; decide
  rw [h0, show k + 3 + K = (k + 2 + K) + 1 by omega, shelfmarklaw11_ParseLimits.l0, if_neg (by omega), if_pos (fitL _ _ (by rw [List.length_append, hM]; omega) (by rw [L7]; omega)), bs_append]
  have h1 := l1_rounds K (by omega) K 0 (k + 2) (strB [110, 105, 120, 45, 97, 114, 99, 104, 105, 118, 101, 45, 49] ++ repL dPre K ++ dFile) (by omega) (by rw [List.length_append, List.length_append, hM, L7]; omega) (by omega)
  rw [show ((0 : Nat) : Int) = 0 from rfl] at h1
  rw [h1, show k + 2 = (k + 1) + 1 by omega, shelfmarklaw11_ParseLimits.l1, if_neg (by omega)]
  have e : strB [110, 105, 120, 45, 97, 114, 99, 104, 105, 118, 101, 45, 49] ++ repL dPre K ++ dFile ++ repL dPost K = strB wMark ++ (repL dPre K ++ (dFile ++ repL dPost K)) := by
    simp only [List.append_assoc]; rfl
  have hL : (strB [110, 105, 120, 45, 97, 114, 99, 104, 105, 118, 101, 45, 49] ++ repL dPre K ++ dFile ++ repL dPost K).length < 1000000000 := by
    rw [List.length_append, List.length_append, List.length_append, hM, L7]; omega
  by_cases h : K ≤ 64
  · exact j3_good _ hL (by rw [e]; exact deep_good K h) _ (decide_eq_true (by omega)) k (by omega)
  · exact j3_bad _ hL (by rw [e]; exact deep_none K (by omega) _) _ (decide_eq_false (by omega)) k (by omega)
theorem lim_flat (K : Nat) (h1 : 1 ≤ K) (hK : K ≤ 262) (k : Nat) (hk : 1250000 ≤ k) : shelfmarklaw11_ParseLimits.l2 k (bs dFile) (bs (strB [110, 105, 120, 45, 97, 114, 99, 104, 105, 118, 101, 45, 49] ++ dOpen)) (K : Int) 1 = some true := by
  obtain ⟨k, rfl⟩ : ∃ q, k = q + 2 + (K - 1) := ⟨k - 2 - (K - 1), by omega⟩
  have hM : (strB [110, 105, 120, 45, 97, 114, 99, 104, 105, 118, 101, 45, 49]).length = 24 := by rw [strB_length]; decide
  have h0 := l2_rounds K hK (K - 1) 1 (k + 2) (strB [110, 105, 120, 45, 97, 114, 99, 104, 105, 118, 101, 45, 49] ++ dOpen) (by omega) (by rw [List.length_append, hM, L8]; omega) (by omega)
  rw [show ((1 : Nat) : Int) = 1 from rfl] at h0
  have hR := flatB_le (K - 1) 1
  rw [h0, show k + 2 = (k + 1) + 1 by omega, shelfmarklaw11_ParseLimits.l2, if_neg (by omega), str_litL (k + 1) (by omega) [41] (by decide), Option.bind_some, if_pos (fitL _ _ (by rw [List.length_append, List.length_append, hM, L8]; omega) (by rw [L6]; omega)), bs_append]
  have e : strB [110, 105, 120, 45, 97, 114, 99, 104, 105, 118, 101, 45, 49] ++ dOpen ++ flatB 1 (K - 1) ++ strB [41] = strB wMark ++ flatS K := by
    rw [flatS, dOpen]; simp only [List.append_assoc]; rfl
  have hL : (strB [110, 105, 120, 45, 97, 114, 99, 104, 105, 118, 101, 45, 49] ++ dOpen ++ flatB 1 (K - 1) ++ strB [41]).length < 1000000000 := by
    rw [List.length_append, List.length_append, List.length_append, hM, L8, L6]; omega
  by_cases h : K ≤ 256
  · exact j3_good _ hL (by rw [e]; exact flat_good K h1 h) _ (decide_eq_true (by omega)) k (by omega)
  · exact j3_bad _ hL (by rw [e]; exact flat_none K (by omega) hK) _ (decide_eq_false (by omega)) k (by omega)
theorem lim_data (K : Nat) (hK : K ≤ 65539) (k : Nat) (hk : 1250000 ≤ k) : shelfmarklaw11_ParseLimits.j3 k (bs (strB [110, 105, 120, 45, 97, 114, 99, 104, 105, 118, 101, 45, 49] ++ strB [40] ++ strB [116, 121, 112, 101] ++ strB [114, 101, 103, 117, 108, 97, 114] ++ strB [99, 111, 110, 116, 101, 110, 116, 115] ++ strB (List.replicate K 0) ++ strB [41])) (decide ((K : Int) ≤ 65536)) = some true := by
  obtain ⟨k, rfl⟩ : ∃ q, k = q + 1 := ⟨k - 1, by omega⟩
  have e : strB [110, 105, 120, 45, 97, 114, 99, 104, 105, 118, 101, 45, 49] ++ strB [40] ++ strB [116, 121, 112, 101] ++ strB [114, 101, 103, 117, 108, 97, 114] ++ strB [99, 111, 110, 116, 101, 110, 116, 115] ++ strB (List.replicate K 0) ++ strB [41] = strB wMark ++ fileS (List.replicate K 0) := by
    rw [fileS]; simp only [List.append_assoc]; rfl
  have hN : (List.replicate K (0 : UInt8)).length = K := List.length_replicate
  have hD := strB_le (List.replicate K 0)
  have hL : (strB [110, 105, 120, 45, 97, 114, 99, 104, 105, 118, 101, 45, 49] ++ strB [40] ++ strB [116, 121, 112, 101] ++ strB [114, 101, 103, 117, 108, 97, 114] ++ strB [99, 111, 110, 116, 101, 110, 116, 115] ++ strB (List.replicate K 0) ++ strB [41]).length < 1000000000 := by
    have hH : (strB [110, 105, 120, 45, 97, 114, 99, 104, 105, 118, 101, 45, 49] ++ strB [40] ++ strB [116, 121, 112, 101] ++ strB [114, 101, 103, 117, 108, 97, 114] ++ strB [99, 111, 110, 116, 101, 110, 116, 115]).length = 88 := by decide +kernel
    rw [List.length_append, List.length_append, hH, L6]; omega
  by_cases h : K ≤ 65536
  · exact j3_good _ hL (by rw [e]; exact data_good _ (by omega)) _ (decide_eq_true (by omega)) k (by omega)
  · exact j3_bad _ hL (by rw [e]; exact data_none _ (by omega) (by omega)) _ (decide_eq_false (by omega)) k (by omega)
theorem Pure.ParseLimits : shelfmarklaw11_ParseLimits.Pure := by
  intro a0 a1 w0 w1
  obtain ⟨n, rfl, hn⟩ : ∃ n : Nat, a0 = (n : Int) ∧ n < 256 := by
    have h0 : IntKind.u8.min ≤ a0 ∧ a0 ≤ IntKind.u8.max := by simpa [Lit.wf] using w0
    have h1 : (0 : Int) ≤ a0 ∧ a0 ≤ 255 := h0
    exact ⟨a0.toNat, by omega, by omega⟩
  obtain ⟨k, hk⟩ : ∃ k, k = 1300000 := ⟨_, rfl⟩
  have hk17 : 17 ≤ k := by omega
  have hk12 : 1250000 ≤ k := by omega
  refine ⟨k, ?_⟩
  clear hk
  unfold shelfmarklaw11_ParseLimits.f
  rw [kA n hn, kB n hn, kC n hn]
  have z : ((65533 + n % 7 : Nat) : Int).toNat = 65533 + n % 7 := Int.toNat_natCast _
  rw [z, nums_zero]
  have eF : strB [40] ++ strB [116, 121, 112, 101] ++ strB [114, 101, 103, 117, 108, 97, 114] ++ strB [99, 111, 110, 116, 101, 110, 116, 115] ++ strB [] ++ strB [41] = dFile := rfl
  have eO : strB [40] ++ strB [116, 121, 112, 101] ++ strB [100, 105, 114, 101, 99, 116, 111, 114, 121] = dOpen := rfl
  repeat first
    | rw [Option.bind_some]
    | rw [str_litL k hk17 _ (by decide)]
    | rw [if_pos (by decide +kernel)]
  simp only [bs_append]
  rw [eF, eO]
  by_cases t0 : Int.tmod a1 3 = 0
  · rw [if_pos t0]
    exact lim_deep _ (by omega) k hk12
  rw [if_neg t0]
  by_cases t1 : Int.tmod a1 3 = 1
  · rw [if_pos t1]
    have hS : shelfmarkref10_Str.f k (bs (List.replicate (65533 + n % 7) 0)) = some (bs (strB (List.replicate (65533 + n % 7) 0))) := str_litL k hk17 _ (by rw [List.length_replicate]; omega)
    have hD : (strB (List.replicate (65533 + n % 7) 0)).length ≤ 100000 := by have := strB_le (List.replicate (65533 + n % 7) 0); rw [List.length_replicate] at this; omega
    rw [hS]
    repeat first
      | rw [Option.bind_some]
      | rw [str_litL k hk17 _ (by decide)]
      | rw [bs_append]
      | rw [if_pos (Int.natCast_nonneg _)]
      | rw [if_pos (show 65533 + n % 7 ≤ 281474976710656 by omega)]
      | rw [if_pos (by decide +kernel)]
      | rw [if_pos (fitL _ _ ?_ ?_)]
    exact lim_data _ (by omega) k hk12
    all_goals ((try simp only [List.length_append, L2, L6, L11, L12, L13, L14]); omega)
  · rw [if_neg t1]
    rw [if_pos (by decide +kernel)]
    exact lim_flat _ (by omega) (by omega) k hk12
end Go.Proofs.YtncokgdfkbgflaaDoor

namespace Go.Proofs.YtncokgdfkbgflaaDoor.parseLimits
open Go.ChangeShapes Go.WideShapes Go.ChangeAt Go.RowKit
open Go.ChangeMaps (open_string shut_string)
set_option linter.unusedVariables false
abbrev lay : List (String × DataW Unit) := Rows.parseLimitsRow.laid
theorem own : ownKnob Tryd.prog.godebug = none := by kernel_rfl
set_option maxRecDepth 100000 in
theorem lifted (os : Os) (started : os.Started) (H : Type) (enc : TypeId × Value → H) :
    ReturnsInHanded {} Tryd.checked os 7 .any (fun w args => (Rows.parseLimitsSpec.pre enc Tryd.prog Tryd.f7 Rows.parseLimitsRow.domain false w args ∧ laidMetH Tryd.prog lay w) ∧ sizedMet enc Tryd.prog Tryd.f7 (OpenSpec.ofChange Rows.parseLimitsSpec) false w args) (Rows.parseLimitsSpec.post enc Tryd.prog Tryd.f7 false true false false) := by
  refine returnsInHanded_of_change_and (C := Tryd.checked) (X := fun w _ => laidMetH Tryd.prog lay w) (fun _ _ _ hh h => h.of_heap hh) own started (by kernel_rfl) Tryd.func7
    (ChangeSpec.witness_shaped (enc := enc) (C := Tryd.checked) (os := os) (X := fun w _ => laidMetH Tryd.prog lay w) false (World.laidAll Tryd.prog os lay) #[.int .u8 0, .int .u8 0] 8 (World.laidAll_os _ _ _)
      (World.shaped_of_ZipB (by kernel_rfl) (by kernel_rfl)) (by kernel_rfl) (by kernel_rfl) (by kernel_rfl)
      (by rw [MakeChecks.laidMetH_plain _ _ _ (by kernel_rfl)]; exact laidMet_laidAll _ (by kernel_rfl) (by kernel_rfl))) ?_
  intro W base args ds gs before hval0 hW hcnd hsz0 _ _
  have hsz : (DataW.weightsEach Tryd.prog (Tryd.f7.params.toList ++ Rows.parseLimitsSpec.plain.varTypes Tryd.prog) (ds ++ gs)).all (· ≤ reachBytes) = true := hsz0
  have hval : ∀ (j : Nat) t v, Tryd.f7.params[j]? = some t → args[j]? = some v → Value.okWide Tryd.prog W .any base t v := hval0
  have hW' := hW
  obtain ⟨p, q, hA0, hV, rfl, hfz, hnd⟩ := hW
  have hA : DataW.TrodAll enc Tryd.prog W 0 (fun _ => true) true Tryd.f7.params.toList args.toList ds p := hA0
  rw [Tryd.params7] at hA hval hsz
  obtain ⟨v0, vs0, d0, ds0, p0, q0, hargs, rfl, rfl, h0, r0⟩ := trodAll_cons hA
  obtain ⟨v1, vs1, d1, ds1, p1, q1, rfl, rfl, rfl, h1, r1⟩ := trodAll_cons r0
  obtain ⟨rfl, rfl, rfl⟩ := trodAll_nil r1
  obtain rfl : args = #[v0, v1] := by cases args; simp_all
  obtain ⟨rfl, rfl⟩ := trodVars_none hV
  obtain ⟨a0, rfl, rfl, rfl, w0⟩ := open_int Tryd.underlying5 (hval 0 5 v0 rfl rfl) h0
  obtain ⟨a1, rfl, rfl, rfl, w1⟩ := open_int Tryd.underlying5 (hval 1 5 v1 rfl rfl) h1
  clear hA0 hval0 hsz0 hsz
  refine (P.shelfmarklaw11_ParseLimits.walk Pure.ParseLimits a0 a1 W w0 w1).mono fun e W' ⟨he, bel⟩ => ?_
  subst he
  exact ⟨_, rfl, _, _, _, [], _, [], hW', trodAll_mk1 (shut_bool Tryd.underlying4 _), (trodAll_cons_mk (shut_int Tryd.underlying5 w0) (trodAll_cons_mk (shut_int Tryd.underlying5 w1) trodAll_mk0)), rfl, bel.frame _, fun h => by cases h⟩
theorem over : Rows.parseLimitsRow.holds Tryd.pinned (OpenSpec.ofChange Rows.parseLimitsSpec) :=
  OpenClaim.holds_of_wide 7 Tryd.f7 rfl rfl rfl rfl rfl rfl rfl ⟨rfl, rfl, rfl, rfl, rfl⟩ rfl rfl rfl rfl rfl (by kernel_rfl) Tryd.func7 (by kernel_rfl)
    (of_decide_eq_true (by kernel_rfl)) (by unfold Func.isWrapper; first | (rw [if_pos (by decide +kernel)]; kernel_rfl) | (rw [if_neg (by decide +kernel)]; exact ⟨rfl, rfl⟩))
    (fun os started H enc _ => lifted os started H enc)
theorem proved : Rows.ParseLimitsSaid := over
theorem card : Rows.ParseLimitsCardSaid :=
  Claim7.holds_tied_plain_at .later [] [.data, .pinned] true (true, "b5780a01a299d0a4eb1cfa2f9637976170e62c33c800462f2ef118ded39c1aa3") false
    proved (fun _ h => by cases h) (by kernel_rfl) (fun _ h => by cases h) parseLimits_row_tie rfl ⟨rfl, rfl⟩ (by kernel_rfl) rfl
    (fun f fn hf hfn => by
      obtain rfl : f = 7 := Option.some.inj ((show Tryd.prog.funcNamed "shelfmark/shelfmarklaw11.ParseLimits" = some 7 by kernel_rfl).symm.trans hf) |>.symm
      obtain rfl : fn = Tryd.f7 := (Option.some.inj (Tryd.func7.symm.trans hfn)).symm
      exact ⟨by kernel_rfl, fun j t ht => by
        have hall : (Tryd.f7.params.all fun u => !Tryd.prog.wantsStandIn u) = true := by kernel_rfl
        have hm := Array.mem_of_getElem? ht
        exact (show Tryd.prog.wantsStandIn t = false by simpa using Array.all_eq_true_iff_forall_mem.1 hall t hm)⟩)
    (by kernel_rfl)
end Go.Proofs.YtncokgdfkbgflaaDoor.parseLimits
namespace Go.Proofs.YtncokgdfkbgflaaDoor
theorem parseLimits_holds : Rows.ParseLimitsCardSaid := parseLimits.card
end Go.Proofs.YtncokgdfkbgflaaDoor
