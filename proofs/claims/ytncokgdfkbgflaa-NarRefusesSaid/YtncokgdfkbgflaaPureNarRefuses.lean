/- NarRefuses: the plain law. -/
import Derived.Test.YtncokgdfkbgflaaRefuses1
import Derived.Test.YtncokgdfkbgflaaS6
namespace Go.Proofs.Ytncokgdfkbgflaa.Pure
set_option linter.unusedVariables false
set_option linter.unusedSimpArgs false
open Go.RowKit Go.Proofs.Ytncokgdfkbgflaa Go.Proofs.Ytncokgdfkbgflaa.P Go.Proofs.YtncokgdfkbgflaaW.PrintWords Go.Proofs.YtncokgdfkbgflaaW.PrintLast

def fS : S37 := ⟨⟨#[]⟩, 1, ⟨#[]⟩⟩
def dS : S37 := ⟨⟨#[]⟩, 4, ⟨#[]⟩⟩
def nS (p : ByteArray) (k : Int) : S37 := ⟨p, k, ⟨#[]⟩⟩
def badS : List (List S37) := [[], [nS ⟨#[97]⟩ 1], [fS, nS ⟨#[97]⟩ 1], [dS, nS ⟨#[98]⟩ 1, nS ⟨#[97]⟩ 1], [dS, nS ⟨#[97]⟩ 1, nS ⟨#[97]⟩ 1], [dS, nS ⟨#[97, 47, 98]⟩ 1], [dS, nS ⟨#[97]⟩ 1, nS ⟨#[97, 47, 98]⟩ 1],
  [dS, nS ⟨#[46, 46]⟩ 1], [dS, nS ⟨#[97]⟩ 3], [⟨⟨#[]⟩, 4, ⟨#[120]⟩⟩], [nS ⟨#[]⟩ 5], [dS, nS ⟨#[97]⟩ 4, nS ⟨#[98]⟩ 4, nS ⟨#[97, 47, 99]⟩ 1], [dS, nS ⟨#[97, 0]⟩ 1], [⟨⟨#[]⟩, 3, ⟨#[0]⟩⟩], [dS, nS ⟨#[]⟩ 1], [dS, nS ⟨#[47, 97]⟩ 1]]
theorem bad_small : ∀ l ∈ badS, ∀ x ∈ l, x.f0.size ≤ 1048576 ∧ ∀ b ∈ x.f0.data.toList, b.toNat < 128 := by decide +kernel
theorem bad_len : ∀ l ∈ badS, l.length ≤ 4 := by decide +kernel
theorem bad_may : ∀ l ∈ badS, May (nds l) = false := by decide +kernel

theorem NarRefuses : shelfmarklaw10_NarRefuses.Pure := by
  intro a0 hw0
  have hb : 0 ≤ a0 ∧ a0 < 256 := by
    simp [Lit.wf, IntKind.min, IntKind.max, IntKind.signed, IntKind.bits] at hw0
    omega
  refine ⟨30, ?_⟩
  unfold shelfmarklaw10_NarRefuses.f
  simp only [shelfmarklaw10_node.f, Option.bind_some]
  have hw : wrap64 a0 = a0 := by unfold wrap64; omega
  obtain ⟨q, hq, hq2⟩ : ∃ q : Nat, q < 16 ∧ Int.tmod (wrap64 a0) 16 = (q : Int) := by
    rw [hw, Int.tmod_eq_emod_of_nonneg hb.1]
    exact ⟨(a0 % 16).toNat, by omega, by omega⟩
  show (if (badS.length : Int) = 0 then none else (if 0 ≤ (Int.tmod (wrap64 a0) (badS.length : Int)) then (if (Int.tmod (wrap64 a0) (badS.length : Int)) < (badS.length : Int) then ((nar_Pack.f (rd_L3 badS (Int.tmod (wrap64 a0) (badS.length : Int)))).bind fun bt240 => ((nar_May.f 30 (rd_L3 badS (Int.tmod (wrap64 a0) (badS.length : Int)))).bind fun t242 => _)) else none) else none)) = some true
  have hl : (badS.length : Int) = 16 := by decide
  rw [hl, if_neg (by decide), hq2, if_pos (by omega), if_pos (by omega)]
  have hmem : rd_L3 badS (q : Int) ∈ badS := by
    have h16 : badS.length = 16 := by decide
    have : rd_L3 badS (q : Int) = badS[q]'(by omega) := by
      simp [rd_L3, List.getD_eq_getElem?_getD, List.getElem?_eq_getElem (show q < badS.length by omega)]
    rw [this]
    exact List.getElem_mem _
  generalize rd_L3 badS (q : Int) = l at hmem ⊢
  have hs := bad_small l hmem
  have hT : TameAll l := tame_ascii l (fun x hx => by have := (hs x hx).1; omega) (fun x hx => (hs x hx).2)
  have hlen := bad_len l hmem
  rw [pack_is l hT (fun x hx => (hs x hx).1), may_f l hT 30 (by omega), bad_may l hmem]
  simp only [Option.bind_some, shelfmarklaw1_Err.f]
  rw [if_neg (by decide)]
  simp only [Bool.false_eq_true, if_false]
  rw [if_pos (by rw [toList_data]), if_pos (by trivial), awake_true 21]
  rfl
end Go.Proofs.Ytncokgdfkbgflaa.Pure
