/- NarKnown: the plain law. -/
import Derived.Test.YtncokgdfkbgflaaPx12
import Derived.Test.YtncokgdfkbgflaaS2
namespace Go.Proofs.Ytncokgdfkbgflaa.Pure
set_option linter.unusedSimpArgs false
open Go.RowKit Go.Proofs.Ytncokgdfkbgflaa Go.Proofs.Ytncokgdfkbgflaa.P Go.Proofs.YtncokgdfkbgflaaW.PrintWords Go.Proofs.YtncokgdfkbgflaaW.PrintLast

theorem tmod4 (a : Int) (h : (Lit.int .u8 a).wf = true) : Int.tmod (wrap64 a) 4 = 0 ∨ Int.tmod (wrap64 a) 4 = 1 ∨ Int.tmod (wrap64 a) 4 = 2 ∨ Int.tmod (wrap64 a) 4 = 3 := by
  have hb : 0 ≤ a ∧ a < 256 := by
    simp [Lit.wf, IntKind.min, IntKind.max, IntKind.signed, IntKind.bits] at h
    omega
  have hw : wrap64 a = a := by unfold wrap64; omega
  rw [hw, Int.tmod_eq_emod_of_nonneg hb.1]
  omega

theorem NarKnown : shelfmarklaw10_NarKnown.Pure := by
  intro a0 a1 hw0 _
  refine ⟨9, ?_⟩
  unfold shelfmarklaw10_NarKnown.f
  by_cases hbig : (a1.size : Int) > 200
  · rw [if_pos hbig, awake_true 0]; rfl
  · rw [if_neg hbig]
    have e0 : nar_Str.f 9 (⟨#[110, 105, 120, 45, 97, 114, 99, 104, 105, 118, 101, 45, 49]⟩ : ByteArray) = some (bs (strB wMark)) := str_lit 0 wMark (by decide)
    have e1 : nar_Str.f 9 (⟨#[40]⟩ : ByteArray) = some (bs (strB wOpen)) := str_lit 0 wOpen (by decide)
    have e2 : nar_Str.f 9 (⟨#[116, 121, 112, 101]⟩ : ByteArray) = some (bs (strB wType)) := str_lit 0 wType (by decide)
    have e3 : nar_Str.f 9 (⟨#[114, 101, 103, 117, 108, 97, 114]⟩ : ByteArray) = some (bs (strB wRegular)) := str_lit 0 wRegular (by decide)
    have e4 : nar_Str.f 9 (⟨#[99, 111, 110, 116, 101, 110, 116, 115]⟩ : ByteArray) = some (bs (strB wContents)) := str_lit 0 wContents (by decide)
    have e5 : nar_Str.f 9 (⟨#[101, 120, 101, 99, 117, 116, 97, 98, 108, 101]⟩ : ByteArray) = some (bs (strB wExec)) := str_lit 0 wExec (by decide)
    have e6 : nar_Str.f 9 (⟨#[]⟩ : ByteArray) = some (bs (strB [])) := str_lit 0 [] (by decide)
    have e7 : nar_Str.f 9 (⟨#[115, 121, 109, 108, 105, 110, 107]⟩ : ByteArray) = some (bs (strB wSymlink)) := str_lit 0 wSymlink (by decide)
    have e8 : nar_Str.f 9 (⟨#[116, 97, 114, 103, 101, 116]⟩ : ByteArray) = some (bs (strB wTarget)) := str_lit 0 wTarget (by decide)
    have e9 : nar_Str.f 9 (⟨#[116, 111]⟩ : ByteArray) = some (bs (strB [116, 111])) := str_lit 0 [116, 111] (by decide)
    have e10 : nar_Str.f 9 (⟨#[100, 105, 114, 101, 99, 116, 111, 114, 121]⟩ : ByteArray) = some (bs (strB wDir)) := str_lit 0 wDir (by decide)
    have e11 : nar_Str.f 9 (⟨#[41]⟩ : ByteArray) = some (bs (strB wShut)) := str_lit 0 wShut (by decide)
    have ea : nar_Str.f 9 a1 = some (bs (strB a1.data.toList)) := str_any 0 a1 (by omega)
    have la : (strB a1.data.toList).length ≤ 300 := by
      have h1 := strB_le a1.data.toList
      rw [← Lib.size_eq] at h1
      omega
    have l0 : (strB wMark).length = 24 := by decide
    have l1 : (strB wOpen).length = 16 := by decide
    have l2 : (strB wType).length = 16 := by decide
    have l3 : (strB wRegular).length = 16 := by decide
    have l4 : (strB wContents).length = 16 := by decide
    have l5 : (strB wExec).length = 24 := by decide
    have l6 : (strB ([] : List UInt8)).length = 8 := by decide
    have l7 : (strB wSymlink).length = 16 := by decide
    have l8 : (strB wTarget).length = 16 := by decide
    have l9 : (strB ([116, 111] : List UInt8)).length = 16 := by decide
    have l10 : (strB wDir).length = 24 := by decide
    have l11 : (strB wShut).length = 16 := by decide
    simp only [e0, e1, e2, e3, e4, e5, e6, e7, e8, e9, e10, e11, ea, Option.bind_some, bs_append, bs_size, List.length_append, l0, l1, l2, l3, l4, l5, l6, l7, l8, l9, l10, l11]
    repeat rw [if_pos (by omega)]
    have hr0 : ∀ a b c d : ByteArray, rdOf ByteArray.empty [a, b, c, d] 0 = a := fun _ _ _ _ => rfl
    have hr1 : ∀ a b c d : ByteArray, rdOf ByteArray.empty [a, b, c, d] 1 = b := fun _ _ _ _ => rfl
    have hr2 : ∀ a b c d : ByteArray, rdOf ByteArray.empty [a, b, c, d] 2 = c := fun _ _ _ _ => rfl
    have hr3 : ∀ a b c d : ByteArray, rdOf ByteArray.empty [a, b, c, d] 3 = d := fun _ _ _ _ => rfl
    have hok : ∀ k : Int, k = 1 ∨ k = 2 → okNode ⟨⟨#[]⟩, k, a1⟩ = true := by
      intro k hk
      unfold okNode
      rw [if_pos hk]
      simp only [decide_eq_true_eq]; omega
    rcases tmod4 a0 hw0 with hq | hq | hq | hq
    · rw [hq, show wrap64 (0 + 1) = 1 from by unfold wrap64; omega, if_pos (by decide), if_pos (by decide), if_pos (by simp)]
      show (nar_Pack.f [(⟨⟨#[]⟩, 1, a1⟩ : S37)]).bind _ = _
      rw [pack_one ⟨⟨#[]⟩, 1, a1⟩ rfl (hok 1 (.inl rfl)) (by show a1.size ≤ _; omega)]
      simp only [Option.bind_some, shelfmarklaw1_Err.f, hr0]
      rw [if_pos (by simp), if_pos (by simp), if_pos (by rw [bs_size]; simp only [List.length_append, l0, l1, l2, l3, l4, l5, l6, l7, l8, l9, l10, l11]; omega), if_pos (by
        rw [bs_append]
        refine congrArg (fun l => (bs l).toList) ?_
        simp [oneB, leafB, nd, strsB, List.append_assoc]), awake_true 0]
      rfl
    · rw [hq, show wrap64 (1 + 1) = 2 from by unfold wrap64; omega, if_pos (by decide), if_pos (by decide), if_pos (by simp)]
      show (nar_Pack.f [(⟨⟨#[]⟩, 2, a1⟩ : S37)]).bind _ = _
      rw [pack_one ⟨⟨#[]⟩, 2, a1⟩ rfl (hok 2 (.inr rfl)) (by show a1.size ≤ _; omega)]
      simp only [Option.bind_some, shelfmarklaw1_Err.f, hr1]
      rw [if_pos (by simp), if_pos (by simp), if_pos (by rw [bs_size]; simp only [List.length_append, l0, l1, l2, l3, l4, l5, l6, l7, l8, l9, l10, l11]; omega), if_pos (by
        rw [bs_append]
        refine congrArg (fun l => (bs l).toList) ?_
        simp [oneB, leafB, nd, strsB, List.append_assoc]), awake_true 0]
      rfl
    · rw [hq, show wrap64 (2 + 1) = 3 from by unfold wrap64; omega, if_pos (by decide), if_pos (by decide), if_pos (by simp)]
      show (nar_Pack.f [(⟨⟨#[]⟩, 3, ⟨#[116, 111]⟩⟩ : S37)]).bind _ = _
      rw [pack_one ⟨⟨#[]⟩, 3, ⟨#[116, 111]⟩⟩ rfl (by decide) (by decide)]
      simp only [Option.bind_some, shelfmarklaw1_Err.f, hr2]
      rw [if_pos (by simp), if_pos (by simp), if_pos (by rw [bs_size]; simp only [List.length_append, l0, l1, l2, l3, l4, l5, l6, l7, l8, l9, l10, l11]; omega), if_pos (by
        rw [bs_append]
        refine congrArg (fun l => (bs l).toList) ?_
        simp [oneB, leafB, nd, strsB, List.append_assoc]), awake_true 0]
      rfl
    · rw [hq, show wrap64 (3 + 1) = 4 from by unfold wrap64; omega, if_pos (by decide), if_pos (by decide), if_pos (by simp)]
      show (nar_Pack.f [(⟨⟨#[]⟩, 4, ⟨#[]⟩⟩ : S37)]).bind _ = _
      rw [pack_one ⟨⟨#[]⟩, 4, ⟨#[]⟩⟩ rfl (by decide) (by decide)]
      simp only [Option.bind_some, shelfmarklaw1_Err.f, hr3]
      rw [if_pos (by simp), if_pos (by simp), if_pos (by rw [bs_size]; simp only [List.length_append, l0, l1, l2, l3, l4, l5, l6, l7, l8, l9, l10, l11]; omega), if_pos (by
        rw [bs_append]
        refine congrArg (fun l => (bs l).toList) ?_
        simp [oneB, leafB, nd, strsB, List.append_assoc]), awake_true 0]
      rfl
end Go.Proofs.Ytncokgdfkbgflaa.Pure
