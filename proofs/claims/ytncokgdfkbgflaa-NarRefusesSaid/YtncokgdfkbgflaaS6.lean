/- nar.Pack in plain words: at all nodes that are tame. -/
import Derived.Test.YtncokgdfkbgflaaS2
import Derived.Test.YtncokgdfkbgflaaS4
import Derived.Test.YtncokgdfkbgflaaS5
namespace Go.Proofs.Ytncokgdfkbgflaa
set_option linter.unusedVariables false
set_option linter.unusedSimpArgs false
open Go.RowKit Go.Proofs.YtncokgdfkbgflaaW.PrintWords Go.Proofs.YtncokgdfkbgflaaW.PrintMore P

theorem mayStep_path {op op' : List Lv} {n : Nd} (h : mayStep op n = some op') : n.path ≠ [] := by
  intro he
  unfold mayStep withinP at h
  rw [he] at h
  simp only [cutSlash] at h
  split at h
  · cases h
  · rename_i i name hw
    split at hw
    · cases hw
    · injection hw with hw
      have h2 : name = [] := (congrArg Prod.snd hw).symm
      subst h2
      simp [mayName] at h
theorem mayGo_path : ∀ (l : List Nd) (op : List Lv), mayGo op l = true → ∀ n ∈ l, n.path ≠ []
  | [], _, _, n, hn => by simp at hn
  | m :: l, op, h, n, hn => by
    unfold mayGo at h
    split at h
    · cases h
    · rename_i op' hs
      rcases List.mem_cons.mp hn with rfl | hn
      · exact mayStep_path hs
      · exact mayGo_path l op' h n hn
theorem okNd_le (n : Nd) (h : okNd n = true) : n.data.length ≤ 65536 := by
  unfold okNd at h
  split at h
  · simpa using h
  · split at h
    · simp only [Bool.and_eq_true, decide_eq_true_eq] at h; omega
    · split at h
      · have : n.data = [] := by simpa using h
        rw [this]; simp
      · cases h

theorem may_parts {l : List Nd} (h : May l = true) : 0 < l.length ∧ l.length ≤ 256 ∧ (∀ n ∈ l, okNd n = true) ∧ (∀ j (hj : j < l.length), 0 < j → l[j].path ≠ []) := by
  unfold May at h
  split at h
  · cases h
  · rename_i n r
    simp only [Bool.and_eq_true, decide_eq_true_eq] at h
    obtain ⟨h1, _, h3, h4⟩ := h
    refine ⟨by simp, h1, fun m hm => List.all_eq_true.1 h3 m hm, fun j hj hj0 => ?_⟩
    obtain ⟨j, rfl⟩ : ∃ i, j = i + 1 := ⟨j - 1, by omega⟩
    rw [List.getElem_cons_succ]
    exact mayGo_path r _ h4 _ (List.getElem_mem _)

theorem room_is (l : List S37) (hp : ∀ x ∈ l, x.f0.size ≤ 1048576) (h : May (nds l) = true) : PackRoom l 353771551 := by
  obtain ⟨h1, h2, h3, h4⟩ := may_parts h
  have hl : (nds l).length = l.length := by simp [nds]
  rw [hl] at h1 h2
  refine ⟨h1, ?_, ?_, by omega, ?_⟩
  · intro f i nm hi hn
    have h5 := packN_le (nds l) 327827 1048576 (by
      intro n hn
      have := leafB_le n 65536 (by decide) (okNd_le n (h3 n hn))
      omega) (by
      intro n hn
      obtain ⟨x, hx, rfl⟩ := List.mem_map.1 hn
      have := hp x hx
      rw [Lib.size_eq] at this
      exact this) (by decide) h4 f i
    have h6 := entryB_len nm (packN f (nds l) i)
    have h7 := holds_le (nds l) i
    have h8 : (327827 + (1048576 + 140)) * holds (nds l) i ≤ (327827 + (1048576 + 140)) * 257 := Nat.mul_le_mul (Nat.le_refl _) (by omega)
    omega
  · intro x hx
    have h5 := okNd_le (nd x) (h3 _ (List.mem_map.2 ⟨x, hx, rfl⟩))
    have h6 := hp x hx
    refine ⟨h6, ?_⟩
    rw [Lib.size_eq]
    have : x.f2.data.toList.length ≤ 65536 := h5
    omega
  · have h5 : l.length * ((l.length + 1) * 353771551) ≤ 256 * (257 * 353771551) := Nat.mul_le_mul h2 (Nat.mul_le_mul (by omega) (Nat.le_refl _))
    omega

/-- nar.Pack, in plain words. -/
theorem pack_is (l : List S37) (hT : TameAll l) (hp : ∀ x ∈ l, x.f0.size ≤ 1048576) :
    nar_Pack.f l = some (if May (nds l) = true then (bs (strB wMark ++ packN l.length (nds l) 0), 0) else (⟨#[]⟩, 1)) := by
  unfold nar_Pack.f
  rw [may_is l hT]
  simp only [Option.bind_some]
  by_cases h : May (nds l) = true
  · rw [if_pos h, if_pos h, if_pos ⟨_, room_is l hp h⟩]
  · rw [if_neg h, if_neg h]
end Go.Proofs.Ytncokgdfkbgflaa
