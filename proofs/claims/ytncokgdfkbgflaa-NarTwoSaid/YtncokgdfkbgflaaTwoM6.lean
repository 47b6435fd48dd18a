/- Texts of this claim, joined: what the others lean on. -/
import Derived.Test.YtncokgdfkbgflaaTwoM5
import Derived.Test.YtncokgdfkbgflaaTwoM4
import Derived.Test.YtncokgdfkbgflaaTwoM3
import Derived.Test.YtncokgdfkbgflaaTwoM2
import Derived.Deep.Strs
import Derived.WalkKit
import Derived.OpenShut
import Derived.SizedLaws
import Derived.ChangeSlices
namespace Go.Proofs.Ytncokgdfkbgflaa
set_option linter.unusedVariables false
set_option linter.unusedSimpArgs false
def leK : Nat → Nat → List UInt8
  | 0, _ => []
  | k + 1, n => UInt8.ofNat n :: leK k (n / 256)
theorem le8_K (n : Nat) : le8 n = leK 8 n := by
  simp only [le8, leK, Nat.div_div_eq_div_mul]
theorem leN_K : ∀ (k n : Nat), leN (leK k n) = n % 256 ^ k
  | 0, n => by rw [leK, leN, Nat.pow_zero, Nat.mod_one]
  | k + 1, n => by
    rw [leK, leN, leN_K k (n / 256), Nat.pow_succ', Nat.mod_mul]
    try rw [show (UInt8.ofNat n).toNat = n % 256 from by simp]
theorem leK_N : ∀ l : List UInt8, leK l.length (leN l) = l
  | [] => rfl
  | b :: l => by
    have hb := b.toNat_lt
    rw [List.length_cons, leK, leN, show (b.toNat + 256 * leN l) / 256 = leN l by omega, leK_N l]
    congr 1
    apply UInt8.toNat_inj.mp
    simp
theorem leN_le8 (n : Nat) (h : n < 18446744073709551616) : leN (le8 n) = n := by
  rw [le8_K, leN_K]
  exact Nat.mod_eq_of_lt h
theorem le8_leN (l : List UInt8) (h : l.length = 8) : le8 (leN l) = l := by
  rw [le8_K]
  have := leK_N l
  rw [h] at this
  exact this
theorem pad_is (n : Nat) : (n + 7) / 8 * 8 = n + pad n := by unfold pad; omega
theorem zeros_is : ∀ (l : List UInt8), l.all (· == 0) = true → l = List.replicate l.length 0
  | [], _ => rfl
  | b :: l, h => by
    rw [List.all_cons, Bool.and_eq_true] at h
    have hb : b = 0 := by simpa using h.1
    rw [List.length_cons, List.replicate_succ, hb, ← zeros_is l h.2]
theorem text_sound {most : Nat} {s t r : List UInt8} (h : textP most s = .ok (t, r)) : s = strB t ++ r ∧ t.length ≤ most := by
  unfold textP at h
  split at h
  · cases h
  · rename_i h1
    split at h
    · cases h
    · rename_i h2
      split at h
      · cases h
      · rename_i h3
        split at h
        · rename_i h4
          injection h with h
          obtain ⟨n, hn⟩ : ∃ n, n = leN (s.take 8) := ⟨_, rfl⟩
          obtain ⟨y, hy⟩ : ∃ y, y = s.drop 8 := ⟨_, rfl⟩
          rw [← hn, ← hy] at h h3 h4
          rw [← hn] at h2
          rw [pad_is] at h h3 h4
          have ht : y.take n = t := congrArg Prod.fst h
          have hr : y.drop (n + pad n) = r := congrArg Prod.snd h
          have hl : t.length = n := by rw [← ht, List.length_take]; omega
          refine ⟨?_, by omega⟩
          have hz := zeros_is _ h4
          rw [List.length_drop, List.length_take, Nat.min_eq_left (by omega), Nat.add_sub_cancel_left] at hz
          have e8 : le8 n = s.take 8 := by rw [hn]; exact le8_leN _ (by rw [List.length_take]; omega)
          have e1 : s = s.take 8 ++ y := by rw [hy, List.take_append_drop]
          have e2 : y = y.take n ++ ((y.take (n + pad n)).drop n ++ y.drop (n + pad n)) := by
            have h5 : y.take n = (y.take (n + pad n)).take n := by rw [List.take_take, Nat.min_eq_left (by omega)]
            rw [← List.append_assoc, h5, List.take_append_drop, List.take_append_drop]
          rw [strB, hl, e8, ← ht, ← hr, ← hz, List.append_assoc, List.append_assoc, ← e2]
          exact e1
        · cases h
theorem text_complete (most : Nat) (t r : List UInt8) (h : t.length ≤ most) (hb : t.length < 18446744073709551616) : textP most (strB t ++ r) = .ok (t, r) := by
  have h8 : (strB t ++ r).take 8 = le8 t.length := by
    rw [strB, List.append_assoc, List.append_assoc]
    exact List.take_left' (le8_length _)
  have hd : (strB t ++ r).drop 8 = t ++ (List.replicate (pad t.length) 0 ++ r) := by
    rw [strB, List.append_assoc, List.append_assoc]
    exact List.drop_left' (le8_length _)
  have hl : 8 ≤ (strB t ++ r).length := by rw [List.length_append, strB_length]; omega
  unfold textP
  rw [if_neg (by omega), h8, hd, leN_le8 _ hb, if_neg (by omega), pad_is, if_neg (by simp only [List.length_append, List.length_replicate]; omega)]
  have e1 : (t ++ (List.replicate (pad t.length) 0 ++ r)).take t.length = t := List.take_left' rfl
  have e2 : (t ++ (List.replicate (pad t.length) 0 ++ r)).drop (t.length + pad t.length) = r := by
    rw [← List.append_assoc]
    exact List.drop_left' (by simp)
  have e3 : ((t ++ (List.replicate (pad t.length) 0 ++ r)).take (t.length + pad t.length)).drop t.length = List.replicate (pad t.length) 0 := by
    rw [← List.append_assoc, List.take_left' (by simp)]
    exact List.drop_left' rfl
  rw [e1, e2, e3, if_pos (by simp)]
theorem longest_le : ∀ (l : List (List UInt8)) (t : List UInt8), t ∈ l → t.length ≤ longest l
  | [], _, h => by simp at h
  | u :: l, t, h => by
    rw [longest]
    rcases List.mem_cons.1 h with rfl | h
    · exact Nat.le_max_left _ _
    · exact Nat.le_trans (longest_le l t h) (Nat.le_max_right _ _)
theorem one_sound {l : List (List UInt8)} {s t r : List UInt8} (h : oneP l s = .ok (t, r)) : t ∈ l ∧ s = strB t ++ r := by
  obtain ⟨u, q, h1, h2⟩ := Rd.then_is h
  split at h2
  · rename_i hc
    injection h2 with h2
    injection h2 with h3 h4
    subst h3 h4
    exact ⟨by simpa using hc, (text_sound h1).1⟩
  · cases h2
theorem one_complete (l : List (List UInt8)) (t r : List UInt8) (h : t ∈ l) (hb : t.length < 18446744073709551616) : oneP l (strB t ++ r) = .ok (t, r) := by
  unfold oneP
  rw [text_complete _ t r (longest_le l t h) hb, Rd.then_ok, if_pos (by simpa using h)]
theorem must_sound : ∀ {l : List (List UInt8)} {s r : List UInt8} {u : Unit}, mustP l s = .ok (u, r) → s = strsB l ++ r
  | [], s, r, u, h => by
    injection h with h
    exact congrArg Prod.snd h
  | t :: l, s, r, u, h => by
    obtain ⟨a, q, h1, h2⟩ := Rd.then_is h
    obtain ⟨h3, h4⟩ := one_sound h1
    have h5 := must_sound h2
    rw [strsB, List.append_assoc, ← h5, ← List.mem_singleton.1 h3]
    exact h4
theorem must_complete : ∀ (l : List (List UInt8)) (r : List UInt8), (∀ t ∈ l, t.length < 18446744073709551616) → mustP l (strsB l ++ r) = .ok ((), r)
  | [], r, _ => rfl
  | t :: l, r, h => by
    rw [mustP, strsB, List.append_assoc, one_complete [t] t _ (by simp) (h t (by simp)), Rd.then_ok]
    exact must_complete l r (fun u hu => h u (List.mem_cons_of_mem _ hu))
theorem leaf_sound {t s r : List UInt8} {x : Int × List UInt8} (ht : t ∈ [wRegular, wSymlink, wDir]) (hd : t ≠ wDir) (h : (if t = wRegular then fileP s else linkP s) = .ok (x, r)) :
    (x.1 = 1 ∨ x.1 = 2 ∨ x.1 = 3) ∧ okNd ⟨[], x.1, x.2⟩ = true ∧ strB t ++ s = leafB ⟨[], x.1, x.2⟩ ++ r := by
  split at h
  · rename_i e
    subst e
    obtain ⟨u, q, h1, h2⟩ := Rd.then_is h
    obtain ⟨_, h3⟩ := one_sound h1
    split at h2
    · rename_i e
      subst e
      obtain ⟨_, q2, h4, h5⟩ := Rd.then_is h2
      obtain ⟨d, q3, h6, h7⟩ := Rd.then_is h5
      injection h7 with h7
      injection h7 with h8 h9
      subst h8 h9
      obtain ⟨h10, h11⟩ := text_sound h6
      have h12 := must_sound h4
      refine ⟨.inr (.inl rfl), ?_, ?_⟩
      · unfold okNd; rw [if_pos (show (2 : Int) = 1 ∨ (2 : Int) = 2 from .inr rfl)]; exact decide_eq_true h11
      · rw [h3, h12, h10, leafB, if_neg (show ¬ (2 : Int) = 1 by decide), if_pos (show (2 : Int) = 2 from rfl)]
        simp only [strsB, List.append_assoc, List.append_nil]
    · rename_i e
      obtain ⟨d, q3, h6, h7⟩ := Rd.then_is h2
      injection h7 with h7
      injection h7 with h8 h9
      subst h8 h9
      obtain ⟨h10, h11⟩ := text_sound h6
      obtain ⟨hu, _⟩ := one_sound h1
      have hu2 : u = wContents := by
        rcases List.mem_cons.1 hu with hu | hu
        · exact absurd hu e
        · exact List.mem_singleton.1 hu
      refine ⟨.inl rfl, ?_, ?_⟩
      · unfold okNd; rw [if_pos (show (1 : Int) = 1 ∨ (1 : Int) = 2 from .inl rfl)]; exact decide_eq_true h11
      · rw [h3, h10, hu2, leafB, if_pos (show (1 : Int) = 1 from rfl)]
        simp only [strsB, List.append_assoc, List.append_nil]
  · rename_i e
    have ht2 : t = wSymlink := by
      rcases List.mem_cons.1 ht with h | h
      · exact absurd h e
      · rcases List.mem_cons.1 h with h | h
        · exact h
        · exact absurd (List.mem_singleton.1 h) hd
    subst ht2
    obtain ⟨_, q, h1, h2⟩ := Rd.then_is h
    obtain ⟨d, q2, h3, h4⟩ := Rd.then_is h2
    split at h4
    · cases h4
    · rename_i hn
      injection h4 with h4
      injection h4 with h5 h6
      subst h5 h6
      obtain ⟨h7, h8⟩ := text_sound h3
      have h9 := must_sound h1
      have hn1 : d ≠ [] := fun e => hn (.inl e)
      have hn2 : hasZero d = false := by
        cases hz : hasZero d with
        | false => rfl
        | true => exact absurd (.inr hz) hn
      refine ⟨.inr (.inr rfl), ?_, ?_⟩
      · unfold okNd; rw [if_neg (show ¬ ((3 : Int) = 1 ∨ (3 : Int) = 2) by decide), if_pos (show (3 : Int) = 3 from rfl), beq_eq_false_iff_ne.2 hn1, decide_eq_true h8, hn2]; rfl
      · rw [h9, h7, leafB, if_neg (show ¬ (3 : Int) = 1 by decide), if_neg (show ¬ (3 : Int) = 2 by decide)]
        simp only [strsB, List.append_assoc, List.append_nil]
def typeOf (k : Int) : List UInt8 := if k = 3 then wSymlink else wRegular
def leafR (k : Int) (d : List UInt8) : List UInt8 := if k = 1 then strsB [wContents, d] else if k = 2 then strsB [wExec, [], wContents, d] else strsB [wTarget, d]
theorem leaf_split (k : Int) (d : List UInt8) (hk : k = 1 ∨ k = 2 ∨ k = 3) : leafB ⟨[], k, d⟩ = strB (typeOf k) ++ leafR k d := by
  rcases hk with rfl | rfl | rfl
  · simp only [leafB, leafR, typeOf, if_pos, strsB]; rfl
  · simp only [leafB, leafR, typeOf, strsB]; rfl
  · simp only [leafB, leafR, typeOf, strsB]; rfl
theorem leaf_complete (k : Int) (d r : List UInt8) (hk : k = 1 ∨ k = 2 ∨ k = 3) (h : okNd ⟨[], k, d⟩ = true) : (if typeOf k = wRegular then fileP (leafR k d ++ r) else linkP (leafR k d ++ r)) = .ok ((k, d), r) := by
  rcases hk with rfl | rfl | rfl
  · have hd : d.length ≤ 65536 := by simpa [okNd] using h
    rw [if_pos (by decide)]
    show fileP (strsB [wContents, d] ++ r) = _
    unfold fileP
    simp only [strsB, List.append_nil, List.append_assoc]
    rw [one_complete _ wContents _ (by decide) (by decide), Rd.then_ok, if_neg (by decide), text_complete _ d r hd (by omega), Rd.then_ok]
  · have hd : d.length ≤ 65536 := by simpa [okNd] using h
    rw [if_pos (by decide)]
    show fileP (strsB [wExec, [], wContents, d] ++ r) = _
    unfold fileP
    have e : strsB [wExec, [], wContents, d] ++ r = strB wExec ++ (strsB [[], wContents] ++ (strB d ++ r)) := by simp only [strsB, List.append_nil, List.append_assoc]
    rw [e, one_complete _ wExec _ (by decide) (by decide), Rd.then_ok, if_pos rfl, must_complete _ _ (by decide), Rd.then_ok, text_complete _ d r hd (by omega), Rd.then_ok]
  · have hd : (d ≠ [] ∧ d.length ≤ 4096) ∧ hasZero d = false := by simpa [okNd] using h
    rw [if_neg (by decide)]
    show linkP (strsB [wTarget, d] ++ r) = _
    unfold linkP
    have e : strsB [wTarget, d] ++ r = strsB [wTarget] ++ (strB d ++ r) := by simp only [strsB, List.append_nil, List.append_assoc]
    rw [e, must_complete _ _ (by decide), Rd.then_ok, text_complete _ d r hd.1.2 (by omega), Rd.then_ok, if_neg (by rintro (h | h); (exact hd.1.1 h); (rw [hd.2] at h; cases h))]
theorem name_sound {last : List UInt8} {deep cnt : Nat} {s t r : List UInt8} (h : nameP last deep cnt s = .ok (t, r)) : mayName t = true ∧ (Op.bytesLess t last || t == last) = false ∧ cnt < 256 ∧ deep < 64 ∧ s = strB t ++ r := by
  obtain ⟨u, q, h1, h2⟩ := Rd.then_is h
  split at h2
  · cases h2
  · rename_i hn
    injection h2 with h2
    injection h2 with h3 h4
    subst h3 h4
    refine ⟨?_, ?_, ?_, ?_, (text_sound h1).1⟩
    · cases hm : mayName u with
      | true => rfl
      | false => exact absurd (.inl hm) hn
    · cases hm : (Op.bytesLess u last || u == last) with
      | false => rfl
      | true => exact absurd (.inr (.inl hm)) hn
    · exact Nat.lt_of_not_le fun h => hn (.inr (.inr (.inl h)))
    · exact Nat.lt_of_not_le fun h => hn (.inr (.inr (.inr h)))
theorem mayName_le {t : List UInt8} (h : mayName t = true) : t.length ≤ 255 := by
  unfold mayName at h
  simp only [Bool.and_eq_true, decide_eq_true_eq] at h
  exact h.2.1
theorem name_complete (last : List UInt8) (deep cnt : Nat) (t r : List UInt8) (h1 : mayName t = true) (h2 : (Op.bytesLess t last || t == last) = false) (h3 : cnt < 256) (h4 : deep < 64) : nameP last deep cnt (strB t ++ r) = .ok (t, r) := by
  have := mayName_le h1
  unfold nameP
  rw [text_complete _ t r this (by omega), Rd.then_ok, if_neg (by rw [h1, h2]; simp; omega)]
mutual
theorem node_sound : ∀ (f : Nat) (p : List UInt8) (d : Nat) (l l' : List Nd) (s r : List UInt8), nodeP f p d l s = .ok (l', r) → l.length < 256 → ∃ t : Tr, t.ok d = true ∧ l' = l ++ t.nodes p ∧ s = t.enc ++ r ∧ l'.length ≤ 256
  | 0, p, d, l, l', s, r, h, _ => by rw [nodeP] at h; cases h
  | f + 1, p, d, l, l', s, r, h, hl => by
    rw [nodeP] at h
    obtain ⟨_, q1, h1, h⟩ := Rd.then_is h
    obtain ⟨t, q2, h2, h⟩ := Rd.then_is h
    have e1 := must_sound h1
    obtain ⟨ht, e2⟩ := one_sound h2
    split at h
    · rename_i e
      subst e
      obtain ⟨es, h3, h4, h5, h6⟩ := dir_sound f p d [] (l ++ [⟨p, 4, []⟩]) l' q2 r h (by rw [List.length_append]; exact hl)
      refine ⟨.dir es, by rw [Tr.ok]; exact h3, by rw [h4, Tr.nodes, List.append_assoc]; rfl, ?_, h6⟩
      rw [e1, e2, h5, Tr.enc]
      simp only [strsB, List.append_assoc, List.append_nil]
    · rename_i e
      obtain ⟨x, q3, h3, h⟩ := Rd.then_is h
      obtain ⟨_, q4, h4, h⟩ := Rd.then_is h
      injection h with h
      injection h with h5 h6
      subst h5 h6
      obtain ⟨h7, h8, h9⟩ := leaf_sound ht e h3
      have h10 := must_sound h4
      refine ⟨.leaf x.1 x.2, by rw [Tr.ok, decide_eq_true h7, h8]; rfl, by rw [Tr.nodes], ?_, by rw [List.length_append]; exact hl⟩
      rw [e1, e2, h9, h10, Tr.enc]
      simp only [strsB, List.append_assoc, List.append_nil]
theorem dir_sound : ∀ (f : Nat) (p : List UInt8) (d : Nat) (last : List UInt8) (l l' : List Nd) (s r : List UInt8), dirP f p d last l s = .ok (l', r) → l.length ≤ 256 → ∃ es : Es, es.ok d last = true ∧ l' = l ++ es.nodes p ∧ s = es.enc ++ (strB wShut ++ r) ∧ l'.length ≤ 256
  | 0, p, d, last, l, l', s, r, h, _ => by rw [dirP] at h; cases h
  | f + 1, p, d, last, l, l', s, r, h, hl => by
    rw [dirP] at h
    obtain ⟨t, q1, h1, h⟩ := Rd.then_is h
    obtain ⟨ht, e1⟩ := one_sound h1
    split at h
    · rename_i e
      subst e
      injection h with h
      injection h with h5 h6
      subst h5 h6
      exact ⟨.nil, by rw [Es.ok], by rw [Es.nodes, List.append_nil], by rw [Es.enc]; exact e1, hl⟩
    · rename_i e
      have ht2 : t = wEntry := by
        rcases List.mem_cons.1 ht with h | h
        · exact h
        · exact absurd (List.mem_singleton.1 h) e
      subst ht2
      obtain ⟨_, q2, h2, h⟩ := Rd.then_is h
      obtain ⟨nm, q3, h3, h⟩ := Rd.then_is h
      obtain ⟨_, q4, h4, h⟩ := Rd.then_is h
      obtain ⟨l2, q5, h5, h⟩ := Rd.then_is h
      obtain ⟨_, q6, h6, h⟩ := Rd.then_is h
      obtain ⟨n1, n2, n3, n4, n5⟩ := name_sound h3
      have e2 := must_sound h2
      have e4 := must_sound h4
      have e6 := must_sound h6
      obtain ⟨t, a1, a2, a3, a4⟩ := node_sound f (headOf p ++ nm) (d + 1) l l2 q4 q5 h5 n3
      obtain ⟨es, b1, b2, b3, b4⟩ := dir_sound f p d nm l2 l' q6 r h a4
      refine ⟨.cons nm t es, ?_, ?_, ?_, b4⟩
      · rw [Es.ok, n1, n2, decide_eq_true n4, a1, b1]; rfl
      · rw [b2, a2, Es.nodes, List.append_assoc]
      · rw [e1, e2, n5, e4, a3, e6, b3, Es.enc, entryB]
        simp only [strsB, List.append_assoc, List.append_nil]
end

mutual
theorem node_complete : ∀ (t : Tr) (f : Nat) (p : List UInt8) (d : Nat) (l : List Nd) (r : List UInt8), t.ok d = true → l.length + t.size ≤ 256 → 2 * t.size ≤ f → nodeP f p d l (t.enc ++ r) = .ok (l ++ t.nodes p, r)
  | .leaf k x, f, p, d, l, r, h, hl, hf => by
    rw [Tr.size] at hf hl
    obtain ⟨f, rfl⟩ : ∃ g, f = g + 1 := ⟨f - 1, by omega⟩
    rw [Tr.ok] at h
    simp only [Bool.and_eq_true, decide_eq_true_eq] at h
    rw [nodeP, Tr.enc, leaf_split k x h.1, List.append_assoc, List.append_assoc, List.append_assoc, must_complete _ _ (by decide), Rd.then_ok,
      one_complete _ (typeOf k) _ (by unfold typeOf; split <;> decide) (by unfold typeOf; split <;> decide), Rd.then_ok, if_neg (by unfold typeOf; split <;> decide), leaf_complete k x _ h.1 h.2, Rd.then_ok, must_complete _ _ (by decide), Rd.then_ok, Tr.nodes]
  | .dir es, f, p, d, l, r, h, hl, hf => by
    rw [Tr.size] at hf hl
    obtain ⟨f, rfl⟩ : ∃ g, f = g + 1 := ⟨f - 1, by omega⟩
    rw [Tr.ok] at h
    have e : (Tr.dir es).enc ++ r = strsB [wOpen, wType] ++ (strB wDir ++ (es.enc ++ (strB wShut ++ r))) := by rw [Tr.enc]; simp only [strsB, List.append_assoc, List.append_nil]
    rw [nodeP, e, must_complete _ _ (by decide), Rd.then_ok, one_complete _ wDir _ (by decide) (by decide), Rd.then_ok, if_pos rfl,
      dir_complete es f p d [] (l ++ [(⟨p, 4, []⟩ : Nd)]) r h (by rw [List.length_append, List.length_singleton]; omega) (by omega), Tr.nodes, List.append_assoc]
    rfl
theorem dir_complete : ∀ (es : Es) (f : Nat) (p : List UInt8) (d : Nat) (last : List UInt8) (l : List Nd) (r : List UInt8), es.ok d last = true → l.length + es.size ≤ 256 → 2 * es.size + 1 ≤ f → dirP f p d last l (es.enc ++ (strB wShut ++ r)) = .ok (l ++ es.nodes p, r)
  | .nil, f, p, d, last, l, r, h, hl, hf => by
    obtain ⟨f, rfl⟩ : ∃ g, f = g + 1 := ⟨f - 1, by omega⟩
    rw [dirP, Es.enc, List.nil_append, one_complete _ wShut _ (by decide) (by decide), Rd.then_ok, if_pos rfl, Es.nodes, List.append_nil]
  | .cons nm t es, f, p, d, last, l, r, h, hl, hf => by
    rw [Es.size] at hf hl
    have hp := Tr.size_pos t
    obtain ⟨f, rfl⟩ : ∃ g, f = g + 1 := ⟨f - 1, by omega⟩
    rw [Es.ok] at h
    simp only [Bool.and_eq_true, Bool.not_eq_true', decide_eq_true_eq] at h
    obtain ⟨h1, h2, h3, h4, h5⟩ := h
    have e : (Es.cons nm t es).enc ++ (strB wShut ++ r) = strB wEntry ++ (strsB [wOpen, wName] ++ (strB nm ++ (strsB [wNode] ++ (t.enc ++ (strsB [wShut] ++ (es.enc ++ (strB wShut ++ r))))))) := by
      rw [Es.enc, entryB]; simp only [strsB, List.append_assoc, List.append_nil]
    rw [dirP, e, one_complete _ wEntry _ (by decide) (by decide), Rd.then_ok, if_neg (by decide), must_complete _ _ (by decide), Rd.then_ok, name_complete last d l.length nm _ h1 h2 (by omega) h3, Rd.then_ok,
      must_complete _ _ (by decide), Rd.then_ok, node_complete t f _ (d + 1) l _ h4 (by omega) (by omega), Rd.then_ok, must_complete _ _ (by decide), Rd.then_ok,
      dir_complete es f p d nm _ r h5 (by rw [List.length_append, Tr.nodes_length]; omega) (by omega), Es.nodes, List.append_assoc]
end

theorem one_less {l : List (List UInt8)} {s t r : List UInt8} (h : oneP l s = .ok (t, r)) : r.length + 8 ≤ s.length := by
  have := (one_sound h).2
  rw [this, List.length_append, strB_length]; omega
theorem must_less : ∀ {l : List (List UInt8)} {s r : List UInt8} {u : Unit}, mustP l s = .ok (u, r) → r.length ≤ s.length := by
  intro l s r u h
  have := must_sound h
  rw [this, List.length_append]; omega
theorem must_less1 {t : List UInt8} {l : List (List UInt8)} {s r : List UInt8} {u : Unit} (h : mustP (t :: l) s = .ok (u, r)) : r.length + 8 ≤ s.length := by
  have := must_sound h
  rw [this, strsB, List.length_append, List.length_append, strB_length]; omega
theorem name_less {last : List UInt8} {deep cnt : Nat} {s t r : List UInt8} (h : nameP last deep cnt s = .ok (t, r)) : r.length + 8 ≤ s.length := by
  have := (name_sound h).2.2.2.2
  rw [this, List.length_append, strB_length]; omega
theorem node_less {f : Nat} {p : List UInt8} {d : Nat} {l l' : List Nd} {s r : List UInt8} (hl : l.length < 256) (h : nodeP f p d l s = .ok (l', r)) : r.length ≤ s.length := by
  obtain ⟨t, _, _, e, _⟩ := node_sound f p d l l' s r h hl
  rw [e, List.length_append]; omega
theorem then_congr {α β : Type} {x : Rd α} {F G : α → List UInt8 → Rd β} (h : ∀ a r, x = .ok (a, r) → F a r = G a r) : x.then F = x.then G := by
  cases x with
  | error e => rfl
  | ok y => exact h y.1 y.2 rfl
mutual
theorem node_rounds : ∀ (f g : Nat) (p : List UInt8) (d : Nat) (l : List Nd) (s : List UInt8), s.length < f → s.length < g → l.length < 256 → nodeP f p d l s = nodeP g p d l s
  | 0, g, p, d, l, s, hf, hg, hl => by omega
  | f + 1, 0, p, d, l, s, hf, hg, hl => by omega
  | f + 1, g + 1, p, d, l, s, hf, hg, hl => by
    rw [nodeP, nodeP]
    refine then_congr fun _ r h1 => then_congr fun t r2 h2 => ?_
    have := must_less1 h1
    have := one_less h2
    split
    · exact dir_rounds f g p d [] _ r2 (by omega) (by omega) (by rw [List.length_append]; exact hl)
    · rfl
theorem dir_rounds : ∀ (f g : Nat) (p : List UInt8) (d : Nat) (last : List UInt8) (l : List Nd) (s : List UInt8), s.length < f → s.length < g → l.length ≤ 256 → dirP f p d last l s = dirP g p d last l s
  | 0, g, p, d, last, l, s, hf, hg, hl => by omega
  | f + 1, 0, p, d, last, l, s, hf, hg, hl => by omega
  | f + 1, g + 1, p, d, last, l, s, hf, hg, hl => by
    rw [dirP, dirP]
    refine then_congr fun t r h1 => ?_
    have := one_less h1
    split
    · rfl
    · refine then_congr fun _ r2 h2 => then_congr fun nm r3 h3 => then_congr fun _ r4 h4 => ?_
      have := must_less h2
      have := name_less h3
      have := must_less h4
      obtain ⟨_, _, hc, _, _⟩ := name_sound h3
      rw [node_rounds f g _ _ l r4 (by omega) (by omega) hc]
      refine then_congr fun l2 r5 h5 => then_congr fun _ r6 h6 => ?_
      have := node_less hc h5
      have := must_less h6
      obtain ⟨_, _, _, _, h7⟩ := node_sound g _ _ l l2 r4 r5 h5 hc
      exact dir_rounds f g p d nm l2 r6 (by omega) (by omega) h7
end

def notZero {α : Type} (x : Rd α) : Prop := x ≠ .error 0
theorem nz_then {α β : Type} {x : Rd α} {F : α → List UInt8 → Rd β} (h : notZero x) (h2 : ∀ a r, x = .ok (a, r) → notZero (F a r)) : notZero (x.then F) := by
  cases x with
  | error e => intro e2; exact h (by rw [Rd.then_error] at e2; injection e2 with e2; rw [e2])
  | ok y => exact h2 y.1 y.2 rfl
theorem nz_ok {α : Type} (y : α × List UInt8) : notZero (.ok y : Rd α) := fun h => by cases h
theorem nz_4 {α : Type} : notZero (.error 4 : Rd α) := fun h => by injection h with h; exact absurd h (by decide)
theorem nz_5 {α : Type} : notZero (.error 5 : Rd α) := fun h => by injection h with h; exact absurd h (by decide)
theorem nz_text (most : Nat) (s : List UInt8) : notZero (textP most s) := by
  unfold textP
  split
  · exact nz_5
  · split
    · exact nz_4
    · split
      · exact nz_5
      · split
        · exact nz_ok _
        · exact nz_4
theorem nz_one (l : List (List UInt8)) (s : List UInt8) : notZero (oneP l s) := nz_then (nz_text _ _) fun t r _ => by
  split
  · exact nz_ok _
  · exact nz_4
theorem nz_must : ∀ (l : List (List UInt8)) (s : List UInt8), notZero (mustP l s)
  | [], s => nz_ok _
  | t :: l, s => nz_then (nz_one _ _) fun _ r _ => nz_must l r
theorem nz_file (s : List UInt8) : notZero (fileP s) := nz_then (nz_one _ _) fun t r _ => by
  split
  · exact nz_then (nz_must _ _) fun _ r _ => nz_then (nz_text _ _) fun d r _ => nz_ok _
  · exact nz_then (nz_text _ _) fun d r _ => nz_ok _
theorem nz_link (s : List UInt8) : notZero (linkP s) := nz_then (nz_must _ _) fun t r _ => nz_then (nz_text _ _) fun d r _ => by
  split
  · exact nz_4
  · exact nz_ok _
theorem nz_name (last : List UInt8) (deep cnt : Nat) (s : List UInt8) : notZero (nameP last deep cnt s) := nz_then (nz_text _ _) fun t r _ => by
  split
  · exact nz_4
  · exact nz_ok _
mutual
theorem nz_node : ∀ (f : Nat) (p : List UInt8) (d : Nat) (l : List Nd) (s : List UInt8), s.length < f → l.length < 256 → notZero (nodeP f p d l s)
  | 0, p, d, l, s, hf, hl => by omega
  | f + 1, p, d, l, s, hf, hl => by
    rw [nodeP]
    refine nz_then (nz_must _ _) fun _ r h1 => nz_then (nz_one _ _) fun t r2 h2 => ?_
    have := must_less1 h1
    have := one_less h2
    split
    · exact nz_dir f p d [] _ r2 (by omega) (by rw [List.length_append]; exact hl)
    · refine nz_then ?_ fun x r _ => nz_then (nz_must _ _) fun _ r _ => nz_ok _
      split
      · exact nz_file _
      · exact nz_link _
theorem nz_dir : ∀ (f : Nat) (p : List UInt8) (d : Nat) (last : List UInt8) (l : List Nd) (s : List UInt8), s.length < f → l.length ≤ 256 → notZero (dirP f p d last l s)
  | 0, p, d, last, l, s, hf, hl => by omega
  | f + 1, p, d, last, l, s, hf, hl => by
    rw [dirP]
    refine nz_then (nz_one _ _) fun t r h1 => ?_
    have := one_less h1
    split
    · exact nz_ok _
    · refine nz_then (nz_must _ _) fun _ r2 h2 => nz_then (nz_name _ _ _ _) fun nm r3 h3 => nz_then (nz_must _ _) fun _ r4 h4 => ?_
      have := must_less h2
      have := name_less h3
      have := must_less h4
      obtain ⟨_, _, hc, _, _⟩ := name_sound h3
      refine nz_then (nz_node f _ _ l r4 (by omega) hc) fun l2 r5 h5 => nz_then (nz_must _ _) fun _ r6 h6 => ?_
      have := node_less hc h5
      have := must_less h6
      obtain ⟨_, _, _, _, h7⟩ := node_sound f _ _ l l2 r4 r5 h5 hc
      exact nz_dir f p d nm l2 r6 (by omega) h7
end

def getR (f : Nat) (s : List UInt8) : Rd (List Nd) := (mustP [wMark] s).then fun _ r => nodeP f [] 0 [] r
theorem getR_rounds (f g : Nat) (s : List UInt8) (hf : s.length < f) (hg : s.length < g) : getR f s = getR g s := by
  unfold getR
  refine then_congr fun _ r h => ?_
  have := must_less h
  exact node_rounds f g _ _ _ r (by omega) (by omega) (by decide)
theorem getP_R (s : List UInt8) (f : Nat) (hf : s.length < f) : getP s = match getR f s with | .error e => .error e | .ok (l, r) => if r = [] then .ok l else .error 4 := by
  rw [getR_rounds f (s.length + 1) s hf (by omega)]
  rfl
mutual
theorem Tr.enc_long : ∀ t : Tr, 16 * t.size ≤ t.enc.length
  | .leaf k x => by
    rw [Tr.enc, Tr.size]
    have h : (strsB [wOpen, wType]).length = 32 := by decide
    rw [List.length_append, List.length_append, h]; omega
  | .dir es => by
    have h2 := Es.enc_long es
    rw [Tr.enc, Tr.size]
    have h : (strsB [wOpen, wType]).length = 32 := by decide
    simp only [List.length_append, h]; omega
theorem Es.enc_long : ∀ es : Es, 16 * es.size ≤ es.enc.length
  | .nil => by rw [Es.size]; omega
  | .cons nm t es => by
    have h1 := Tr.enc_long t
    have h2 := Es.enc_long es
    rw [Es.enc, Es.size, entryB]
    simp only [List.length_append]; omega
end

theorem get_complete (t : Tr) (h : t.ok 0 = true) (hs : t.size ≤ 256) : getP (strB wMark ++ t.enc) = .ok (t.nodes []) := by
  have hl := Tr.enc_long t
  rw [getP_R _ ((strB wMark ++ t.enc).length + 1) (by omega)]
  have e : strB wMark ++ t.enc = strsB [wMark] ++ (t.enc ++ []) := by simp only [strsB, List.append_nil]
  have hr : getR ((strB wMark ++ t.enc).length + 1) (strB wMark ++ t.enc) = .ok (t.nodes [], []) := by
    unfold getR
    conv => lhs; arg 1; rw [e]
    rw [must_complete _ _ (by decide), Rd.then_ok, node_complete t _ [] 0 [] [] h (by rw [List.length_nil]; omega) (by rw [List.length_append]; omega), List.nil_append]
  rw [hr]
  exact if_pos rfl
theorem enc_one {t u : Tr} (h : t.ok 0 = true) (hs : t.size ≤ 256) (h2 : u.ok 0 = true) (hs2 : u.size ≤ 256) (e : t.enc = u.enc) : t.nodes [] = u.nodes [] := by
  have a := get_complete t h hs
  rw [e, get_complete u h2 hs2] at a
  injection a with a
  exact a.symm
end Go.Proofs.Ytncokgdfkbgflaa

namespace Go.Proofs.Ytncokgdfkbgflaa.Pure
set_option linter.unusedVariables false
set_option linter.unusedSimpArgs false
open Go.RowKit Go.Proofs.Ytncokgdfkbgflaa Go.Proofs.Ytncokgdfkbgflaa.P Go.Proofs.YtncokgdfkbgflaaW.PrintWords Go.Proofs.YtncokgdfkbgflaaW.PrintMore
theorem two_awake (k : Nat) (hk : 1000 ≤ k) : shelfmarklaw10_awake.f k = some true := by
  obtain ⟨k, rfl⟩ : ∃ g, k = g + 9 := ⟨k - 9, by omega⟩
  exact awake_true k
theorem texts_le {texts : List ByteArray} {M : Nat} (h : ∀ t ∈ texts, t.size ≤ M) : ∀ t ∈ strsOf texts, t.length ≤ M := by
  intro t ht
  obtain ⟨s, hs, rfl⟩ := List.mem_map.1 ht
  have := h s hs
  rw [Lib.size_eq] at this
  exact this
theorem bytes_same (l m : List Nd) (hl : May l = true) (hm : May m = true) : ((bs (strB wMark ++ packN l.length l 0)).toList == (bs (strB wMark ++ packN m.length m 0)).toList) = sameN l m := by
  obtain ⟨t, ht, rfl⟩ := may_tree l hl
  obtain ⟨u, hu, rfl⟩ := may_tree m hm
  have h1 := (may_parts hl).2.1
  have h2 := (may_parts hm).2.1
  rw [Tr.nodes_length] at h1 h2
  rw [packN_tree t ht, packN_tree u hu, toList_data, toList_data, bs_toList, bs_toList, Bool.eq_iff_iff, sameN_is, beq_iff_eq]
  constructor
  · intro h
    exact enc_one ht h1 hu h2 (List.append_cancel_left h)
  · intro h
    have a := packN_tree t ht
    have b := packN_tree u hu
    rw [← a, ← b, h]
theorem j1_two (l m : List S37) (hl : May (nds l) = true) (pl : ∀ x ∈ l, x.f0.size ≤ 1048576) (pm : ∀ x ∈ m, x.f0.size ≤ 1048576) (hll : l.length < 1000) (k : Nat) (hk : 10000 ≤ k) : shelfmarklaw10_NarTwo.j1 (k + 1) l m = some true := by
  have hT := tame_all l (fun x hx => by have := pl x hx; omega)
  have hM := tame_all m (fun x hx => by have := pm x hx; omega)
  have hsl : sameN (nds l) (nds l) = true := (sameN_is _ _).2 rfl
  rw [shelfmarklaw10_NarTwo.j1, pack_is l hT pl, pack_is m hM pm, same_f l m (by omega) k (by omega), same_f l l (by omega) k (by omega), hl, if_pos rfl, two_awake k (by omega), hsl]
  simp only [Option.bind_some, shelfmarklaw1_Err.f, if_true]
  by_cases hm : May (nds m) = true
  · rw [if_pos hm]
    have h := bytes_same (nds l) (nds m) hl hm
    rw [nds_len, nds_len] at h
    rw [h]
    simp
  · rw [if_neg hm]
    simp
theorem two_main (ns : List Int) (texts : List ByteArray) (a w : Int) (ha : 0 ≤ a ∧ a < 256) (hw : 0 ≤ w ∧ w < 256) (htx : ∀ t ∈ texts, t.size ≤ 300) (hns : isB ns) (hL : ns.length < 1000000000000000) (k : Nat) (hk : 10 * ns.length + 20000 ≤ k) (i : Int) (hi : ¬ i < (texts.length : Int)) :
    shelfmarklaw10_NarTwo.l0 (k + 2) ns texts a w i = some true := by
  obtain ⟨l, hl, hln⟩ := tree_f ns texts (fun t ht => by have := htx t ht; omega) hns hL (k + 1) (by omega)
  have hok := treeOf_ok (us ns) (strsOf texts) (texts_le (fun t ht => by have := htx t ht; omega))
  have hsz := treeOf_size (us ns) (strsOf texts)
  generalize treeOf (us ns) (strsOf texts) = t at hln hok hsz
  have hmay : May (nds l) = true := by rw [hln]; exact tree_may t hok (by omega)
  have hp : ∀ x ∈ l, x.f0.size ≤ 20000 := by
    intro x hx
    have h1 : nd x ∈ t.nodes [] := by rw [← hln]; exact List.mem_map.2 ⟨x, hx, rfl⟩
    have h2 := Tr.path_le t 0 [] hok (by omega) (nd x) h1
    have h3 : x.f0.data.toList.length ≤ ([] : List UInt8).length + (64 - 0) * 256 := h2
    rw [Lib.size_eq]
    rw [List.length_nil] at h3
    omega
  have hdt : ∀ x ∈ l, x.f2.size ≤ 65536 := by
    intro x hx
    have h1 := okNd_le (nd x) ((may_parts hmay).2.2.1 _ (List.mem_map.2 ⟨x, hx, rfl⟩))
    rw [Lib.size_eq]
    exact h1
  have hlen : l.length = t.size := by rw [← nds_len, hln, Tr.nodes_length]
  have hpos : 0 < l.length := by rw [hlen]; exact Tr.size_pos t
  have hpl : ∀ x ∈ l, x.f0.size ≤ 1048576 := fun x hx => by have := hp x hx; omega
  obtain ⟨q, hq, hq2⟩ : ∃ q : Nat, q < l.length ∧ Int.tmod (wrap64 a) (l.length : Int) = (q : Int) := by
    have hwa : wrap64 a = a := by unfold wrap64; omega
    obtain ⟨n, hn⟩ := Int.eq_ofNat_of_zero_le ha.1
    refine ⟨n % l.length, Nat.mod_lt _ hpos, ?_⟩
    rw [hwa, hn]
    exact tmodb n l.length
  have hset : ∀ y : S37, y.f0.size ≤ 1048576 → ∀ x ∈ l.set q y, x.f0.size ≤ 1048576 := by
    intro y hy x hx
    rcases List.mem_or_eq_of_mem_set hx with h | rfl
    · exact hpl x h
    · exact hy
  have hat : rd_T37 l (q : Int) = l[q] := rd37_at l q hq
  have hq0 := hp l[q] (List.getElem_mem _)
  have hqd := hdt l[q] (List.getElem_mem _)
  have j1 : ∀ m : List S37, (∀ x ∈ m, x.f0.size ≤ 1048576) → shelfmarklaw10_NarTwo.j1 (k + 1) l m = some true := fun m hm => j1_two l m hmay hpl hm (by omega) k (by omega)
  rw [shelfmarklaw10_NarTwo.l0, if_neg hi, hl]
  simp only [Option.bind_some, List.nil_append, List.length_nil]
  have a0 : (0 : Int) ≤ (q : Int) := by omega
  have a1 : (q : Int) < (l.length : Int) := by omega
  have a2 : ¬ (l.length : Int) = 0 := by omega
  rw [if_pos (by omega), if_neg a2, hq2, hat, Int.toNat_natCast]
  have W := Aside0.mk (wrap_up q (by omega))
  have c1 : l[q].f2.size + 1 ≤ 9223372036854775807 := by omega
  have c2 : l[q].f0.size + 1 ≤ 9223372036854775807 := by omega
  by_cases h0 : Int.tmod w 4 = 0
  · rw [if_pos h0, if_pos a0, if_pos a1]
    exact j1 _ (hset _ (by show l[q].f0.size ≤ _; omega))
  · rw [if_neg h0]
    by_cases h1 : Int.tmod w 4 = 1
    · rw [if_pos h1, if_pos a0, if_pos a1, if_pos c1]
      exact j1 _ (hset _ (by show l[q].f0.size ≤ _; omega))
    · rw [if_neg h1]
      by_cases h2 : Int.tmod w 4 = 2
      · rw [if_pos h2, show wrap64 ((q : Int) + 1) = ((q + 1 : Nat) : Int) from W.out, if_pos (by omega), if_pos (by omega)]
        exact j1 _ (fun x hx => hpl x (List.mem_of_mem_take hx))
      · rw [if_neg h2]
        by_cases hgt : (q : Int) > 0
        · simp only [if_pos hgt, if_pos a0, if_pos a1, if_pos c2]
          exact j1 _ (hset _ (by show (l[q].f0 ++ (⟨#[113]⟩ : ByteArray)).size ≤ _; rw [ByteArray.size_append]; have : (⟨#[113]⟩ : ByteArray).size = 1 := rfl; omega))
        · rw [if_neg hgt]
          exact j1 _ hpl
theorem two_rounds (ns : List Int) (texts : List ByteArray) (a w : Int) (ha : 0 ≤ a ∧ a < 256) (hw : 0 ≤ w ∧ w < 256) (h8 : texts.length ≤ 8) (hns : isB ns) (hL : ns.length < 1000000000000000) : ∀ (m i k : Nat), texts.length - i ≤ m → i ≤ texts.length → (∀ j (hj : j < texts.length), j < i → texts[j].size ≤ 300) → m + 10 * ns.length + 20010 ≤ k →
    shelfmarklaw10_NarTwo.l0 k ns texts a w (i : Int) = some true := by
  intro m
  induction m with
  | zero =>
    intro i k h1 h2 hs hk
    obtain ⟨k, rfl⟩ : ∃ g, k = g + 2 := ⟨k - 2, by omega⟩
    refine two_main ns texts a w ha hw (fun t ht => ?_) hns hL k (by omega) i (by omega)
    obtain ⟨j, hj, rfl⟩ := List.getElem_of_mem ht
    exact hs j hj (by omega)
  | succ m ih =>
    intro i k h1 h2 hs hk
    by_cases hi : i < texts.length
    · obtain ⟨k, rfl⟩ : ∃ g, k = g + 1 := ⟨k - 1, by omega⟩
      have e : rdOf ByteArray.empty texts (i : Int) = texts[i] := by simp [rdOf, List.getD_eq_getElem?_getD, List.getElem?_eq_getElem hi]
      rw [shelfmarklaw10_NarTwo.l0, if_pos (by omega), if_pos (by omega), e]
      by_cases h3 : texts[i].size ≤ 300
      · rw [if_neg (by omega), wrap_up i (by omega)]
        refine ih (i + 1) k (by omega) (by omega) (fun j hj hij => ?_) (by omega)
        by_cases ej : j = i
        · subst ej; exact h3
        · exact hs j hj (by omega)
      · rw [if_pos (by omega), two_awake k (by omega)]
        rfl
    · exact ih i k (by omega) h2 hs (by omega)
theorem NarTwo (ns : List Int) (texts : List ByteArray) (a w : Int) (hn : (∀ y ∈ ns, 0 ≤ y ∧ y < 256) ∧ ns.length ≤ 140737488355328) (ha : (Lit.int .u8 a).wf = true) (hw : (Lit.int .u8 w).wf = true) : ∃ k, shelfmarklaw10_NarTwo.f k ns texts a w = some true := by
  have ha2 : 0 ≤ a ∧ a < 256 := by
    simp [Lit.wf, IntKind.min, IntKind.max, IntKind.signed, IntKind.bits] at ha
    omega
  have hw2 : 0 ≤ w ∧ w < 256 := by
    simp [Lit.wf, IntKind.min, IntKind.max, IntKind.signed, IntKind.bits] at hw
    omega
  refine ⟨10 * ns.length + 30000, ?_⟩
  unfold shelfmarklaw10_NarTwo.f
  by_cases h8 : texts.length ≤ 8
  · rw [if_neg (by omega)]
    exact two_rounds ns texts a w ha2 hw2 h8 hn.1 (by omega) texts.length 0 _ (by omega) (by omega) (fun j hj h => by omega) (by omega)
  · rw [if_pos (by omega), two_awake _ (by omega)]
    rfl
end Go.Proofs.Ytncokgdfkbgflaa.Pure

namespace Go.Proofs.Ytncokgdfkbgflaa
open Go.RowKit Go.ChangeShapes Go.Deep Go.Proofs.YtncokgdfkbgflaaW.PrintWords P
set_option linter.unusedVariables false
set_option linter.unusedSimpArgs false
section
variable {H : Type} {enc : TypeId × Value → H} {w : World} {base : Nat} {spare : Nat → Bool} {held : Bool}
theorem Kd.C_none {α : Type} (d : Kd α) (w : World) : Kd.C d w none ([] : List α).length [] := ⟨rfl, by simp, fun h => absurd h (by simp)⟩
theorem map_range_get {α : Type} {len j : Nat} {Y : Nat → α} {p : α} (hp : ((List.range len).map Y)[j]? = some p) : j < len ∧ Y j = p := by
  rw [List.getElem?_map] at hp
  obtain ⟨q, hq, hq2⟩ := Option.map_eq_some_iff.1 hp
  obtain ⟨hlt, hq3⟩ := List.getElem?_eq_some_iff.1 hq
  rw [List.getElem_range] at hq3
  subst hq3
  exact ⟨by simpa using hlt, hq2⟩
set_option maxRecDepth 100000 in
theorem open_nodes {fuel : Nat} {a : Option Addr} {len cap : Nat} {x : DataW H × List MemPlace} (h : DataW.trod enc Try.prog w base spare held fuel 25 [.slice a len cap] = some x) :
    ∃ l : List S37, l.length = len ∧ len ≤ cap ∧ Kd.C k37 w a l.length l := by
  rcases open_slice Try.underlying25 h with ⟨h0, _⟩ | ⟨ad, len', cap', m, n, D, Pl, hcs, hb, hl, hm, hmm, _, hx⟩
  · simp only [List.cons.injEq, Value.slice.injEq, and_true] at h0
    obtain ⟨rfl, rfl, rfl⟩ := h0
    exact ⟨[], rfl, Nat.le_refl _, Kd.C_none _ _⟩
  · simp only [List.cons.injEq, Value.slice.injEq, and_true] at hcs
    obtain ⟨rfl, rfl, rfl⟩ := hcs
    have ce : Try.prog.cellsOf 37 = 3 := by kernel_rfl
    have c0 : Try.prog.cellsOf 9 = 1 := by kernel_rfl
    have c1 : Try.prog.cellsOf 3 = 1 := by kernel_rfl
    have hlm : len ≤ m := by rw [hmm]; split <;> omega
    have each : ∀ i, i < len → ∃ y : S37, w.cell? (ad.add (i * 3)) = some (.string y.f0) ∧ w.cell? (ad.add (i * 3 + 1)) = some (.int .i64 y.f1) ∧ w.cell? (ad.add (i * 3 + 2)) = some (.string y.f2) := by
      intro i hi
      obtain ⟨cs', h1, h2⟩ := hx i (by omega)
      rw [ce] at h1
      obtain ⟨_, hlen, hcell⟩ := World.cells?_some h1
      obtain ⟨xs, k, hk, hxy, _, hxl, hf⟩ := DataW.trod_struct Try.underlying37 h2
      match xs, hxl, cs', hlen with
      | [y0, y1, y2], _, [v0, v1, v2], _ =>
        have g0 := hf 0 _ rfl
        have g1 := hf 1 _ rfl
        have g2 := hf 2 _ rfl
        simp [c0, c1] at g0 g1 g2
        obtain ⟨s0, e0, _, _⟩ := DataW.trod_string Try.underlying9 g0
        obtain ⟨n1, e1, _, _⟩ := DataW.trod_int Try.underlying3 g1
        obtain ⟨s2, e2, _, _⟩ := DataW.trod_string Try.underlying9 g2
        have q0 := hcell 0 (by omega)
        have q1 := hcell 1 (by omega)
        have q2 := hcell 2 (by omega)
        rw [Deep.add_add] at q0 q1 q2
        simp only [List.cons.injEq, and_true] at e0 e1 e2
        subst e0 e1 e2
        exact ⟨⟨s0, n1, s2⟩, by simpa using q0, by simpa using q1, by simpa using q2⟩
    have : Inhabited S37 := ⟨z37⟩
    obtain ⟨Y, hY⟩ := choose_lt each
    refine ⟨(List.range len).map Y, by simp, hl, by simp, by simp only [List.length_map, List.length_range]; have : cap ≤ maxLen := hm; unfold maxLen at this; omega, fun _ => ⟨ad, rfl, fun j p hp => ?_⟩⟩
    obtain ⟨hj, rfl⟩ := map_range_get hp
    obtain ⟨q0, q1, q2⟩ := hY j hj
    refine ⟨_, rfl, k37_mk w (Y j), fun i u hu => ?_⟩
    match i, hu with
    | 0, hu => rw [show u = .string (Y j).f0 from by simpa using hu.symm]; exact q0
    | 1, hu => rw [show u = .int .i64 (Y j).f1 from by simpa using hu.symm]; exact q1
    | 2, hu => rw [show u = .string (Y j).f2 from by simpa using hu.symm]; exact q2
    | i + 3, hu => simp at hu
set_option maxRecDepth 100000 in
theorem open_texts {fuel : Nat} {a : Option Addr} {len cap : Nat} {x : DataW H × List MemPlace} (h : DataW.trod enc Try.prog w base spare held fuel 23 [.slice a len cap] = some x) :
    ∃ l : List ByteArray, l.length = len ∧ len ≤ cap ∧ Kd.C Kd.string w a l.length l := by
  rcases open_strs Try.underlying23 Try.underlying9 (by kernel_rfl) h with ⟨h0, _⟩ | ⟨ad, len', cap', m, Sx, hcs, hb, hl, hm, hmm, _, hx⟩
  · simp only [List.cons.injEq, Value.slice.injEq, and_true] at h0
    obtain ⟨rfl, rfl, rfl⟩ := h0
    exact ⟨[], rfl, Nat.le_refl _, Kd.C_none _ _⟩
  · simp only [List.cons.injEq, Value.slice.injEq, and_true] at hcs
    obtain ⟨rfl, rfl, rfl⟩ := hcs
    have hlm : len ≤ m := by rw [hmm]; split <;> omega
    refine ⟨(List.range len).map Sx, by simp, hl, by simp, by simp only [List.length_map, List.length_range]; have : cap ≤ maxLen := hm; unfold maxLen at this; omega, fun _ => ⟨ad, rfl, fun j p hp => ?_⟩⟩
    obtain ⟨hj, rfl⟩ := map_range_get hp
    refine ⟨[.string (Sx j)], rfl, rfl, fun i u hu => ?_⟩
    match i, hu with
    | 0, hu =>
      rw [show u = .string (Sx j) from by simpa using hu.symm]
      show w.cell? (ad.add (j * 1 + 0)) = _
      rw [Nat.mul_one, Nat.add_zero]
      exact (hx j (by omega)).1
    | i + 1, hu => simp at hu
set_option maxRecDepth 100000 in
theorem open_bytes {fuel : Nat} {a : Option Addr} {len cap : Nat} {x : DataW H × List MemPlace} (h : DataW.trod enc Try.prog w base spare held fuel 22 [.slice a len cap] = some x) :
    ∃ l : List Int, l.length = len ∧ len ≤ cap ∧ Kd.C (Kd.int .u8) w a l.length l ∧ ∀ y ∈ l, 0 ≤ y ∧ y < 256 := by
  rcases open_slice1 Try.underlying22 (by kernel_rfl) h with ⟨h0, _⟩ | ⟨ad, len', cap', m, n, V, D, Pl, hcs, hb, hl, hm, hmm, _, hx⟩
  · simp only [List.cons.injEq, Value.slice.injEq, and_true] at h0
    obtain ⟨rfl, rfl, rfl⟩ := h0
    exact ⟨[], rfl, Nat.le_refl _, Kd.C_none _ _, fun y hy => by simp at hy⟩
  · simp only [List.cons.injEq, Value.slice.injEq, and_true] at hcs
    obtain ⟨rfl, rfl, rfl⟩ := hcs
    have hlm : len ≤ m := by rw [hmm]; split <;> omega
    have each : ∀ i, i < len → ∃ y : Int, w.cell? (ad.add i) = some (.int .u8 y) ∧ 0 ≤ y ∧ y < 256 := by
      intro i hi
      obtain ⟨h1, h2⟩ := hx i (by omega)
      obtain ⟨y, e, _, hw⟩ := DataW.trod_int Try.underlying5 h2
      simp only [List.cons.injEq, and_true] at e
      rw [e] at h1
      refine ⟨y, h1, ?_⟩
      simp [Lit.wf, IntKind.min, IntKind.max, IntKind.signed, IntKind.bits] at hw
      omega
    obtain ⟨Y, hY⟩ := choose_lt each
    refine ⟨(List.range len).map Y, by simp, hl, ⟨by simp, by simp only [List.length_map, List.length_range]; have : cap ≤ maxLen := hm; unfold maxLen at this; omega, fun _ => ⟨ad, rfl, fun j p hp => ?_⟩⟩, ?_⟩
    · obtain ⟨hj, rfl⟩ := map_range_get hp
      refine ⟨[.int .u8 (Y j)], rfl, rfl, fun i u hu => ?_⟩
      match i, hu with
      | 0, hu =>
        rw [show u = .int .u8 (Y j) from by simpa using hu.symm]
        show w.cell? (ad.add (j * 1 + 0)) = _
        rw [Nat.mul_one, Nat.add_zero]
        exact (hY j hj).1
      | i + 1, hu => simp at hu
    · intro y hy
      obtain ⟨j, hj, rfl⟩ := List.mem_map.1 hy
      exact (hY j (List.mem_range.1 hj)).2
end
end Go.Proofs.Ytncokgdfkbgflaa

namespace Go.Proofs.YtncokgdfkbgflaaW.PrintWords
open Go.ChangeShapes Go.WideShapes
theorem sized_ints {H : Type} {enc : TypeId × Value → H} {P : Program} {W : World} {base : Nat} {spare : Nat → Bool} {held : Bool} {t e : TypeId} {k : IntKind} {a : Option Addr} {len cap : Nat} {d : DataW H} {ps : List MemPlace} {ts : List TypeId} {ds : List (DataW H)} {j : Nat}
    (hsz : (DataW.weightsEach P ts ds).all (· ≤ reachBytes) = true) (ht : ts[j]? = some t) (hd : ds[j]? = some d) (hu : P.underlying t = some (.slice e)) (he : P.underlying e = some (.int k)) (hc : P.cellsOf e = 1) {B : Nat} (hB : P.bytesOf e = B)
    (h : DataW.Trod enc P W base spare held t (.slice a len cap) d ps) : len * B ≤ 140737488351232 := by
  obtain ⟨fuel, hf⟩ := h
  rcases open_ints hu he hc hf with ⟨hcs, _⟩ | ⟨x, l, c, zs, hcs, _, hl, _, hz, hx, _, _⟩
  · simp [Value.cells] at hcs
    obtain ⟨rfl, rfl, rfl⟩ := hcs
    simp
  · simp [Value.cells] at hcs
    obtain ⟨rfl, rfl, rfl⟩ := hcs
    obtain ⟨hx, _⟩ := Prod.mk.inj hx
    subst hx
    have z := sized_slice hsz ht hd hu
    rw [hB] at z
    have hl2 : len ≤ zs.length := by
      rw [hz]
      split
      · exact hl
      · exact Nat.le_refl _
    have h1 : (lits (H := H) k (zs.take len)).length + (lits (H := H) k (zs.drop len)).length = zs.length := by
      simp [lits]
      omega
    rw [h1] at z
    exact Nat.le_trans (Nat.mul_le_mul_right _ hl2) z
end Go.Proofs.YtncokgdfkbgflaaW.PrintWords
