/- NarLimits: the plain law. -/
import Derived.Test.YtncokgdfkbgflaaPx13
import Derived.Test.YtncokgdfkbgflaaS6
import Derived.Test.YtncokgdfkbgflaaS7
namespace Go.Proofs.Ytncokgdfkbgflaa.Pure
set_option linter.unusedVariables false
set_option linter.unusedSimpArgs false
open Go.RowKit Go.Proofs.Ytncokgdfkbgflaa Go.Proofs.Ytncokgdfkbgflaa.P Go.Proofs.YtncokgdfkbgflaaW.PrintWords Go.Proofs.YtncokgdfkbgflaaW.PrintLast

theorem u8_nat (a : Int) (h : (Lit.int .u8 a).wf = true) : ∃ n : Nat, n < 256 ∧ a = n := by
  simp [Lit.wf, IntKind.min, IntKind.max, IntKind.signed, IntKind.bits] at h
  exact ⟨a.toNat, by omega, by omega⟩
theorem wrap_nat (n : Nat) (h : n < 1000000000) : wrap64 (n : Int) = n := by unfold wrap64; omega
theorem tmod_nat (n d : Nat) : Int.tmod (n : Int) (d : Int) = ((n % d : Nat) : Int) := by
  rw [Int.tmod_eq_emod_of_nonneg (by omega)]; rfl
theorem wrap_add (c m : Nat) (h : c + m < 1000000000) : wrap64 ((c : Int) + (m : Int)) = ((c + m : Nat) : Int) := by unfold wrap64; omega

theorem j3_good (l : List S37) (good : Bool) (hs : ∀ x ∈ l, x.f0.size ≤ 1048576) (ha : ∀ x ∈ l, ∀ b ∈ x.f0.data.toList, b.toNat < 128) (hg : May (nds l) = good) (k : Nat) (hk : 2 * l.length + 10 ≤ k) :
    shelfmarklaw10_NarLimits.j3 (k + 1) l good = some true := by
  have hT : TameAll l := tame_ascii l (fun x hx => by have := hs x hx; omega) ha
  rw [shelfmarklaw10_NarLimits.j3]
  obtain ⟨k', rfl⟩ : ∃ k', k = k' + 9 := ⟨k - 9, by omega⟩
  rw [pack_is l hT hs, Option.bind_some, may_f l hT _ hk, Option.bind_some, awake_true, hg]
  cases good <;> simp [shelfmarklaw1_Err.f]

/-- The first loop: the name. -/
theorem l0_run (x0 x1 : Int) (n0 : Nat) (hn : n0 < 1000) (he : wrap64 (250 + (Int.tmod (wrap64 x0) 10)) = (n0 : Int)) (k : Nat) : ∀ (d i : Nat), i + d = n0 →
    shelfmarklaw10_NarLimits.l0 (k + d) x0 x1 (bs (List.replicate i 110)) (i : Int) = shelfmarklaw10_NarLimits.l0 k x0 x1 (bs (List.replicate n0 110)) (n0 : Int)
  | 0, i, h => by
    obtain rfl : i = n0 := by omega
    rfl
  | d + 1, i, h => by
    have ih := l0_run x0 x1 n0 hn he k d (i + 1) (by omega)
    rw [← ih, show k + (d + 1) = (k + d) + 1 from rfl]
    conv => lhs; unfold shelfmarklaw10_NarLimits.l0
    have e1 : bs (List.replicate i 110) ++ (⟨#[110]⟩ : ByteArray) = bs (List.replicate (i + 1) 110) := by
      rw [show (⟨#[110]⟩ : ByteArray) = bs [110] from rfl, bs_append, ← List.replicate_succ']
    rw [he, if_pos (by omega), if_pos (by rw [bs_size, List.length_replicate]; omega), e1, show wrap64 ((i : Int) + 1) = ((i + 1 : Nat) : Int) from wrap_add i 1 (by omega)]

def rootS : S37 := ⟨⟨#[]⟩, 4, ⟨#[]⟩⟩
/-- The second loop: a chain of directories. -/
def chainS (m : Nat) : List S37 := rootS :: (List.range m).map fun j => ⟨bs (chainPath j), 4, ⟨#[]⟩⟩
theorem chainS_succ (m : Nat) : chainS (m + 1) = chainS m ++ [⟨bs (chainPath m), 4, ⟨#[]⟩⟩] := by
  unfold chainS; rw [List.range_succ, List.map_append]; rfl
theorem chainS_len (m : Nat) : (chainS m).length = m + 1 := by simp [chainS]
theorem chainPath_len : ∀ m, (chainPath m).length = 2 * m + 1
  | 0 => rfl
  | m + 1 => by rw [chainPath, List.length_append, chainPath_len m]; simp; omega
theorem chainPath_ascii : ∀ m, ∀ b ∈ chainPath m, b.toNat < 128
  | 0 => by intro b hb; simp [chainPath] at hb; subst hb; decide
  | m + 1 => by
    intro b hb
    rw [chainPath, List.mem_append] at hb
    rcases hb with hb | hb
    · exact chainPath_ascii m b hb
    · simp at hb
      rcases hb with rfl | rfl <;> decide
theorem nds_chain (m : Nat) : nds (chainS m) = chainN m := by
  unfold nds chainS chainN
  rw [List.map_cons, List.map_map]
  rfl
theorem l1_run (x0 : Int) (n0 : Nat) (hn : n0 < 1000) (he : wrap64 (60 + (Int.tmod (wrap64 x0) 8)) = (n0 : Int)) (k : Nat) : ∀ (d i : Nat), i + d = n0 →
    shelfmarklaw10_NarLimits.l1 (k + d) x0 (chainS i) (bs (chainPath i)) (i : Int) = shelfmarklaw10_NarLimits.l1 k x0 (chainS n0) (bs (chainPath n0)) (n0 : Int)
  | 0, i, h => by
    obtain rfl : i = n0 := by omega
    rfl
  | d + 1, i, h => by
    have ih := l1_run x0 n0 hn he k d (i + 1) (by omega)
    rw [← ih, show k + (d + 1) = (k + d) + 1 from rfl]
    conv => lhs; unfold shelfmarklaw10_NarLimits.l1
    have e1 : bs (chainPath i) ++ (⟨#[47, 100]⟩ : ByteArray) = bs (chainPath (i + 1)) := by
      rw [show (⟨#[47, 100]⟩ : ByteArray) = bs [47, 100] from rfl, bs_append]; rfl
    rw [he, if_pos (by omega), if_pos (by rw [chainS_len]; omega), if_pos (by rw [bs_size, chainPath_len]; omega), e1, ← chainS_succ, show wrap64 ((i : Int) + 1) = ((i + 1 : Nat) : Int) from wrap_add i 1 (by omega)]

/-- The third: files in the root. -/
def flatS (m : Nat) : List S37 := rootS :: (List.range m).map fun j => ⟨bs (flatPath (j + 1)), 1, ⟨#[]⟩⟩
theorem flatS_succ (m : Nat) : flatS (m + 1) = flatS m ++ [⟨bs (flatPath (m + 1)), 1, ⟨#[]⟩⟩] := by
  unfold flatS; rw [List.range_succ, List.map_append]; rfl
theorem flatS_len (m : Nat) : (flatS m).length = m + 1 := by simp [flatS]
theorem flatPath_ascii (m : Nat) : ∀ b ∈ flatPath m, b.toNat < 128 := by
  intro b hb
  unfold flatPath at hb
  rcases List.mem_cons.1 hb with rfl | hb
  · show (97 + m / 26 % 26) % 256 < 128; omega
  · obtain rfl : b = UInt8.ofNat (97 + m % 26) := by simpa using hb
    show (97 + m % 26) % 256 < 128; omega
theorem nds_flat (m : Nat) : nds (flatS m) = flatN m := by
  unfold nds flatS flatN
  rw [List.map_cons, List.map_map]
  rfl
theorem flat_name (i : Nat) (hi : i < 1000) : strOfNums ([(wrap64 (97 + (Int.tmod (wrap64 (Int.tdiv (i : Int) 26)) 26))) % 256, (wrap64 (97 + (Int.tmod (i : Int) 26))) % 256] : List Int) = bs (flatPath i) := by
  have e1 : Int.tdiv (i : Int) 26 = ((i / 26 : Nat) : Int) := by
    rw [Int.tdiv_eq_ediv_of_nonneg (by omega)]; rfl
  have e2 : Int.tmod (i : Int) 26 = ((i % 26 : Nat) : Int) := tmod_nat i 26
  have e3 : Int.tmod ((i / 26 : Nat) : Int) 26 = ((i / 26 % 26 : Nat) : Int) := tmod_nat (i / 26) 26
  rw [e1, wrap_nat _ (by omega), e3, e2, show wrap64 (97 + ((i / 26 % 26 : Nat) : Int)) = ((97 + i / 26 % 26 : Nat) : Int) from wrap_add 97 _ (by omega), show wrap64 (97 + ((i % 26 : Nat) : Int)) = ((97 + i % 26 : Nat) : Int) from wrap_add 97 _ (by omega)]
  have h1 : (((97 + i / 26 % 26 : Nat) : Int) % 256).toNat = 97 + i / 26 % 26 := by omega
  have h2 : (((97 + i % 26 : Nat) : Int) % 256).toNat = 97 + i % 26 := by omega
  simp only [strOfNums, List.map_cons, List.map_nil, h1, h2]
  rfl
theorem l2_run (n0 : Nat) (hn : n0 < 1000) (k : Nat) : ∀ (d i : Nat), i + 1 + d = n0 →
    shelfmarklaw10_NarLimits.l2 (k + d) (flatS i) (n0 : Int) ((i + 1 : Nat) : Int) = shelfmarklaw10_NarLimits.l2 k (flatS (n0 - 1)) (n0 : Int) (n0 : Int)
  | 0, i, h => by
    obtain rfl : n0 = i + 1 := by omega
    rfl
  | d + 1, i, h => by
    have ih := l2_run n0 hn k d (i + 1) (by omega)
    rw [← ih, show k + (d + 1) = (k + d) + 1 from rfl]
    conv => lhs; unfold shelfmarklaw10_NarLimits.l2
    rw [if_pos (by omega), if_pos (by rw [flatS_len]; omega), flat_name (i + 1) (by omega), ← flatS_succ, show wrap64 (((i + 1 : Nat) : Int) + 1) = ((i + 1 + 1 : Nat) : Int) from wrap_add (i + 1) 1 (by omega)]

theorem nameN_at (m : Nat) (h : m < 10) : May (nameN (250 + m)) = decide (250 + m ≤ 255) := eq_of_beq (List.all_eq_true.1 nameN_may m (List.mem_range.2 h))
theorem chainN_at (m : Nat) (h : m < 8) : May (chainN (60 + m)) = decide (60 + m ≤ 64) := eq_of_beq (List.all_eq_true.1 chainN_may m (List.mem_range.2 h))
theorem flatN_at (m : Nat) (h : m < 12) : May (flatN (249 + m)) = decide (250 + m ≤ 256) := eq_of_beq (List.all_eq_true.1 flatN_may m (List.mem_range.2 h))

theorem cast_le (a b : Nat) : decide ((a : Int) ≤ (b : Int)) = decide (a ≤ b) := by
  rw [Bool.eq_iff_iff]; simp

theorem NarLimits : shelfmarklaw10_NarLimits.Pure := by
  intro a0 a1 hw0 hw1
  obtain ⟨n, hn, rfl⟩ := u8_nat a0 hw0
  obtain ⟨q, hq, rfl⟩ := u8_nat a1 hw1
  have w0 : wrap64 (n : Int) = n := wrap_nat n (by omega)
  have t10 : wrap64 (250 + (Int.tmod (wrap64 (n : Int)) 10)) = ((250 + n % 10 : Nat) : Int) := by
    rw [w0, show Int.tmod (n : Int) 10 = ((n % 10 : Nat) : Int) from tmod_nat n 10]; exact wrap_add 250 _ (by omega)
  have t8 : wrap64 (60 + (Int.tmod (wrap64 (n : Int)) 8)) = ((60 + n % 8 : Nat) : Int) := by
    rw [w0, show Int.tmod (n : Int) 8 = ((n % 8 : Nat) : Int) from tmod_nat n 8]; exact wrap_add 60 _ (by omega)
  have t7 : wrap64 (65533 + (Int.tmod (wrap64 (n : Int)) 7)) = ((65533 + n % 7 : Nat) : Int) := by
    rw [w0, show Int.tmod (n : Int) 7 = ((n % 7 : Nat) : Int) from tmod_nat n 7]; exact wrap_add 65533 _ (by omega)
  have t12 : wrap64 (250 + (Int.tmod (wrap64 (n : Int)) 12)) = ((250 + n % 12 : Nat) : Int) := by
    rw [w0, show Int.tmod (n : Int) 12 = ((n % 12 : Nat) : Int) from tmod_nat n 12]; exact wrap_add 250 _ (by omega)
  have tq : Int.tmod (q : Int) 4 = ((q % 4 : Nat) : Int) := tmod_nat q 4
  have h10 : n % 10 < 10 := Nat.mod_lt _ (by omega)
  have h8 : n % 8 < 8 := Nat.mod_lt _ (by omega)
  have h7 : n % 7 < 7 := Nat.mod_lt _ (by omega)
  have h12 : n % 12 < 12 := Nat.mod_lt _ (by omega)
  generalize n % 10 = m10 at *
  generalize n % 8 = m8 at *
  generalize n % 7 = m7 at *
  generalize n % 12 = m12 at *
  refine ⟨2001 + (250 + m10), ?_⟩
  unfold shelfmarklaw10_NarLimits.f
  have hrun := l0_run (n : Int) (q : Int) (250 + m10) (by omega) t10 2001 (250 + m10) 0 (by omega)
  rw [show shelfmarklaw10_NarLimits.l0 (2001 + (250 + m10)) (n : Int) (q : Int) (⟨#[]⟩ : ByteArray) 0 = shelfmarklaw10_NarLimits.l0 (2001 + (250 + m10)) (n : Int) (q : Int) (bs (List.replicate 0 110)) ((0 : Nat) : Int) from rfl, hrun]
  rw [show (2001 : Nat) = 2000 + 1 from rfl]
  unfold shelfmarklaw10_NarLimits.l0
  rw [t10, if_neg (by omega), Option.bind_some, tq, t7, t12]
  by_cases q0 : q % 4 = 0
  · rw [if_pos (by omega), if_pos (by simp)]
    refine j3_good ([rootS] ++ [⟨bs (List.replicate (250 + m10) 110), 1, ⟨#[]⟩⟩]) _ ?_ ?_ ?_ 1999 (by simp)
    · intro x hx
      simp at hx
      rcases hx with rfl | rfl
      · decide
      · show (bs _).size ≤ _
        rw [bs_size, List.length_replicate]; omega
    · intro x hx b hb
      simp at hx
      rcases hx with rfl | rfl
      · simp [rootS] at hb
      · rw [show (⟨bs (List.replicate (250 + m10) 110), 1, ⟨#[]⟩⟩ : S37).f0.data.toList = List.replicate (250 + m10) 110 from bs_toList _] at hb
        have := List.eq_of_mem_replicate hb
        subst this; decide
    · rw [bs_size, List.length_replicate]
      refine Eq.trans ?_ (cast_le (250 + m10) 255).symm
      rw [← nameN_at m10 h10]
      congr 1
  · rw [if_neg (by omega)]
    by_cases q1 : q % 4 = 1
    · rw [if_pos (by omega)]
      have hr := l1_run (n : Int) (60 + m8) (by omega) t8 (1900 + 100 - (60 + m8)) (60 + m8) 0 (by omega)
      rw [show 1900 + 100 - (60 + m8) + (60 + m8) = 2000 by omega] at hr
      refine Eq.trans hr ?_
      rw [show 1900 + 100 - (60 + m8) = (1899 + 100 - (60 + m8)) + 1 by omega]
      unfold shelfmarklaw10_NarLimits.l1
      rw [t8, if_neg (by omega)]
      rw [show 1899 + 100 - (60 + m8) = (1898 + 100 - (60 + m8)) + 1 by omega]
      refine j3_good (chainS (60 + m8)) _ ?_ ?_ ?_ _ (by rw [chainS_len]; omega)
      · intro x hx
        rcases List.mem_cons.mp hx with rfl | hx
        · decide
        · obtain ⟨j, hj, rfl⟩ := List.mem_map.1 hx
          have := List.mem_range.1 hj
          show (bs _).size ≤ _
          rw [bs_size, chainPath_len]; omega
      · intro x hx b hb
        rcases List.mem_cons.mp hx with rfl | hx
        · simp [rootS] at hb
        · obtain ⟨j, hj, rfl⟩ := List.mem_map.1 hx
          exact chainPath_ascii j b (by rw [← bs_toList (chainPath j)]; exact hb)
      · rw [nds_chain, chainN_at m8 h8]
        exact (cast_le (60 + m8) 64).symm
    · rw [if_neg (by omega)]
      by_cases q2 : q % 4 = 2
      · rw [if_pos (by omega), if_pos (by omega), if_pos (by omega), Int.toNat_natCast]
        refine j3_good [⟨⟨#[]⟩, 1, strOfNums (List.replicate (65533 + m7) 0)⟩] _ ?_ ?_ ?_ 1999 (by simp)
        · intro x hx
          simp at hx
          subst hx
          exact Nat.zero_le _
        · intro x hx b hb
          simp at hx
          subst hx
          simp at hb
        · have hl : (strOfNums (List.replicate (65533 + m7) 0)).data.toList.length = 65533 + m7 := by simp [strOfNums]
          refine Eq.trans ?_ (cast_le (65533 + m7) 65536).symm
          simp only [nds, nd, List.map_cons, List.map_nil, May, List.all_cons, List.all_nil, okNd, hl]
          simp [mayGo]
      · rw [if_neg (by omega)]
        have hr := l2_run (250 + m12) (by omega) (2000 - (249 + m12)) (249 + m12) 0 (by omega)
        rw [show 2000 - (249 + m12) + (249 + m12) = 2000 by omega] at hr
        refine Eq.trans hr ?_
        rw [show 2000 - (249 + m12) = (1999 - (249 + m12)) + 1 by omega]
        unfold shelfmarklaw10_NarLimits.l2
        rw [if_neg (by omega), show 250 + m12 - 1 = 249 + m12 by omega]
        rw [show 1999 - (249 + m12) = (1998 - (249 + m12)) + 1 by omega]
        refine j3_good (flatS (249 + m12)) _ ?_ ?_ ?_ _ (by rw [flatS_len]; omega)
        · intro x hx
          rcases List.mem_cons.mp hx with rfl | hx
          · decide
          · obtain ⟨j, hj, rfl⟩ := List.mem_map.1 hx
            show (bs _).size ≤ _
            rw [bs_size]; show 2 ≤ 1048576; decide
        · intro x hx b hb
          rcases List.mem_cons.mp hx with rfl | hx
          · simp [rootS] at hb
          · obtain ⟨j, hj, rfl⟩ := List.mem_map.1 hx
            exact flatPath_ascii (j + 1) b (by rw [← bs_toList (flatPath (j + 1))]; exact hb)
        · rw [nds_flat, flatN_at m12 h12]
          exact (cast_le (250 + m12) 256).symm
end Go.Proofs.Ytncokgdfkbgflaa.Pure
