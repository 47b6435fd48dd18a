/- What strings.ContainsAny (at the letters 0 and '/'), strings.Contains (at one byte 0) answer at this program, in the form that the printed functions take. -/
import Derived.Test.YtncokgdfkbgflaaShelf
import Derived.Test.YtncokgdfkbgflaaWMore
namespace Go.Proofs.Ytncokgdfkbgflaa
open Go.RowKit Go.Proofs.YtncokgdfkbgflaaW.PrintWords

/-- Does the list hold a 0 or a '/'? -/
def hasSep (l : List UInt8) : Bool := l.any fun c => c == 0 || c == 47

/-- Does the list hold a 0? -/
def hasZero (l : List UInt8) : Bool := l.any fun c => c == 0

theorem indexAny_sep' : ∀ l : List UInt8, 0 ≤ Lib.indexAny l [0, 47] ↔ hasSep l = true
  | [] => by simp [Lib.indexAny, hasSep]
  | b :: l => by
    have ih := indexAny_sep' l
    have hg := Lib.indexAny_ge [0, 47] l
    have e : Lib.indexAny (b :: l) [0, 47] = if ([0, 47] : List UInt8).contains b then 0 else if Lib.indexAny l [0, 47] == -1 then -1 else Lib.indexAny l [0, 47] + 1 := rfl
    have e2 : hasSep (b :: l) = ((b == 0 || b == 47) || hasSep l) := rfl
    rw [e, e2]
    by_cases h : (([0, 47] : List UInt8).contains b) = true
    · rw [if_pos h]
      have : (b == 0 || b == 47) = true := by simpa using h
      rw [this]; simp
    · rw [if_neg h]
      have h2 : (b == 0 || b == 47) = false := by
        rw [Bool.eq_false_iff]; intro h3; apply h; simpa using h3
      rw [h2, Bool.false_or, ← ih]
      by_cases h4 : (Lib.indexAny l [0, 47] == -1) = true
      · rw [if_pos h4]
        have : Lib.indexAny l [0, 47] = -1 := by simpa using h4
        omega
      · rw [if_neg h4]
        have : Lib.indexAny l [0, 47] ≠ -1 := by simpa using h4
        omega
theorem indexAny_sep (l : List UInt8) : decide (0 ≤ Lib.indexAny l [0, 47]) = hasSep l := by
  rw [Bool.eq_iff_iff]; simp only [decide_eq_true_eq]; exact indexAny_sep' l

theorem indexByte_zero' : ∀ l : List UInt8, 0 ≤ Lib.indexByte l 0 ↔ (l.any fun c => c == 0) = true
  | [] => by simp [Lib.indexByte]
  | b :: l => by
    have ih := indexByte_zero' l
    have hg := Lib.indexByte_ge l 0
    have e : Lib.indexByte (b :: l) 0 = if b == 0 then 0 else if Lib.indexByte l 0 == -1 then -1 else Lib.indexByte l 0 + 1 := rfl
    have e2 : ((b :: l).any fun c => c == 0) = ((b == 0) || (l.any fun c => c == 0)) := rfl
    rw [e, e2]
    by_cases h : (b == 0) = true
    · rw [if_pos h, h]; simp
    · rw [if_neg h]
      have h2 : (b == 0) = false := by rw [Bool.eq_false_iff]; exact h
      rw [h2, Bool.false_or, ← ih]
      by_cases h4 : (Lib.indexByte l 0 == -1) = true
      · rw [if_pos h4]
        have : Lib.indexByte l 0 = -1 := by simpa using h4
        omega
      · rw [if_neg h4]
        have : Lib.indexByte l 0 ≠ -1 := by simpa using h4
        omega
theorem indexByte_zero (l : List UInt8) : decide (0 ≤ Lib.indexByte l 0) = l.any fun c => c == 0 := by
  rw [Bool.eq_iff_iff]; simp only [decide_eq_true_eq]; exact indexByte_zero' l

def strings_ContainsAny.f (a0 a1 : ByteArray) : Option Bool := if a1 = ⟨#[0, 47]⟩ ∧ a0.size < 4294967281 ∧ (8 < a0.size ∨ (a0.data.toList.all fun b => decide (b.toNat < 128)) = true) then some (hasSep a0.data.toList) else none

theorem sep_ascii : ∀ (j : Nat) (b : UInt8), (⟨#[0, 47]⟩ : ByteArray).data.toList[j]? = some b → b.toNat < 128 := by
  intro j b h
  match j, h with
  | 0, h => simp at h; subst h; decide
  | 1, h => simp at h; subst h; decide
  | j + 2, h => simp at h

theorem zero129 : ∀ w, (zeroValue 129).run Try.prog w = .ok (.agg (Array.replicate 256 (.bool false))) w := fun w => by kernel_rfl

theorem strings_ContainsAny.calls (a0 a1 : ByteArray) (r : Bool) (w : World) (h : strings_ContainsAny.f a0 a1 = some r) :
    Calls Try.prog 52 #[.string a0, .string a1] w fun e w' => e = .returned (.bool r) ∧ Below w.heap.size w w' := by
  unfold strings_ContainsAny.f at h
  split at h
  · rename_i hc
    obtain ⟨rfl, hs, ho⟩ := hc
    obtain rfl := Option.some.inj h
    have hi : Calls Try.prog 74 #[.string a0, .string ⟨#[0, 47]⟩] w fun e w' => e = .returned (.int .i64 (Lib.indexAny a0.data.toList [0, 47])) ∧ Below w.heap.size w w' := by
      rcases ho with ho | ho
      · refine (Try.strings_IndexAny_long zero129 a0 ⟨#[0, 47]⟩ w (by decide) ho hs (by decide) sep_ascii).mono ?_
        rintro e w' ⟨rfl, rfl⟩
        exact ⟨rfl, ((Below.refl _ w).alloc (Nat.le_refl _) _).alloc (by simp) _⟩
      · refine Try.strings_IndexAny zero129 a0 ⟨#[0, 47]⟩ w hs (by decide) (fun j b hb => ?_) sep_ascii
        have := List.all_eq_true.mp ho b (List.mem_of_getElem? hb)
        simpa using this
    go_enter Try.func52, Try.ntmps52
    go_wp2_with (go_at_call 74; refine hi.mono ?_; rintro e w1 ⟨rfl, hb⟩)
    go_ret
    exact ⟨by rw [← indexAny_sep]; simp, hb⟩
  · cases h

def strings_Contains.f (a0 a1 : ByteArray) : Option Bool := if a1 = ⟨#[0]⟩ then some (hasZero a0.data.toList) else none
theorem strings_Contains.calls (a0 a1 : ByteArray) (r : Bool) (w : World) (h : strings_Contains.f a0 a1 = some r) :
    Calls Try.prog 65 #[.string a0, .string a1] w fun e w' => e = .returned (.bool r) ∧ Drawn0 w w' := by
  unfold strings_Contains.f at h
  split at h
  · rename_i hc
    subst hc
    obtain rfl := Option.some.inj h
    refine (Try.strings_Contains_one a0 0 w).mono ?_
    rintro e w' ⟨rfl, rfl⟩
    exact ⟨by rw [indexByte_zero]; rfl, Drawn0.refl _⟩
  · cases h

def strings_Repeat.f (a0 : ByteArray) (a1 : Int) : Option ByteArray := if 0 ≤ a1 ∧ a1 ≤ 9223372036854775807 ∧ a0.size * a1.toNat ≤ 140737488355328 then some ⟨(Lib.repeatL a0.data.toList a1.toNat).toArray⟩ else none
theorem strings_Repeat.calls (a0 : ByteArray) (a1 : Int) (r : ByteArray) (w : World) (h : strings_Repeat.f a0 a1 = some r) :
    Calls Try.prog 47 #[.string a0, .int .i64 a1] w fun e w' => e = .returned (.string r) ∧ Below w.heap.size w w' := by
  unfold strings_Repeat.f at h
  split at h
  · rename_i hc
    obtain ⟨h0, h1, h2⟩ := hc
    obtain rfl := Option.some.inj h
    obtain ⟨n, rfl⟩ := Int.eq_ofNat_of_zero_le h0
    rw [Int.toNat_natCast] at h2 ⊢
    exact Try.strings_Repeat a0 n w (by omega) h2
  · cases h

end Go.Proofs.Ytncokgdfkbgflaa
