/- What nar.Word and nar.Str answer, as plain lists of bytes. -/
/- HOMES: nar_Str -/
import Derived.Test.YtncokgdfkbgflaaPx2
import Derived.Test.YtncokgdfkbgflaaS0
import Derived.Test.YtncokgdfkbgflaaG4
namespace Go.Proofs.Ytncokgdfkbgflaa
open Go.RowKit Go.Proofs.YtncokgdfkbgflaaW.PrintWords Go.Proofs.YtncokgdfkbgflaaW.PrintMore P

/-- A list of bytes as a string. -/
def bs (l : List UInt8) : ByteArray := ⟨l.toArray⟩
theorem bs_size (l : List UInt8) : (bs l).size = l.length := by simp [bs, ByteArray.size]
theorem bs_toList (l : List UInt8) : (bs l).data.toList = l := by simp [bs]
theorem bs_append (a b : List UInt8) : bs a ++ bs b = bs (a ++ b) := by
  apply ByteArray.ext; simp [bs]
theorem bs_data (s : ByteArray) : bs s.data.toList = s := by cases s; simp [bs]

theorem word_step (k : Nat) (n : Nat) (xs : List Int) (i : Nat) (hi : i < 8) (hx : xs.length = 8) :
    nar_Word.l0 (k + 1) (n : Int) xs 8 (i : Int) = nar_Word.l0 k (n : Int) (xs.set i (((n / 2 ^ (8 * i) : Nat) : Int) % 256)) 8 ((i + 1 : Nat) : Int) := by
  have hw : wrap64 (8 * (i : Int)) = ((8 * i : Nat) : Int) := by unfold wrap64; omega
  have hw2 : wrap64 ((i : Int) + 1) = ((i + 1 : Nat) : Int) := by unfold wrap64; omega
  have hs : shr .i64 (n : Int) ((8 * i : Nat) : Int) = ((n / 2 ^ (8 * i) : Nat) : Int) := by
    unfold shr
    rw [Int.toNat_natCast, Nat.min_eq_left (by show 8 * i ≤ 64; omega)]
    simp
  simp only [nar_Word.l0]
  rw [if_pos (by omega), hw, if_pos (by omega), if_pos (by omega), if_pos (by rw [hx]; omega), hw2, hs, Int.toNat_natCast]

theorem word_any (k : Nat) (n : Nat) : nar_Word.f (k + 9) (n : Int) = some (bs (le8 n)) := by
  unfold nar_Word.f
  rw [if_pos (by decide)]
  simp only [Option.bind_some]
  have hm : mx 0 (n : Int) = n := by unfold mx; split <;> omega
  rw [hm]
  have e8 : (((List.replicate 8 (0 : Int)).length : Nat) : Int) = 8 := rfl
  rw [e8]
  show nar_Word.l0 (k + 8 + 1) (n : Int) _ 8 ((0 : Nat) : Int) = _
  rw [word_step (k + 8) n _ 0 (by omega) rfl]
  rw [show k + 8 = (k + 7) + 1 from rfl, word_step (k + 7) n _ 1 (by omega) (by simp)]
  rw [show k + 7 = (k + 6) + 1 from rfl, word_step (k + 6) n _ 2 (by omega) (by simp)]
  rw [show k + 6 = (k + 5) + 1 from rfl, word_step (k + 5) n _ 3 (by omega) (by simp)]
  rw [show k + 5 = (k + 4) + 1 from rfl, word_step (k + 4) n _ 4 (by omega) (by simp)]
  rw [show k + 4 = (k + 3) + 1 from rfl, word_step (k + 3) n _ 5 (by omega) (by simp)]
  rw [show k + 3 = (k + 2) + 1 from rfl, word_step (k + 2) n _ 6 (by omega) (by simp)]
  rw [show k + 2 = (k + 1) + 1 from rfl, word_step (k + 1) n _ 7 (by omega) (by simp)]
  simp only [nar_Word.l0]
  rw [if_neg (by omega)]
  congr 1
  have hb : ∀ m : Nat, UInt8.ofNat (((m : Int) % 256).toNat) = UInt8.ofNat m := by
    intro m
    have : ((m : Int) % 256).toNat = m % 256 := by omega
    rw [this]
    apply UInt8.toNat_inj.mp
    simp
  simp only [List.replicate_succ, List.replicate_zero, List.set_cons_zero, List.set_cons_succ, strOfNums, List.map_cons, List.map_nil, hb, bs, le8]
  simp

/-- More rounds tell the same. -/
theorem leo_up {α : Type} {f : Nat → Option α} (h : ∀ k, LeO (f k) (f (k + 1))) {k : Nat} {r : α} (hr : f k = some r) : ∀ m, k ≤ m → f m = some r := by
  intro m hm
  induction m with
  | zero => obtain rfl : k = 0 := by omega
            exact hr
  | succ m ih =>
    by_cases e : k = m + 1
    · subst e; exact hr
    · exact h m r (ih (by omega))

theorem str_any (k : Nat) (s : ByteArray) (hs : s.size ≤ 4611686018427387904) : nar_Str.f (k + 9) s = some (bs (strB s.data.toList)) := by
  unfold nar_Str.f
  rw [word_any]
  simp only [Option.bind_some]
  rw [bs_size, le8_length, if_pos (by omega)]
  have hp : (8 - ((s.size : Int) % 8)) % 8 = ((pad s.size : Nat) : Int) := by unfold pad; omega
  have hp8 : pad s.size < 8 := by unfold pad; omega
  rw [hp]
  have hr : strings_Repeat.f (⟨#[0]⟩ : ByteArray) ((pad s.size : Nat) : Int) = some (bs (List.replicate (pad s.size) 0)) := by
    unfold strings_Repeat.f
    rw [if_pos ⟨by omega, by omega, by rw [Int.toNat_natCast]; show 1 * _ ≤ _; omega⟩, Int.toNat_natCast]
    have := Lib.repeatL_replicate 0 1 (pad s.size)
    rw [Nat.mul_one] at this
    rw [← this]; rfl
  rw [hr]
  simp only [Option.bind_some]
  rw [ByteArray.size_append, bs_size, bs_size, le8_length, List.length_replicate, if_pos (by omega)]
  rw [show s = bs s.data.toList from (bs_data s).symm, bs_append, bs_append, bs_data, strB, ← Lib.size_eq]
end Go.Proofs.Ytncokgdfkbgflaa
