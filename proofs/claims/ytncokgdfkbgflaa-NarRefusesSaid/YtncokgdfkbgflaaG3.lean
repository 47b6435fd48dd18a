/- What nar.within answers at this program. -/
import Derived.Test.YtncokgdfkbgflaaG2
import Derived.RegionTactic
import Derived.ChangeAlike
import Derived.Outline
namespace Go.Proofs.Ytncokgdfkbgflaa
open Go.RowKit Go.Proofs.YtncokgdfkbgflaaW.PrintWords P

/-- The levels whose path is so. -/
def isLevel (par : ByteArray) (x : S74) : Bool := x.f0.toList == par.toList

theorem size_toList (s : ByteArray) : s.toList.length = s.size := by rw [toList_data, ← Lib.size_eq]

set_option maxHeartbeats 4000000 in
set_option maxRecDepth 100000 in
theorem within_cut (A0 : Option Addr) (c0 : Nat) (l0 : List S74) (p : ByteArray) (at_ : Nat) (w : World) (hr0 : Kd.C k74 w A0 l0.length l0) (hc0 : l0.length ≤ c0) (hs : p.size < 4611686018427387904) (ha : Lib.lastIndexByte p 47 = at_) (hlt : at_ < p.size) (hne : 0 < at_) :
    Calls Try.prog 44 #[.slice A0 l0.length c0, .string p] w fun e w' => e = .returned (.tuple #[.int .i64 (idxOf (isLevel (p.extract 0 at_)) l0), .string (p.extract (at_ + 1) p.size), .bool (decide (0 ≤ idxOf (isLevel (p.extract 0 at_)) l0))]) ∧ Below w.heap.size w w' := by
  have hm := Kd.C_max hr0
  have HR := Aside0.mk hr0
  have HC := Aside0.mk hc0
  have HA := Aside0.mk ha
  clear hr0 hc0 ha
  have he : ((p.extract 0 at_).toList == []) = false := by
    rw [beq_eq_false_iff_ne]; intro h
    have h2 := congrArg List.length h
    rw [size_toList, ByteArray.size_extract] at h2
    simp only [List.length_nil] at h2
    omega
  have he2 : (p.extract 0 at_).toList.isEmpty = false := by
    rw [List.isEmpty_eq_false_iff]; exact beq_eq_false_iff_ne.1 he
  have hu74 := Try.underlying74
  go_enter Try.func44, Try.ntmps44
  go_wp2_with (go_at_call 66; refine (Try.strings_LastIndexByte p 47 hs _).mono ?_; rw [HA.out]; rintro e w' ⟨rfl, rfl⟩)
  go_region
  all_goals
    go_wp2_with (go_at_call 67; refine (indexLevel_calls A0 c0 l0 (p.extract 0 at_) w.heap.size _ ?h1 HC.out ?h2).mono ?_)
  case h1 => exact Kd.C_drew (Kd.C_alloc HR.out _)
  case h2 => go_simp
  rintro e w1 ⟨rfl, hb⟩
  obtain ⟨i, hi⟩ : ∃ i, idxOf (fun x : S74 => x.f0.toList == (p.extract 0 at_).toList) l0 = i := ⟨_, rfl⟩
  rw [hi]
  have HI := Aside0.mk hi
  clear hi
  go_wp2
  go_ret3
  have hx := HI.out
  exact ⟨by rw [show isLevel (p.extract 0 at_) = (fun x : S74 => x.f0.toList == (p.extract 0 at_).toList) from rfl, hx]; simp, below_step (below_drew (below_alloc (Below.refl _ _) _)) hb⟩

set_option maxHeartbeats 4000000 in
set_option maxRecDepth 100000 in
theorem within_bare (A0 : Option Addr) (c0 : Nat) (l0 : List S74) (p : ByteArray) (w : World) (hr0 : Kd.C k74 w A0 l0.length l0) (hc0 : l0.length ≤ c0) (hs : p.size < 4611686018427387904) (ha : Lib.lastIndexByte p 47 = -1) :
    Calls Try.prog 44 #[.slice A0 l0.length c0, .string p] w fun e w' => e = .returned (.tuple #[.int .i64 (idxOf (isLevel ⟨#[]⟩) l0), .string p, .bool (decide (0 ≤ idxOf (isLevel ⟨#[]⟩) l0))]) ∧ Below w.heap.size w w' := by
  have hm := Kd.C_max hr0
  have HR := Aside0.mk hr0
  have HC := Aside0.mk hc0
  have HA := Aside0.mk ha
  clear hr0 hc0 ha
  have hu74 := Try.underlying74
  go_enter Try.func44, Try.ntmps44
  go_wp2_with (first | (go_at_call 66; refine (Try.strings_LastIndexByte p 47 hs _).mono ?_; rw [HA.out]; rintro e w' ⟨rfl, rfl⟩) | (go_at_call 67; refine (indexLevel_calls A0 c0 l0 ⟨#[]⟩ w.heap.size _ ?h1 HC.out ?h2).mono ?_))
  case h1 => exact Kd.C_alloc HR.out _
  case h2 => go_simp
  rintro e w1 ⟨rfl, hb⟩
  obtain ⟨i, hi⟩ : ∃ i, idxOf (fun x : S74 => x.f0.toList == (⟨#[]⟩ : ByteArray).toList) l0 = i := ⟨_, rfl⟩
  rw [hi]
  have HI := Aside0.mk hi
  clear hi
  go_wp2
  go_ret3
  have hx := HI.out
  exact ⟨by rw [show isLevel ⟨#[]⟩ = (fun x : S74 => x.f0.toList == (⟨#[]⟩ : ByteArray).toList) from rfl, hx]; simp, below_step (below_alloc (Below.refl _ _) _) hb⟩

set_option maxHeartbeats 4000000 in
set_option maxRecDepth 100000 in
theorem within_zero (A0 : Option Addr) (c0 : Nat) (l0 : List S74) (p : ByteArray) (w : World) (hs : p.size < 4611686018427387904) (ha : Lib.lastIndexByte p 47 = 0) (hlt : 0 < p.size) :
    Calls Try.prog 44 #[.slice A0 l0.length c0, .string p] w fun e w' => e = .returned (.tuple #[.int .i64 0, .string ⟨#[]⟩, .bool false]) ∧ Below w.heap.size w w' := by
  have HA := Aside0.mk ha
  clear ha
  have hu74 := Try.underlying74
  go_enter Try.func44, Try.ntmps44
  go_wp2_with (go_at_call 66; refine (Try.strings_LastIndexByte p 47 hs _).mono ?_; rw [HA.out]; rintro e w' ⟨rfl, rfl⟩)
  go_region
  all_goals
    go_wp2
    go_ret3
    exact ⟨by simp, (below_drew (below_alloc (Below.refl _ _) _))⟩

def nar_within.f (l0 : List S74) (a1 : ByteArray) : Option (Int × ByteArray × Bool) :=
  if a1.size < 4611686018427387904 then
    if Lib.lastIndexByte a1 47 < 0 then some (idxOf (isLevel ⟨#[]⟩) l0, a1, decide (0 ≤ idxOf (isLevel ⟨#[]⟩) l0))
    else if Lib.lastIndexByte a1 47 = 0 then some (0, ⟨#[]⟩, false)
    else some (idxOf (isLevel (a1.extract 0 (Lib.lastIndexByte a1 47).toNat)) l0, a1.extract ((Lib.lastIndexByte a1 47).toNat + 1) a1.size, decide (0 ≤ idxOf (isLevel (a1.extract 0 (Lib.lastIndexByte a1 47).toNat)) l0))
  else none

theorem nar_within.calls (A0 : Option Addr) (c0 : Nat) (l0 : List S74) (a1 : ByteArray) (r1 : Int) (r2 : ByteArray) (r3 : Bool) (w : World) (hr0 : Kd.C k74 w A0 l0.length l0) (hc0 : l0.length ≤ c0) (h : nar_within.f l0 a1 = some (r1, r2, r3)) :
    Calls Try.prog 44 #[.slice A0 l0.length c0, .string a1] w fun e w' => e = .returned (.tuple #[.int .i64 r1, .string r2, .bool r3]) ∧ Below w.heap.size w w' := by
  unfold nar_within.f at h
  split at h
  · rename_i hs
    rcases Lib.lastIndexByte_spec a1 47 with ⟨h1, _⟩ | ⟨i, hi, h1, _, _⟩
    · rw [if_pos (by omega)] at h
      obtain ⟨rfl, rfl, rfl⟩ : _ ∧ _ ∧ _ := by simpa using h
      exact within_bare A0 c0 l0 a1 w hr0 hc0 hs h1
    · rw [if_neg (by omega)] at h
      by_cases h0 : i = 0
      · subst h0
        rw [if_pos (by rw [h1]; rfl)] at h
        obtain ⟨rfl, rfl, rfl⟩ : _ ∧ _ ∧ _ := by simpa using h
        exact within_zero A0 c0 l0 a1 w hs h1 hi
      · rw [if_neg (by omega), h1, Int.toNat_natCast] at h
        obtain ⟨rfl, rfl, rfl⟩ : _ ∧ _ ∧ _ := by simpa using h
        exact within_cut A0 c0 l0 a1 i w hr0 hc0 hs h1 hi (by omega)
  · cases h
end Go.Proofs.Ytncokgdfkbgflaa
