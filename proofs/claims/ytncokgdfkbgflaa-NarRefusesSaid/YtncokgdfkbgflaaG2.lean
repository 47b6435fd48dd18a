/- What nar.mayNode, the closures of nar.May and nar.within, and slices.IndexFunc, slices.ContainsFunc at these closures answer at this program. -/
import Derived.Test.YtncokgdfkbgflaaG1
import Derived.Test.YtncokgdfkbgflaaPx0
import Derived.Laws.Cover1
import Derived.Test.YtncokgdfkbgflaaWLast
namespace Go.Proofs.Ytncokgdfkbgflaa
open Go.RowKit Go.Proofs.YtncokgdfkbgflaaW.PrintWords P

/-- May a node be, wherever it stands? -/
def okNode (n : S37) : Bool :=
  if n.f1 = 1 ∨ n.f1 = 2 then decide (n.f2.size ≤ 65536)
  else if n.f1 = 3 then (!(n.f2.data.toList == [])) && decide (n.f2.size ≤ 4096) && !(hasZero n.f2.data.toList)
  else if n.f1 = 4 then n.f2.data.toList == []
  else false

/-- Where the first one is that is so; -1: none is. -/
def idxOf {α : Type} (p : α → Bool) : List α → Int
  | [] => -1
  | x :: l => if p x then 0 else if idxOf p l = -1 then -1 else idxOf p l + 1

theorem idxOf_ge {α : Type} (p : α → Bool) : ∀ l : List α, -1 ≤ idxOf p l
  | [] => by simp [idxOf]
  | x :: l => by
    have := idxOf_ge p l
    unfold idxOf
    split
    · omega
    · split <;> omega
theorem idxOf_none {α : Type} (p : α → Bool) : ∀ l : List α, (∀ j (h : j < l.length), p l[j] = false) → idxOf p l = -1
  | [], _ => rfl
  | x :: l, h => by
    have h0 := h 0 (by simp)
    have ih := idxOf_none p l (fun j hj => h (j + 1) (by simp; omega))
    simp only [List.getElem_cons_zero] at h0
    unfold idxOf
    rw [if_neg (by simp [h0]), if_pos ih]
theorem idxOf_hit {α : Type} (p : α → Bool) : ∀ (l : List α) (k : Nat) (hk : k < l.length), (∀ j (h : j < k), p (l[j]'(Nat.lt_trans h hk)) = false) → p l[k] = true → idxOf p l = k
  | x :: l, 0, _, _, h => by
    simp only [List.getElem_cons_zero] at h
    unfold idxOf
    rw [if_pos h]; rfl
  | x :: l, k + 1, hk, hb, h => by
    have h0 := hb 0 (by omega)
    simp only [List.getElem_cons_zero] at h0
    have ih := idxOf_hit p l k (by simpa using hk) (fun j hj => by have := hb (j + 1) (by omega); simpa using this) (by simpa using h)
    unfold idxOf
    rw [if_neg (by simp [h0]), ih, if_neg (by omega)]
    omega
theorem idxOf_any {α : Type} (p : α → Bool) : ∀ l : List α, decide (0 ≤ idxOf p l) = l.any p := by
  intro l
  rw [Bool.eq_iff_iff]
  simp only [decide_eq_true_eq]
  induction l with
  | nil => simp [idxOf]
  | cons x l ih =>
    have := idxOf_ge p l
    unfold idxOf
    by_cases h : p x = true
    · simp [h]
    · rw [if_neg h]
      have h' : p x = false := by simpa using h
      rw [List.any_cons, h', Bool.false_or, ← ih]
      split <;> omega

set_option maxHeartbeats 1000000 in
theorem within1_calls (x : S74) (par : ByteArray) (b : Nat) (w : World) (hb : w.cell? ⟨b, 0, none⟩ = some (.string par)) :
    Calls Try.prog 68 #[.agg #[.string x.f0, .string x.f1], .pointer (some ⟨b, 0, none⟩)] w fun e w' => e = .returned (.bool (x.f0.toList == par.toList)) ∧ Below w.heap.size w w' := by
  have hlt := World.block_lt_of_cell? w _ hb
  go_enter Try.func68, Try.ntmps68
  go_wp2
  go_ret
  exact ⟨rfl, below_alloc (Below.refl _ _) _⟩

theorem rd74_at (xs : List S74) (k : Nat) (h : k < xs.length) : rd_T74 xs (k : Int) = xs[k] := by
  simp [rd_T74, List.getD_eq_getElem?_getD, List.getElem?_eq_getElem h]
theorem rd37_at (xs : List S37) (k : Nat) (h : k < xs.length) : rd_T37 xs (k : Int) = xs[k] := by
  simp [rd_T37, List.getD_eq_getElem?_getD, List.getElem?_eq_getElem h]

set_option maxHeartbeats 4000000 in
set_option maxRecDepth 100000 in
theorem indexLevel_calls (A0 : Option Addr) (c0 : Nat) (l0 : List S74) (par : ByteArray) (b : Nat) (w : World) (hr0 : Kd.C k74 w A0 l0.length l0) (hc0 : l0.length ≤ c0) (hb : w.cell? ⟨b, 0, none⟩ = some (.string par)) :
    Calls Try.prog 67 #[.slice A0 l0.length c0, .func (.func 68) #[] #[.pointer (some ⟨b, 0, none⟩)]] w fun e w' => e = .returned (.int .i64 (idxOf (fun x : S74 => x.f0.toList == par.toList) l0)) ∧ Below w.heap.size w w' := by
  have hm := Kd.C_max hr0
  have HR := Aside0.mk hr0
  have HC := Aside0.mk hc0
  have HBb := Aside0.mk hb
  clear hr0 hc0 hb
  have hu74 := Try.underlying74
  go_enter Try.func67, Try.ntmps67
  go_wp2
  go_loopw [8] (fun v8 wr => ∃ k : Nat, k ≤ l0.length ∧ v8 = .int .i64 k ∧ Aside0 (Below w.heap.size w wr) ∧ Aside0 (∀ j (h : j < k) (h2 : j < l0.length), (l0[j].f0.toList == par.toList) = false)) (fun v8 _ => l0.length - (intOf v8).toNat)
  case atStart => exact ⟨0, by omega, rfl, ⟨Below.refl _ _⟩, ⟨fun j h => by omega⟩⟩
  case round =>
    obtain ⟨k, hk, rfl, HB, HN⟩ := hrel
    by_cases hlt : k < l0.length
    · obtain ⟨ad, ea, hx0, hx1⟩ := at_T74 (Kd.C_below HR.out HB.out) (k : Int) (by omega) (by omega)
      rw [Int.toNat_natCast] at hx0 hx1
      rw [rd74_at l0 k hlt] at hx0 hx1
      obtain ⟨x, hx⟩ : ∃ x, x = l0[k] := ⟨_, rfl⟩
      rw [← hx] at hx0 hx1
      have HX := Aside0.mk hx
      clear hx
      cases ea
      have hbc : wr.cell? ⟨b, 0, none⟩ = some (.string par) := pw_cell_below HB.out HBb.out
      have hd : decide ((k : Int) < (l0.length : Int)) = true := decide_eq_true (by omega)
      cases hq : (x.f0.toList == par.toList) with
      | false =>
        go_wp2_with (go_at_call 68; refine (within1_calls x par b _ hbc).mono ?_; rw [hq]; rintro e w1 ⟨rfl, hb1⟩)
        go_roundw
        case rel => exact ⟨k + 1, by omega, by go_num, ⟨below_step HB.out hb1⟩, ⟨fun j h h2 => by
          by_cases e : j = k
          · subst e; rw [← HX.out]; exact hq
          · exact HN.out j (by omega) h2⟩⟩
        case measure => simp [intOf]; omega
      | true =>
        go_wp2_with (go_at_call 68; refine (within1_calls x par b _ hbc).mono ?_; rw [hq]; rintro e w1 ⟨rfl, hb1⟩)
        go_ret
        exact ⟨by rw [idxOf_hit _ l0 k hlt (fun j h => HN.out j h (by omega)) (by rw [← HX.out]; exact hq)]; rfl, below_step HB.out hb1⟩
    · have hd : decide ((k : Int) < (l0.length : Int)) = false := decide_eq_false (by omega)
      go_wp2
      go_ret
      exact ⟨by rw [idxOf_none _ l0 (fun j h => HN.out j (by omega) h)]; rfl, HB.out⟩

theorem toList_data (s : ByteArray) : s.toList = s.data.toList := Lib.toList_data s

set_option maxHeartbeats 4000000 in
theorem mayNode_calls (n : S37) (w : World) :
    Calls Try.prog 43 #[.agg #[.string n.f0, .int .i64 n.f1, .string n.f2]] w fun e w' => e = .returned (.bool (okNode n)) ∧ Below w.heap.size w w' := by
  obtain ⟨f0, f1, f2⟩ := n
  have hu37 := Try.underlying37
  by_cases h1 : f1 = 1
  · subst h1
    go_enter Try.func43, Try.ntmps43
    go_wp2
    all_goals go_ret
    all_goals exact ⟨by simp [okNode]; omega, below_alloc (Below.refl _ _) _⟩
  by_cases h2 : f1 = 2
  · subst h2
    go_enter Try.func43, Try.ntmps43
    go_wp2
    all_goals go_ret
    all_goals exact ⟨by simp [okNode]; omega, below_alloc (Below.refl _ _) _⟩
  have e1 : (f1 == 1) = false := beq_eq_false_iff_ne.2 h1
  have e2 : (f1 == 2) = false := beq_eq_false_iff_ne.2 h2
  by_cases h3 : f1 = 3
  · subst h3
    clear e1 e2 h1 h2
    by_cases he : f2.toList = []
    · have e3 : (f2.toList == []) = true := by rw [he]; rfl
      have e4 : (f2.toList != []) = false := by rw [he]; rfl
      have e5 : f2.toList.isEmpty = true := by rw [he]; rfl
      go_enter Try.func43, Try.ntmps43
      go_wp2
      go_ret
      exact ⟨by rw [toList_data] at he; simp [okNode, he], below_alloc (Below.refl _ _) _⟩
    · have e3 : (f2.toList == []) = false := beq_eq_false_iff_ne.2 he
      have e4 : (f2.toList != []) = true := bne_iff_ne.2 he
      have e5 : f2.toList.isEmpty = false := by rw [List.isEmpty_eq_false_iff]; exact he
      by_cases hs : f2.size ≤ 4096
      · have e6 : decide ((f2.size : Int) ≤ 4096) = true := decide_eq_true (by omega)
        have e7 : decide (f2.size ≤ 4096) = true := decide_eq_true hs
        have HE := Aside0.mk he
        clear he
        have HS := Aside0.mk hs
        go_enter Try.func43, Try.ntmps43
        go_wp2_with (go_at_call 65; refine (strings_Contains.calls f2 ⟨#[0]⟩ (hasZero f2.data.toList) _ (by simp [strings_Contains.f])).mono ?_; rintro e w1 ⟨rfl, hd⟩)
        go_ret
        have he := HE.out
        rw [toList_data] at he
        exact ⟨by rw [show okNode ⟨f0, 3, f2⟩ = ((!(f2.data.toList == [])) && decide (f2.size ≤ 4096) && !(hasZero f2.data.toList)) from rfl, beq_eq_false_iff_ne.2 he, decide_eq_true HS.out]; rfl, below_step (below_alloc (Below.refl _ _) _) hd.below⟩
      · have e6 : decide ((f2.size : Int) ≤ 4096) = false := decide_eq_false (by omega)
        have e7 : decide (f2.size ≤ 4096) = false := decide_eq_false hs
        have HE := Aside0.mk he
        clear he
        go_enter Try.func43, Try.ntmps43
        go_wp2
        go_ret
        exact ⟨by simp [okNode, hs], below_alloc (Below.refl _ _) _⟩
  have e8 : (f1 == 3) = false := beq_eq_false_iff_ne.2 h3
  by_cases h4 : f1 = 4
  · subst h4
    clear e1 e2 e8 h1 h2 h3
    go_enter Try.func43, Try.ntmps43
    go_wp2
    go_ret
    exact ⟨by simp [okNode, ← toList_data], below_alloc (Below.refl _ _) _⟩
  have e9 : (f1 == 4) = false := beq_eq_false_iff_ne.2 h4
  go_enter Try.func43, Try.ntmps43
  go_wp2
  go_ret
  exact ⟨by simp [okNode, h1, h2, h3, h4], below_alloc (Below.refl _ _) _⟩

set_option maxHeartbeats 1000000 in
theorem may1_calls (n : S37) (w : World) :
    Calls Try.prog 42 #[.agg #[.string n.f0, .int .i64 n.f1, .string n.f2]] w fun e w' => e = .returned (.bool (!okNode n)) ∧ Below w.heap.size w w' := by
  have hu37 := Try.underlying37
  go_enter Try.func42, Try.ntmps42
  go_wp2_with (go_at_call 43; refine (mayNode_calls n _).mono ?_; rintro e w1 ⟨rfl, hb⟩)
  go_ret
  exact ⟨rfl, below_step (below_alloc (Below.refl _ _) _) hb⟩

set_option maxHeartbeats 4000000 in
set_option maxRecDepth 100000 in
theorem indexMay1_calls (A0 : Option Addr) (c0 : Nat) (l0 : List S37) (w : World) (hr0 : Kd.C k37 w A0 l0.length l0) (hc0 : l0.length ≤ c0) :
    Calls Try.prog 64 #[.slice A0 l0.length c0, .func (.func 42) #[] #[]] w fun e w' => e = .returned (.int .i64 (idxOf (fun x : S37 => !okNode x) l0)) ∧ Below w.heap.size w w' := by
  have hm := Kd.C_max hr0
  have HR := Aside0.mk hr0
  have HC := Aside0.mk hc0
  clear hr0 hc0
  have hu37 := Try.underlying37
  go_enter Try.func64, Try.ntmps64
  go_wp2
  go_loopw [8] (fun v8 wr => ∃ k : Nat, k ≤ l0.length ∧ v8 = .int .i64 k ∧ Aside0 (Below w.heap.size w wr) ∧ Aside0 (∀ j (h : j < k) (h2 : j < l0.length), (!okNode l0[j]) = false)) (fun v8 _ => l0.length - (intOf v8).toNat)
  case atStart => exact ⟨0, by omega, rfl, ⟨Below.refl _ _⟩, ⟨fun j h => by omega⟩⟩
  case round =>
    obtain ⟨k, hk, rfl, HB, HN⟩ := hrel
    by_cases hlt : k < l0.length
    · obtain ⟨ad, ea, hx0, hx1, hx2⟩ := at_T37 (Kd.C_below HR.out HB.out) (k : Int) (by omega) (by omega)
      rw [Int.toNat_natCast] at hx0 hx1 hx2
      rw [rd37_at l0 k hlt] at hx0 hx1 hx2
      obtain ⟨x, hx⟩ : ∃ x, x = l0[k] := ⟨_, rfl⟩
      rw [← hx] at hx0 hx1 hx2
      have HX := Aside0.mk hx
      clear hx
      cases ea
      have hd : decide ((k : Int) < (l0.length : Int)) = true := decide_eq_true (by omega)
      cases hq : (!okNode x) with
      | false =>
        have HQ := Aside0.mk hq
        clear hq
        go_wp2_with (go_at_call 42; refine (may1_calls x _).mono ?_; rw [HQ.out]; rintro e w1 ⟨rfl, hb1⟩)
        go_roundw
        case rel => exact ⟨k + 1, by omega, by go_num, ⟨below_step HB.out hb1⟩, ⟨fun j h h2 => by
          by_cases e : j = k
          · subst e; rw [← HX.out]; exact HQ.out
          · exact HN.out j (by omega) h2⟩⟩
        case measure => simp [intOf]; omega
      | true =>
        have HQ := Aside0.mk hq
        clear hq
        go_wp2_with (go_at_call 42; refine (may1_calls x _).mono ?_; rw [HQ.out]; rintro e w1 ⟨rfl, hb1⟩)
        go_ret
        exact ⟨by rw [idxOf_hit _ l0 k hlt (fun j h => HN.out j h (by omega)) (by rw [← HX.out]; exact HQ.out)]; rfl, below_step HB.out hb1⟩
    · have hd : decide ((k : Int) < (l0.length : Int)) = false := decide_eq_false (by omega)
      go_wp2
      go_ret
      exact ⟨by rw [idxOf_none _ l0 (fun j h => HN.out j (by omega) h)]; rfl, HB.out⟩

def containsMay1.f (l0 : List S37) : Option Bool := some (l0.any fun x => !okNode x)
set_option maxHeartbeats 1000000 in
theorem containsMay1.calls (A0 : Option Addr) (c0 : Nat) (l0 : List S37) (r : Bool) (w : World) (hr0 : Kd.C k37 w A0 l0.length l0) (hc0 : l0.length ≤ c0) (h : containsMay1.f l0 = some r) :
    Calls Try.prog 41 #[.slice A0 l0.length c0, .func (.func 42) #[] #[]] w fun e w' => e = .returned (.bool r) ∧ Below w.heap.size w w' := by
  obtain rfl := Option.some.inj h
  have HR := Aside0.mk hr0
  have HC := Aside0.mk hc0
  clear hr0 hc0 h
  go_enter Try.func41, Try.ntmps41
  go_wp2_with (go_at_call 64; refine (indexMay1_calls A0 c0 l0 _ HR.out HC.out).mono ?_; rintro e w1 ⟨rfl, hb⟩)
  go_ret
  exact ⟨by rw [← idxOf_any]; rfl, hb⟩

end Go.Proofs.Ytncokgdfkbgflaa
