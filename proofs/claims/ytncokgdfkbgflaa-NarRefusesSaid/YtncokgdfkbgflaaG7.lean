/- What a packer's iterator over the nodes of a directory hands out. -/
import Derived.RangeFuncNested
import Derived.RangeFuncBound
import Derived.RangeFuncCalls
import Derived.RangeFuncLeaves
import Derived.Shelf.Abstract
import Derived.Shelf.RegionOpen
import Derived.WalkKit
import Derived.OwnWalkIn
import Derived.TacticsInMore
import Derived.LoopNIn
import Derived.LoopIn
import Derived.Test.YtncokgdfkbgflaaG6
import Derived.Test.YtncokgdfkbgflaaS1
namespace Go.Proofs.Ytncokgdfkbgflaa
set_option linter.unusedVariables false
set_option linter.unusedSimpArgs false
open Go.RowKit Go.Shelf Go.Proofs.YtncokgdfkbgflaaW.PrintWords Go.Proofs.YtncokgdfkbgflaaW.PrintMore P
attribute [local go_sem] Oper.semAt_some

/-- A node as plain lists. -/
def nd (x : S37) : Nd := ⟨x.f0.data.toList, x.f1, x.f2.data.toList⟩
def nds (l : List S37) : List Nd := l.map nd

/-- Blocks of cells that are neither block g nor rows of bytes stand as they stood. -/
def CellsKept (g : Nat) (w w' : World) : Prop := ∀ k c e fz, w.heap[k]? = some (.cells c e fz) → k ≠ g → e ≠ 5 → w'.heap[k]? = some (.cells c e fz)
/-- What a round keeps for the iterator. -/
structure PkKeep (B g : Nat) (lv : Value) (w w' : World) : Prop where
  below : Below B w w'
  cells : CellsKept g w w'
  pk : ∀ xs, PkAt B g xs lv w → ∃ ys, PkAt B g ys lv w'

theorem PkKeep.trans {B g : Nat} {lv : Value} {a b c : World} (h : PkKeep B g lv a b) (k : PkKeep B g lv b c) : PkKeep B g lv a c :=
  ⟨h.below.trans k.below, fun i cs e fz hi hne ht => k.cells i cs e fz (h.cells i cs e fz hi hne ht) hne ht, fun xs hx => by obtain ⟨ys, hy⟩ := h.pk xs hx; exact k.pk ys hy⟩
theorem PkKeep.putObj {B g : Nat} {lv : Value} {w : World} (hB : B ≤ w.heap.size) (W : World) (l : Nat) (o o' : Obj) (hl : w.heap.size ≤ l) (h : W.heap[l]? = some o) (hc : o.isCells = false) (_ : o.isWalk = false) : PkKeep B g lv W (W.putObj l o') := by
  refine ⟨(Below.refl B W).grown (grownBy_putObj' W l o') (by have := (Array.getElem?_eq_some_iff.1 h).1; omega) (fun k e => by cases e; omega), ?_, ?_⟩
  · intro k c e fz hk _ _
    have hne : k ≠ l := by rintro rfl; rw [h] at hk; cases hk; simp [Obj.isCells] at hc
    exact (World.putObj_heap_other hne).trans hk
  · intro xs hx
    exact ⟨xs, hx.step (some l) (grownBy_putObj' W l o') (fun r e => by cases e; exact ⟨o, h, hc⟩)⟩

/-- An element that the iterator hands out: a place behind at_, and a name. -/
abbrev El (at_ L : Nat) := { x : Nat × List UInt8 // at_ < x.1 ∧ x.1 < L ∧ x.2.length ≤ 1048576 }
def elEnc {at_ L : Nat} (x : El at_ L) : Array Value := #[.int .i64 (x.1.1 : Int), .string (bs x.1.2)]

/-- What the iterator reads: its three variables, the packer. -/
structure BelowAt (B g b2 b3 b5 at_ : Nat) (head : ByteArray) (lv : Value) (w : World) : Prop where
  v2 : w.heap[b2]? = some (.cells #[.pointer (some ⟨g, 0, none⟩)] 61 (0, 0))
  v3 : w.heap[b3]? = some (.cells #[.int .i64 (at_ : Int)] 3 (0, 0))
  v5 : w.heap[b5]? = some (.cells #[.string head] 9 (0, 0))
  pk : ∃ xs, PkAt B g xs lv w

theorem BelowAt.ne {B g b2 b3 b5 at_ : Nat} {head : ByteArray} {lv : Value} {w : World} (h : BelowAt B g b2 b3 b5 at_ head lv w) : b2 ≠ g ∧ b3 ≠ g ∧ b5 ≠ g := by
  obtain ⟨xs, _, p, v, _, hg, _⟩ := h.pk
  exact ⟨blk_ne h.v2 hg (by decide), blk_ne h.v3 hg (by decide), blk_ne h.v5 hg (by decide)⟩
theorem BelowAt.keep {B g b2 b3 b5 at_ : Nat} {head : ByteArray} {lv : Value} {w w' : World} (h : BelowAt B g b2 b3 b5 at_ head lv w) (k : PkKeep B g lv w w') : BelowAt B g b2 b3 b5 at_ head lv w' := by
  obtain ⟨n2, n3, n5⟩ := h.ne
  refine ⟨k.cells _ _ _ _ h.v2 n2 (by decide), k.cells _ _ _ _ h.v3 n3 (by decide), k.cells _ _ _ _ h.v5 n5 (by decide), ?_⟩
  obtain ⟨xs, hx⟩ := h.pk
  exact k.pk xs hx
theorem BelowAt.below {B g b2 b3 b5 at_ : Nat} {head : ByteArray} {lv : Value} {w w' : World} (h : BelowAt B g b2 b3 b5 at_ head lv w) (k : Below w.heap.size w w') : BelowAt B g b2 b3 b5 at_ head lv w' := by
  obtain ⟨xs, hx⟩ := h.pk
  exact ⟨blk_below h.v2 k, blk_below h.v3 k, blk_below h.v5 k, ⟨xs, hx.below k⟩⟩

theorem belowFrom_here (head : List UInt8) (l : List Nd) (i : Nat) (h : i < l.length) : belowFrom head i (l.drop i) =
    if Lib.hasPrefix l[i].path head then
      if (l[i].path.drop head.length).contains 47 then belowFrom head (i + 1) (l.drop (i + 1)) else (i, l[i].path.drop head.length) :: belowFrom head (i + 1) (l.drop (i + 1))
    else [] := by
  rw [List.drop_eq_getElem_cons h]
  rfl
theorem belowFrom_end (head : List UInt8) (l : List Nd) (i : Nat) (h : l.length ≤ i) : belowFrom head i (l.drop i) = [] := by
  rw [List.drop_eq_nil_of_le h]; rfl

theorem slash_one (l : List UInt8) : decide (0 ≤ Lib.indexByte l 47) = l.contains 47 := (Lib.contains_iff_indexByte l 47).symm

theorem nds_at (l0 : List S37) (i : Nat) (h : i < l0.length) (h2 : i < (nds l0).length) : (nds l0)[i].path = l0[i].f0.data.toList := by simp [nds, nd]
theorem below_stop (head : List UInt8) (l0 : List S37) (i : Nat) (h : i < l0.length) (hp : Lib.hasPrefix l0[i].f0.data.toList head = false) : belowFrom head i ((nds l0).drop i) = [] := by
  have h2 : i < (nds l0).length := by simpa [nds] using h
  rw [belowFrom_here head _ i h2, nds_at l0 i h h2, if_neg (by rw [hp]; decide)]
theorem below_pass (head : List UInt8) (l0 : List S37) (i : Nat) (h : i < l0.length) (hp : Lib.hasPrefix l0[i].f0.data.toList head = true) (hq : (Lib.trimPrefix l0[i].f0.data.toList head).contains 47 = true) : belowFrom head i ((nds l0).drop i) = belowFrom head (i + 1) ((nds l0).drop (i + 1)) := by
  have h2 : i < (nds l0).length := by simpa [nds] using h
  unfold Lib.trimPrefix at hq
  rw [if_pos hp] at hq
  rw [belowFrom_here head _ i h2, nds_at l0 i h h2, if_pos hp, if_pos hq]
theorem below_take (head : List UInt8) (l0 : List S37) (i : Nat) (h : i < l0.length) (hp : Lib.hasPrefix l0[i].f0.data.toList head = true) (hq : (Lib.trimPrefix l0[i].f0.data.toList head).contains 47 = false) : belowFrom head i ((nds l0).drop i) = (i, Lib.trimPrefix l0[i].f0.data.toList head) :: belowFrom head (i + 1) ((nds l0).drop (i + 1)) := by
  have h2 : i < (nds l0).length := by simpa [nds] using h
  have ht : Lib.trimPrefix l0[i].f0.data.toList head = l0[i].f0.data.toList.drop head.length := by unfold Lib.trimPrefix; rw [if_pos hp]
  rw [ht] at hq ⊢
  rw [belowFrom_here head _ i h2, nds_at l0 i h h2, if_pos hp, if_neg (by rw [hq]; decide)]
theorem trim_le (s p : List UInt8) : (Lib.trimPrefix s p).length ≤ s.length := by
  unfold Lib.trimPrefix; split
  · simp
  · exact Nat.le_refl _

set_option maxRecDepth 100000 in
set_option maxHeartbeats 8000000 in
theorem below1_in (n : Nat) (hn : 1 ≤ n) (yl B g b2 b3 b5 at_ : Nat) (head : ByteArray) (A0 : Option Addr) (c0 : Nat) (l0 : List S37) (J Jx : List (El at_ l0.length) → World → Prop) (W : World)
    (hR : ∀ W', Below B W W' → Kd.C k37 W' A0 l0.length l0) (hA : BelowAt B g b2 b3 b5 at_ head (.slice A0 l0.length c0) W) (hB : B ≤ W.heap.size)
    (hJ : ∀ s w w', J s w → w.heap.size ≥ W.heap.size → w' = w.drew → J s w')
    (hsz : ∀ x ∈ l0, x.f0.size ≤ 1048576) (hat : at_ < l0.length) (hN : l0.length ≤ 1000000)
    (hY : ∀ pre x W1, J pre W1 → pre.length < l0.length → YieldAt Fence.wide (n - 1) Try.prog yl (elEnc x) W1 fun e W' =>
      (e = .returned (.bool true) ∧ J (pre ++ [x]) W' ∧ PkKeep B g (.slice A0 l0.length c0) W1 W') ∨ (e = .returned (.bool false) ∧ Jx (pre ++ [x]) W'))
    (h0 : J [] W) :
    CallsIn Fence.wide n Try.prog 82 #[.func (.yield yl) #[] #[], .pointer (some ⟨b3, 0, none⟩), .pointer (some ⟨b2, 0, none⟩), .pointer (some ⟨b5, 0, none⟩)] W fun e W' => (∃ v, e = .returned v) ∧
      ((∃ ys : List (El at_ l0.length), ys.map (·.1) = belowFrom head.data.toList (at_ + 1) ((nds l0).drop (at_ + 1)) ∧ J ys W') ∨ (∃ pre, Jx pre W')) := by
  have HY := Aside0.mk hY
  have HR := Aside0.mk hR
  have HJ := Aside0.mk hJ
  have HS := Aside0.mk hsz
  have hlen : (nds l0).length = l0.length := by simp [nds]
  have HL := Aside0.mk hlen
  have H0 := Aside0.mk h0
  have HA := Aside0.mk hA
  have hu37 := Try.underlying37
  have hmix : Try.prog.follows .mixedOrders = true := by kernel_rfl
  have e3 : W.cell? ⟨b3, 0, none⟩ = some (.int .i64 (at_ : Int)) := by rw [blk_cell hA.v3]; rfl
  clear hY hR hJ hsz hlen h0 hA
  refine callsIn_of_wp Try.func82 rfl trivial ?_ rfl
  simp only [Try.ntmps82, List.size_toArray, List.length_cons, List.length_nil, Nat.reduceAdd, Nat.reduceSub, Array.replicate_succ, Array.replicate_zero, List.push_toArray, List.append_toArray, List.nil_append, List.cons_append]
  gi_wp2
  gi_loopw [5] (fun v5 wr => ∃ (i : Nat) (pre : List (El at_ l0.length)), at_ < i ∧ i ≤ l0.length ∧ v5 = .int .i64 (i : Int) ∧ Aside0 (pre.map (·.1) ++ belowFrom head.data.toList i ((nds l0).drop i) = belowFrom head.data.toList (at_ + 1) ((nds l0).drop (at_ + 1)) ∧ pre.length + at_ < i) ∧ Aside0 (J pre wr) ∧ Aside0 (Below B W wr) ∧ Aside0 (BelowAt B g b2 b3 b5 at_ head (.slice A0 l0.length c0) wr))
    (fun v5 _ => l0.length - (intOf v5).toNat)
  case atStart =>
    exact ⟨at_ + 1, [], by omega, by omega, by go_num, ⟨by simp, by simp⟩, H0, ⟨Below.refl _ _⟩, HA⟩
  case round =>
    obtain ⟨i, pre, hi0, hi1, rfl, HP, HJp, HBl, HAt⟩ := hrel
    have e2 : wr.cell? ⟨b2, 0, none⟩ = some (.pointer (some ⟨g, 0, none⟩)) := by rw [blk_cell HAt.out.v2]; rfl
    have e5 : wr.cell? ⟨b5, 0, none⟩ = some (.string head) := by rw [blk_cell HAt.out.v5]; rfl
    have eg : wr.cell? ⟨g, 2, none⟩ = some (.slice A0 l0.length c0) := by obtain ⟨xs, hx⟩ := HAt.out.pk; exact hx.cell2
    by_cases hlt : i < l0.length
    · have hd : decide ((i : Int) < (l0.length : Int)) = true := decide_eq_true (by omega)
      obtain ⟨ad, ea, hx0, hx1, hx2⟩ := at_T37 (HR.out _ HBl.out) (i : Int) (by omega) (by omega)
      rw [Int.toNat_natCast] at hx0 hx1 hx2
      rw [rd37_at l0 i hlt] at hx0 hx1 hx2
      obtain ⟨x, hx⟩ : ∃ x, x = l0[i] := ⟨_, rfl⟩
      rw [← hx] at hx0 hx1 hx2
      have HX := Aside0.mk hx
      clear hx
      cases ea
      obtain ⟨nm, hnm⟩ : ∃ nm, nm = Lib.trimPrefix x.f0.data.toList head.data.toList := ⟨_, rfl⟩
      have HNM := Aside0.mk hnm
      have hcall : ∀ w, Calls Try.prog 83 #[.string x.f0, .string head] w fun e w' => e = .returned (.tuple #[.string ⟨nm.toArray⟩, .bool (Lib.hasPrefix x.f0.data.toList head.data.toList)]) ∧ w' = w := fun w => by rw [hnm]; exact Try.strings_CutPrefix x.f0 head w
      have HC := Aside0.mk hcall
      clear hnm hcall
      cases hp : Lib.hasPrefix x.f0.data.toList head.data.toList with
      | false =>
        have Hp := Aside0.mk hp
        clear hp
        gi_wp2
        gi_region_with_o (refine ⟨trivial, ?_⟩; gi_at_call 83; refine (callsIn_wide.2 (HC.out _)).mono ?_; rw [Hp.out]; rintro e w' ⟨rfl, rfl⟩)
        all_goals gi_wp2
        all_goals refine bodyPost_ret (results_none rfl _ _ _) rfl ?_
        all_goals exact ⟨⟨_, rfl⟩, .inl ⟨pre, by
          have h1 := HP.out.1
          rw [below_stop head.data.toList l0 i hlt (by rw [← HX.out]; exact Hp.out), List.append_nil] at h1
          exact h1, HJ.out _ _ _ HJp.out HBl.out.size rfl⟩⟩
      | true =>
        have Hp := Aside0.mk hp
        clear hp
        cases hq : nm.contains 47 with
        | true =>
          have Hq := Aside0.mk hq
          clear hq
          gi_wp2
          gi_region_with_o (refine ⟨trivial, ?_⟩; gi_at_call 83; refine (callsIn_wide.2 (HC.out _)).mono ?_; rw [Hp.out]; rintro e w' ⟨rfl, rfl⟩)
          all_goals gi_wp2_with (first | (refine ⟨trivial, ?_⟩; gi_at_call 65; refine (callsIn_wide.2 (Try.strings_Contains_one ⟨nm.toArray⟩ 47 _)).mono ?_; rw [slash_one]; rw [show (⟨nm.toArray⟩ : ByteArray).data.toList = nm from rfl, Hq.out]; rintro e w' ⟨rfl, rfl⟩) | ((with_reducible refine And.intro ?_ ?_); focus (intro _ h_; cases h_)))
          all_goals
            go_roundw
            case rel => exact ⟨i + 1, pre, by omega, by omega, by go_num, ⟨by
              have h1 := HP.out.1
              rw [below_pass head.data.toList l0 i hlt (by rw [← HX.out]; exact Hp.out) (by rw [← HX.out, ← HNM.out]; exact Hq.out)] at h1
              exact h1, by have := HP.out.2; omega⟩, ⟨HJ.out _ _ _ HJp.out HBl.out.size rfl⟩, ⟨below_drew HBl.out⟩, ⟨HAt.out.below (below_drew (Below.refl _ _))⟩⟩
            case measure => simp [intOf]; omega
        | false =>
          have Hq := Aside0.mk hq
          clear hq
          have hnl : nm.length ≤ 1048576 := by
            rw [HNM.out]
            have h1 := HS.out x (by rw [HX.out]; exact List.getElem_mem hlt)
            have h2 := trim_le x.f0.data.toList head.data.toList
            rw [← Lib.size_eq] at h2
            omega
          obtain ⟨fn, tmps, assign, body, hy, hRd⟩ := HY.out pre ⟨(i, nm), hi0, hlt, hnl⟩ wr.drew (HJ.out _ _ _ HJp.out HBl.out.size rfl) (by have := HP.out.2; omega)
          dsimp only [elEnc, bs] at hy
          gi_wp2
          gi_region_with_o (refine ⟨trivial, ?_⟩; gi_at_call 83; refine (callsIn_wide.2 (HC.out _)).mono ?_; rw [Hp.out]; rintro e w' ⟨rfl, rfl⟩)
          all_goals gi_wp2_with (first | (refine ⟨trivial, ?_⟩; gi_at_call 65; refine (callsIn_wide.2 (Try.strings_Contains_one ⟨nm.toArray⟩ 47 _)).mono ?_; rw [slash_one]; rw [show (⟨nm.toArray⟩ : ByteArray).data.toList = nm from rfl, Hq.out]; rintro e w' ⟨rfl, rfl⟩))
          all_goals
            refine hRd.mono ?_
            rintro e W3 (⟨rfl, hJ3, hk3⟩ | ⟨rfl, hJx3⟩)
            · have HJ3 := Aside0.mk hJ3
              have HK3 := Aside0.mk hk3
              clear hJ3 hk3
              gi_wp2
              go_roundw
              case rel => exact ⟨i + 1, pre ++ [⟨(i, nm), hi0, hlt, hnl⟩], by omega, by omega, by go_num, ⟨by
                have h1 := HP.out.1
                rw [below_take head.data.toList l0 i hlt (by rw [← HX.out]; exact Hp.out) (by rw [← HX.out, ← HNM.out]; exact Hq.out), ← HX.out, ← HNM.out] at h1
                rw [← h1, List.map_append, List.append_assoc]; rfl, by have := HP.out.2; rw [List.length_append]; simp only [List.length_cons, List.length_nil]; omega⟩, HJ3, ⟨(below_drew HBl.out).trans HK3.out.below⟩, ⟨(HAt.out.below (below_drew (Below.refl _ _))).keep HK3.out⟩⟩
              case measure => simp [intOf]; omega
            · have HJ3 := Aside0.mk hJx3
              clear hJx3
              gi_wp2
              refine bodyPost_ret (results_none rfl _ _ _) rfl ?_
              exact ⟨⟨_, rfl⟩, .inr ⟨_, HJ3.out⟩⟩
    · have hd : decide ((i : Int) < (l0.length : Int)) = false := decide_eq_false (by omega)
      gi_wp2
      go_end0
      exact ⟨⟨_, rfl⟩, .inl ⟨pre, by
        have h1 := HP.out.1
        rw [belowFrom_end head.data.toList (nds l0) i (by rw [HL.out]; omega), List.append_nil] at h1
        exact h1, HJp.out⟩⟩
end Go.Proofs.Ytncokgdfkbgflaa
