/- nar.Pack: what it answers, and that the machine's call answers so. -/
/- HOMES: nar_May -/
import Derived.Test.YtncokgdfkbgflaaPx9
import Derived.Lib.UnsafeStr
import Derived.Test.YtncokgdfkbgflaaG9
namespace Go.Proofs.Ytncokgdfkbgflaa
set_option linter.unusedVariables false
set_option linter.unusedSimpArgs false
open Go.RowKit Go.Proofs.YtncokgdfkbgflaaW.PrintWords Go.Proofs.YtncokgdfkbgflaaW.PrintMore P

set_option maxHeartbeats 2000000 in
set_option maxRecDepth 100000 in
theorem pkString_calls (B g : Nat) (xs : List UInt8) (lv : Value) (w : World) (h : PkAt B g xs lv w) (h0 : xs ≠ []) :
    Calls Try.prog 40 #[.pointer (some ⟨g, 0, none⟩)] w fun e w' => e = .returned (.string (bs xs)) ∧ Below B w w' := by
  obtain ⟨hB, p, v, hp, hbk, hown⟩ := h
  have hl0 : xs.length ≠ 0 := by simpa using h0
  obtain ⟨q, cap, cur, rfl, hbg, hg, hnc, hcm, hcs, htake⟩ : ∃ q cap cur, v = .slice (some ⟨q, 0, none⟩) xs.length cap ∧ B ≤ q ∧ w.heap[q]? = some (.cells cur 5 (0, 0)) ∧ xs.length ≤ cap ∧ cap ≤ maxLen ∧ cur.size = cap * 1 ∧ cur.toList.take (xs.length * 1) = Lib.byteCells xs := by
    rcases hown.2 with ⟨_, hz⟩ | ⟨g, cap, cur, hv, r⟩
    · exact absurd hz hl0
    · exact ⟨g, cap, cur, hv, r⟩
  have c1 : w.drew.cell? ⟨g, 1, none⟩ = some (.slice (some ⟨q, 0, none⟩) xs.length cap) := by
    have : w.drew.heap[g]? = some (.cells #[p, .slice (some ⟨q, 0, none⟩) xs.length cap, lv] 66 (0, 0)) := hbk
    rw [blk_cell this]; rfl
  have hSD : (Builtin.unsafeSliceData_ #[22] 105 #[.slice (some ⟨q, 0, none⟩) xs.length cap]).run Try.prog w.drew = .ok (.pointer (some ⟨q, 0, none⟩)) w.drew :=
    Lib.run_unsafeSliceData_row _ _ _ _ _ _ (by omega)
  have hUS : (Builtin.unsafeString_ #[105, 3] 9 #[.pointer (some ⟨q, 0, none⟩), .int .i64 xs.length]).run Try.prog w.drew = .ok (.string (bs xs)) (w.drew.freeze ⟨q, 0, none⟩ xs.length) := by
    refine Lib.run_unsafeString_row w.drew 105 3 9 5 Try.underlying105 (by kernel_rfl) q cur.size (by have hg' : w.drew.heap[q]? = some (.cells cur 5 (0, 0)) := hg; simp [World.shape?, hg']) xs h0 (by omega) (by unfold maxLen at hcm; omega) ?_
    intro j x hx
    have := hown.cells (g := q) rfl j (.int .u8 x.toNat) (by simp [Lib.byteCells, hx])
    exact this
  have hmix : Try.prog.follows .mixedOrders = true := by kernel_rfl
  go_enter Try.func40, Try.ntmps40
  go_wp2
  go_region_o
  all_goals (go_wp2; go_ret; exact ⟨rfl, Lib.below_freeze (below_drew (Below.refl B w)) (p := ⟨q, 0, none⟩) hbg _⟩)

open Classical in
/-- What nar.May answers, with as many rounds as it needs. -/
noncomputable def mayC (l : List S37) : Option Bool := if h : ∃ b k, nar_May.f k l = some b then some (Classical.choose h) else none
theorem mayC_get {l : List S37} {b : Bool} (h : mayC l = some b) : ∃ k, nar_May.f k l = some b := by
  unfold mayC at h
  split at h
  · rename_i hx
    have h1 := Classical.choose_spec hx
    cases h
    exact h1
  · cases h
theorem mayC_of {l : List S37} {k : Nat} {b : Bool} (h : nar_May.f k l = some b) : mayC l = some b := by
  have hx : ∃ b k, nar_May.f k l = some b := ⟨b, k, h⟩
  obtain ⟨c, hc⟩ : ∃ c, mayC l = some c := by unfold mayC; rw [dif_pos hx]; exact ⟨_, rfl⟩
  obtain ⟨k2, h2⟩ := mayC_get hc
  have a := leo_up (nar_May.mono l) h (k + k2) (by omega)
  have b' := leo_up (nar_May.mono l) h2 (k + k2) (by omega)
  rw [a] at b'
  cases b'
  exact hc

/-- There is room for the bytes of nodes. -/
def PackRoom (l : List S37) (M : Nat) : Prop :=
  0 < l.length ∧ (∀ f i nm, i < l.length → nm.length ≤ 1048576 → (entryB nm (packN f (nds l) i)).length ≤ M) ∧ (∀ x ∈ l, x.f0.size ≤ 1048576 ∧ x.f2.size ≤ 4611686018427387904) ∧ l.length ≤ 1000000 ∧ 100 + l.length * ((l.length + 1) * M) ≤ 70368744177664

open Classical in
noncomputable def nar_Pack.f (l : List S37) : Option (ByteArray × Int) :=
  (mayC l).bind fun b => if b = true then (if ∃ M, PackRoom l M then some (bs (strB wMark ++ packN l.length (nds l) 0), 0) else none) else some (⟨#[]⟩, 1)

set_option maxHeartbeats 4000000 in
set_option maxRecDepth 100000 in
theorem nar_Pack.calls (A0 : Option Addr) (c0 : Nat) (l0 : List S37) (r1 : ByteArray) (r2 : Int) (w : World) (hr0 : Kd.C k37 w A0 l0.length l0) (hc0 : l0.length ≤ c0) (h : nar_Pack.f l0 = some (r1, r2)) :
    Calls Try.prog 13 #[.slice A0 l0.length c0] w fun e w' => e = .returned (.tuple #[.string r1, .int .i64 r2]) ∧ Below w.heap.size w w' := by
  unfold nar_Pack.f at h
  cases hm : mayC l0 with
  | none => rw [hm] at h; simp at h
  | some b =>
    rw [hm] at h
    obtain ⟨k, hk⟩ := mayC_get hm
    have hmay := nar_May.calls k A0 c0 l0 b w hr0 hc0 hk
    cases b with
    | false =>
      simp only [Option.bind_some, Bool.false_eq_true, if_false, Option.some.injEq, Prod.mk.injEq] at h
      obtain ⟨rfl, rfl⟩ := h
      have HMAY := Aside0.mk hmay
      clear hmay hr0 hk hm
      go_enter Try.func13, Try.ntmps13
      go_wp2_with (go_at_call 14; refine HMAY.out.mono ?_)
      rintro e w1 ⟨rfl, hb⟩
      have HB := Aside0.mk hb
      clear hb
      go_wp2
      go_ret2
      exact ⟨rfl, HB.out⟩
    | true =>
      simp only [Option.bind_some, if_true] at h
      split at h
      · rename_i hroom
        simp only [Option.some.injEq, Prod.mk.injEq] at h
        obtain ⟨rfl, rfl⟩ := h
        obtain ⟨M, hpos, hM, hsz, hN, hR⟩ := hroom
        have HMAY := Aside0.mk hmay
        have HC := Aside0.mk hr0
        have HM := Aside0.mk hM
        have HS := Aside0.mk hsz
        have HR := Aside0.mk hR
        have hu66 := Try.underlying66
        clear hmay hr0 hk hm hM hsz hR
        go_enter Try.func13, Try.ntmps13
        go_wp2_with (go_at_call 14; refine HMAY.out.mono ?_)
        rintro e w1 ⟨rfl, hb⟩
        have HB := Aside0.mk hb
        clear hb
        have hP1 : PkAt w1.heap.size w1.heap.size [] (.slice A0 l0.length c0) ((w1.alloc (.cells #[.pointer none, .slice none 0 0, .slice A0 l0.length c0] 66)).alloc (.cells #[.string ⟨#[110, 105, 120, 45, 97, 114, 99, 104, 105, 118, 101, 45, 49]⟩] 9)) :=
          PkAt.alloc ⟨Nat.le_refl _, .pointer none, .slice none 0 0, .inl rfl, blk_new _ _, World.ownsRow_nil _ _ 5 1⟩ _
        have hb1 : Below w1.heap.size w1 ((w1.alloc (.cells #[.pointer none, .slice none 0 0, .slice A0 l0.length c0] 66)).alloc (.cells #[.string ⟨#[110, 105, 120, 45, 97, 114, 99, 104, 105, 118, 101, 45, 49]⟩] 9)) := below_alloc (below_alloc (Below.refl _ _) _) _
        have hv := blk_new (w1.alloc (.cells #[.pointer none, .slice none 0 0, .slice A0 l0.length c0] 66)) (.cells #[.string ⟨#[110, 105, 120, 45, 97, 114, 99, 104, 105, 118, 101, 45, 49]⟩] 9)
        rw [World.size_alloc] at hv
        have hput := put_calls w1.heap.size w1.heap.size [] (.slice A0 l0.length c0) (w1.heap.size + 1) [bs wMark] _ hP1 hb1.size hv (by decide) (by decide) (by decide)
        have HPUT := Aside0.mk hput
        have HB1 := Aside0.mk hb1
        clear hput hv hP1 hb1
        go_wp2_with (go_at_call 38; refine HPUT.out.mono ?_)
        rintro e w2 ⟨rfl, hp2, hs2⟩
        have hb2 : Below w1.heap.size w1 w2 := HB1.out.trans hs2.1
        have hnode := node_calls w1.heap.size w1.heap.size M A0 c0 l0 HM.out HS.out hN l0.length 0 _ w2 hpos (by omega) hp2 (fun W' h => Kd.C_below (Kd.C_below HC.out HB.out) (hb2.trans h)) hb2.size (by
          have h1 := HR.out
          have h2 : ([] ++ strsB (strsOf [bs wMark])).length ≤ 100 := by decide
          omega)
        have HNODE := Aside0.mk hnode
        have HB2 := Aside0.mk hb2
        clear hnode hp2 hs2 hb2
        go_wp2_with (go_at_call 39; refine HNODE.out.mono ?_)
        rintro e w3 ⟨rfl, hp3, hs3⟩
        have hstr := pkString_calls w1.heap.size w1.heap.size _ _ w3 hp3 (by
          intro h
          have h1 := congrArg List.length h
          simp only [List.length_append, List.length_nil] at h1
          have h2 : (strsB (strsOf [bs wMark])).length = 24 := by decide
          omega)
        have HSTR := Aside0.mk hstr
        have HB3 := Aside0.mk (HB2.out.trans hs3.1)
        clear hstr hp3 hs3
        go_wp2_with (go_at_call 40; refine HSTR.out.mono ?_)
        rintro e w4 ⟨rfl, hb4⟩
        have HB4 := Aside0.mk (HB3.out.trans hb4)
        clear hb4
        go_wp2
        go_ret2
        refine ⟨?_, below_then HB.out HB.out.size HB4.out⟩
        have h1 : strB wMark = strsB (strsOf [bs wMark]) := by decide
        rw [h1]
        rfl
      · cases h
end Go.Proofs.Ytncokgdfkbgflaa
