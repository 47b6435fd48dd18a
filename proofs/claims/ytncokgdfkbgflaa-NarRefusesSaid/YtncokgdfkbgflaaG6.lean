/- What a packer's put does. -/
import Derived.Test.YtncokgdfkbgflaaG5
import Derived.Deep.RegionWith
namespace Go.Proofs.Ytncokgdfkbgflaa
open Go.RowKit Go.Proofs.YtncokgdfkbgflaaW.PrintWords Go.Proofs.YtncokgdfkbgflaaW.PrintMore P

theorem PkAt.below {B g : Nat} {bs : List UInt8} {lv : Value} {w w' : World} (h : PkAt B g bs lv w) (hb : Below w.heap.size w w') : PkAt B g bs lv w' := h.step none (grown_of_below hb none) (fun _ e => by cases e)
theorem PkStep.below {B g : Nat} {a w w' : World} (h : PkStep B g a w) (hB : B ≤ w.heap.size) (hb : Below w.heap.size w w') : PkStep B g a w' :=
  ⟨below_then h.1 hB hb, fun k o hk hg ho => by
    have h1 := h.2 k o hk hg ho
    exact (hb.block k (blk_lt h1)).trans h1⟩
theorem PkStep.size {B g : Nat} {a w : World} (h : PkStep B g a w) : a.heap.size ≤ w.heap.size := h.1.size
theorem PkStep.blk {B g b : Nat} {a w : World} {cs : Array Value} {t : TypeId} (h : PkStep B g a w) (hb : a.heap[b]? = some (.cells cs t (0, 0))) (hne : b ≠ g) (ht : t ≠ 5) : w.heap[b]? = some (.cells cs t (0, 0)) :=
  h.2 b _ hb (by simpa using hne) (fun c fz e => by injection e with _ e2 _; exact ht e2)
theorem PkStep.obj {B g b : Nat} {a w : World} {o : Obj} (h : PkStep B g a w) (hb : a.heap[b]? = some o) (hne : b ≠ g) (ho : o.isCells = false) : w.heap[b]? = some o :=
  h.2 b _ hb (by simpa using hne) (fun c fz e => by subst e; simp [Obj.isCells] at ho)

def strsOf (ss : List ByteArray) : List (List UInt8) := ss.map fun s => s.data.toList

theorem strsOf_append (a b : List ByteArray) : strsOf (a ++ b) = strsOf a ++ strsOf b := by simp only [strsOf, List.map_append]
theorem strs_next (ss : List ByteArray) (k : Nat) (h : k < ss.length) : strsB (strsOf (ss.take (k + 1))) = strsB (strsOf (ss.take k)) ++ strB ss[k].data.toList := by
  rw [List.take_succ_eq_append_getElem h, strsOf_append, strsB_append]
  simp only [strsOf, List.map_cons, List.map_nil, strsB, List.append_nil]
theorem strs_split (ss : List ByteArray) (k : Nat) : strsB (strsOf ss) = strsB (strsOf (ss.take k)) ++ strsB (strsOf (ss.drop k)) := by
  rw [← strsB_append, ← strsOf_append, List.take_append_drop]

set_option maxHeartbeats 4000000 in
set_option maxRecDepth 100000 in
theorem put_calls (B g : Nat) (xs : List UInt8) (lv : Value) (b : Nat) (ss : List ByteArray) (w : World) (h : PkAt B g xs lv w) (hB : B ≤ w.heap.size)
    (hb : w.heap[b]? = some (.cells (ss.map Value.string).toArray 9 (0, 0))) (hl : xs.length + (strsB (strsOf ss)).length ≤ 70368744177664) (hs : ∀ s ∈ ss, s.size ≤ 4611686018427387904) (hn : ss.length ≤ 100) :
    Calls Try.prog 38 #[.pointer (some ⟨g, 0, none⟩), .slice (some ⟨b, 0, none⟩) ss.length ss.length] w fun e w' => e = .returned (.tuple #[]) ∧ PkAt B g (xs ++ strsB (strsOf ss)) lv w' ∧ PkStep B g w w' := by
  have hbg : b ≠ g := by
    obtain ⟨_, p, v, _, hg, _⟩ := h
    exact blk_ne hb hg (by decide)
  have H0 := Aside0.mk h
  have HB := Aside0.mk hB
  have Hb := Aside0.mk hb
  have HL := Aside0.mk hl
  have HS := Aside0.mk hs
  clear h hB hb hl hs
  go_enter Try.func38, Try.ntmps38
  go_wp2
  go_loopw [8] (fun v8 wr => ∃ k : Nat, k ≤ ss.length ∧ v8 = .int .i64 k ∧ Aside0 (PkAt B g (xs ++ strsB (strsOf (ss.take k))) lv wr) ∧ Aside0 (PkStep B g w wr)) (fun v8 _ => ss.length - (intOf v8).toNat)
  case atStart => exact ⟨0, by omega, rfl, ⟨by simpa [strsOf, strsB] using H0.out⟩, ⟨PkStep.refl _ _ _⟩⟩
  case round =>
    obtain ⟨k, hk, rfl, HP, HT⟩ := hrel
    by_cases hlt : k < ss.length
    · have hd : decide ((k : Int) < (ss.length : Int)) = true := decide_eq_true (by omega)
      obtain ⟨s, hsk⟩ : ∃ s, s = ss[k] := ⟨_, rfl⟩
      have hcell : wr.cell? ⟨b, k, none⟩ = some (.string s) := by
        rw [blk_cell (HT.out.blk Hb.out hbg (by decide))]
        simp [List.getElem?_eq_getElem hlt, hsk]
      have HSK := Aside0.mk hsk
      clear hsk
      have hss : s.size ≤ 4611686018427387904 := HS.out s (by rw [HSK.out]; exact List.getElem_mem hlt)
      have hroom : (xs ++ strsB (strsOf (ss.take k))).length + (bs (strB s.data.toList)).size ≤ 140737488355328 := by
        have h1 := HL.out
        have h2 := strs_split ss (k + 1)
        rw [strs_next ss k hlt, ← HSK.out] at h2
        rw [h2] at h1
        simp only [List.length_append] at h1 ⊢
        rw [bs_size]; omega
      have hnext : xs ++ strsB (strsOf (ss.take k)) ++ (bs (strB s.data.toList)).data.toList = xs ++ strsB (strsOf (ss.take (k + 1))) := by
        rw [bs_toList, strs_next ss k hlt, ← HSK.out, List.append_assoc]
      have HN := Aside0.mk hnext
      clear hnext
      go_wp2
      go_region_with (first
        | (go_at_call 18; refine (nar_Str.calls 9 s (bs (strB s.data.toList)) _ (str_any 0 s hss)).mono ?_; rintro e w1 ⟨rfl, hb1⟩; have HP1 := Aside0.mk (HP.out.drew.below hb1); have HT1 := Aside0.mk (HT.out.drew.below (Nat.le_trans HB.out HT.out.size) hb1); clear hb1)
        | (go_at_call 62; refine (pkWrite_calls B g (xs ++ strsB (strsOf (ss.take k))) lv (bs (strB s.data.toList)) _ HP1.out hroom (Nat.le_trans HB.out HT1.out.size)).mono ?_; rintro e w2 ⟨rfl, hp2, ht2⟩; have HP2 := Aside0.mk hp2; have HT2 := Aside0.mk (HT1.out.trans ht2); clear hp2 ht2))
      all_goals go_wp2
      all_goals go_roundw
      case rel => exact ⟨k + 1, by omega, by go_num, ⟨by rw [← HN.out]; exact HP2.out⟩, ⟨HT2.out⟩⟩
      case measure => simp [intOf]; omega
    · have hd : decide ((k : Int) < (ss.length : Int)) = false := decide_eq_false (by omega)
      go_wp2
      go_end0
      obtain rfl : k = ss.length := by omega
      exact ⟨rfl, by simpa using HP.out, HT.out⟩
end Go.Proofs.Ytncokgdfkbgflaa
