/- What a packer's node does. -/
import Derived.RangeFuncFrom
import Derived.Test.YtncokgdfkbgflaaG8
namespace Go.Proofs.Ytncokgdfkbgflaa
set_option linter.unusedVariables false
set_option linter.unusedSimpArgs false
open Go.RowKit Go.Shelf Go.Proofs.YtncokgdfkbgflaaW.PrintWords Go.Proofs.YtncokgdfkbgflaaW.PrintMore P
attribute [local go_sem] Oper.semAt_some

/-- The state in a packer's node: the packer, its own two variables. -/
structure NodeSt (B g : Nat) (lv : Value) (b2 b4 : Nat) (x : S37) (W0 : World) (xs : List UInt8) (W : World) : Prop where
  pk : PkAt B g xs lv W
  st : PkStep B g W0 W
  v2 : W.heap[b2]? = some (.cells #[.pointer (some ⟨g, 0, none⟩)] 61 (0, 0))
  v4 : W.heap[b4]? = some (.cells #[.string x.f0, .int .i64 x.f1, .string x.f2] 37 (0, 0))

theorem NodeSt.ne {B g : Nat} {lv : Value} {b2 b4 : Nat} {x : S37} {W0 : World} {xs : List UInt8} {W : World} (h : NodeSt B g lv b2 b4 x W0 xs W) : b2 ≠ g ∧ b4 ≠ g := by
  obtain ⟨_, p, v, _, hg, _⟩ := h.pk
  exact ⟨blk_ne h.v2 hg (by decide), blk_ne h.v4 hg (by decide)⟩
theorem NodeSt.put {B g : Nat} {lv : Value} {b2 b4 : Nat} {x : S37} {W0 : World} {xs ys : List UInt8} {W W' : World} (h : NodeSt B g lv b2 b4 x W0 xs W) (hp : PkAt B g ys lv W') (hs : PkStep B g W W') : NodeSt B g lv b2 b4 x W0 ys W' :=
  ⟨hp, h.st.trans hs, hs.blk h.v2 h.ne.1 (by decide), hs.blk h.v4 h.ne.2 (by decide)⟩
theorem NodeSt.below {B g : Nat} {lv : Value} {b2 b4 : Nat} {x : S37} {W0 : World} {xs : List UInt8} {W W' : World} (h : NodeSt B g lv b2 b4 x W0 xs W) (hB : B ≤ W.heap.size) (hb : Below W.heap.size W W') : NodeSt B g lv b2 b4 x W0 xs W' :=
  ⟨h.pk.below hb, h.st.below hB hb, blk_below h.v2 hb, blk_below h.v4 hb⟩
theorem NodeSt.c2 {B g : Nat} {lv : Value} {b2 b4 : Nat} {x : S37} {W0 : World} {xs : List UInt8} {W : World} (h : NodeSt B g lv b2 b4 x W0 xs W) : W.cell? ⟨b2, 0, none⟩ = some (.pointer (some ⟨g, 0, none⟩)) := by rw [blk_cell h.v2]; rfl
theorem NodeSt.c40 {B g : Nat} {lv : Value} {b2 b4 : Nat} {x : S37} {W0 : World} {xs : List UInt8} {W : World} (h : NodeSt B g lv b2 b4 x W0 xs W) : W.cell? ⟨b4, 1, none⟩ = some (.int .i64 x.f1) := by rw [blk_cell h.v4]; rfl
theorem NodeSt.c41 {B g : Nat} {lv : Value} {b2 b4 : Nat} {x : S37} {W0 : World} {xs : List UInt8} {W : World} (h : NodeSt B g lv b2 b4 x W0 xs W) : W.cell? ⟨b4, 2, none⟩ = some (.string x.f2) := by rw [blk_cell h.v4]; rfl

/-- put, of texts that were just laid. -/
theorem put_st {B g : Nat} {lv : Value} {b2 b4 : Nat} {x : S37} {W0 : World} {xs : List UInt8} {W V : World} (ss : List ByteArray) (k b : Nat) (hk : k = ss.length) (hbs : b = W.heap.size) (cs : Array Value) (hcs : cs = (ss.map Value.string).toArray) (h : NodeSt B g lv b2 b4 x W0 xs W) (hB : B ≤ W.heap.size)
    (hV : V = W.alloc (.cells cs 9)) (hl : xs.length + (strsB (strsOf ss)).length ≤ 70368744177664) (hs : ∀ s ∈ ss, s.size ≤ 4611686018427387904) (hn : ss.length ≤ 100) :
    Calls Try.prog 38 #[.pointer (some ⟨g, 0, none⟩), .slice (some ⟨b, 0, none⟩) k k] V fun e w' => e = .returned (.tuple #[]) ∧ Aside0 (NodeSt B g lv b2 b4 x W0 (xs ++ strsB (strsOf ss)) w' ∧ PkStep B g W w' ∧ B ≤ w'.heap.size) := by
  subst hV hk hcs hbs
  have hb : Below W.heap.size W (W.alloc (.cells (ss.map Value.string).toArray 9)) := below_alloc (Below.refl _ _) _
  have h1 := h.below hB hb
  refine (put_calls B g xs lv W.heap.size ss _ h1.pk (Nat.le_trans hB hb.size) (blk_new W _) hl hs hn).mono ?_
  rintro e w' ⟨rfl, hp, hs⟩
  have h2 : PkStep B g W w' := ((PkStep.refl B g W).below hB hb).trans hs
  exact ⟨rfl, ⟨h1.put hp hs, h2, Nat.le_trans hB h2.size⟩⟩

theorem packN_at (f : Nat) (l0 : List S37) (i : Nat) (h : i < l0.length) : packN (f + 1) (nds l0) i = strsB [wOpen, wType] ++ (if (nd l0[i]).kind = 1 ∨ (nd l0[i]).kind = 2 ∨ (nd l0[i]).kind = 3 then leafB (nd l0[i])
        else strsB [wDir] ++ (belowFrom (headOf (nd l0[i]).path) (i + 1) ((nds l0).drop (i + 1))).flatMap (fun x => entryB x.2 (packN f (nds l0) x.1))) ++ strsB [wShut] := by
  have h1 : (nds l0)[i]? = some (nd l0[i]) := by simp [nds, h]
  rw [packN, h1]
theorem packN_leaf (f : Nat) (l0 : List S37) (i : Nat) (h : i < l0.length) (x : S37) (hx : x = l0[i]) (hk : x.f1 = 1 ∨ x.f1 = 2 ∨ x.f1 = 3) : packN (f + 1) (nds l0) i = strsB [wOpen, wType] ++ leafB (nd x) ++ strsB [wShut] := by
  rw [packN_at f l0 i h, ← hx, if_pos (show (nd x).kind = 1 ∨ (nd x).kind = 2 ∨ (nd x).kind = 3 from hk)]

theorem NodeSt.own {β : Type} {B g : Nat} {lv : Value} {b2 b4 : Nat} {x : S37} {W0 : World} (bytes : β → List UInt8) {D : Nat} (h0 : W0.heap.size ≤ D) (hD : B ≤ D) (hB0 : B ≤ W0.heap.size) : OwnFrom D (fun s W => NodeSt B g lv b2 b4 x W0 (bytes s) W) := by
  intro s W W' row h hg hr
  have hn : ∀ k cs e fz, W.heap[k]? = some (.cells cs e fz) → some k ≠ row := by
    intro k cs e fz hk he
    obtain ⟨_, o, ho, hc⟩ := hr k he.symm
    rw [hk] at ho; cases ho; simp [Obj.isCells] at hc
  refine ⟨h.pk.step row hg (fun r e => (hr r e).2), ⟨h.st.1.grown hg (Nat.le_trans hB0 h.st.size) (fun k e => Nat.le_trans hD (hr k e).1), fun k o hk hne ho => ?_⟩, blk_grown h.v2 hg (hn _ _ _ _ h.v2), blk_grown h.v4 hg (hn _ _ _ _ h.v4)⟩
  have h1 := h.st.2 k o hk hne ho
  have h2 := blk_lt hk
  exact (hg.block k (blk_lt h1) (fun e => by have := (hr k e.symm).1; omega)).trans h1
theorem PkStep.keepsOthers {B g : Nat} {lv : Value} {xs : List UInt8} {V V' : World} (h : PkStep B g V V') (hp : PkAt B g xs lv V) : KeepsOthers V V' := by
  obtain ⟨_, p, v, _, hg, _⟩ := hp
  exact ⟨h.size, fun k o hk ho => h.obj hk (fun e => by subst e; rw [hg] at hk; cases hk; simp [Obj.isCells] at ho) ho⟩
theorem PkStep.keep {B g : Nat} {lv : Value} {ys : List UInt8} {V V' : World} (h : PkStep B g V V') (hp : PkAt B g ys lv V') : PkKeep B g lv V V' :=
  ⟨h.1, fun k c e fz hk hne ht => h.2 k _ hk (by simpa using hne) (fun c fz e => by injection e with _ e2 _; exact ht e2), fun _ _ => ⟨ys, hp⟩⟩

theorem below_stops (m : Nat) (hm : 1 ≤ m) (B g b2 b3 b5 at_ : Nat) (head : ByteArray) (A0 : Option Addr) (c0 : Nat) (l0 : List S37) (w : World)
    (hR : ∀ W', Below B w W' → Kd.C k37 W' A0 l0.length l0) (hA : BelowAt B g b2 b3 b5 at_ head (.slice A0 l0.length c0) w) (hB : B ≤ w.heap.size)
    (hsz : ∀ x ∈ l0, x.f0.size ≤ 1048576) (hat : at_ < l0.length) (hN : l0.length ≤ 1000000) :
    SeqStopsK Fence.wide m Try.prog 82 #[.pointer (some ⟨b3, 0, none⟩), .pointer (some ⟨b2, 0, none⟩), .pointer (some ⟨b5, 0, none⟩)] (elEnc (at_ := at_) (L := l0.length)) (PkKeep B g (.slice A0 l0.length c0))
      (fun ys => ys.map (·.1) = belowFrom head.data.toList (at_ + 1) ((nds l0).drop (at_ + 1))) (fun _ => True) l0.length w := by
  intro l J Jx V hV hJ hJx hY h0
  refine (below1_in m hm l B g b2 b3 b5 at_ head A0 c0 l0 J Jx V (fun W' h => hR W' ((below_then (Below.refl B w) hB hV).trans h)) (hA.below hV) (Nat.le_trans hB hV.size) ?_ hsz hat hN hY h0).mono ?_
  · intro s a b hs ha hb
    subst hb
    exact hJ s a _ none hs (grown_of_below (below_drew (Below.refl _ a)) none) (fun r e => by cases e)
  · rintro e W' ⟨hv, ⟨ys, h1, h2⟩ | ⟨pre, h⟩⟩
    · exact ⟨hv, .inl ⟨ys, h1, h2⟩⟩
    · exact ⟨hv, .inr ⟨pre, trivial, h⟩⟩

theorem flat_len (M : Nat) (F : Nat × List UInt8 → List UInt8) : ∀ (ys : List (Nat × List UInt8)), (∀ y ∈ ys, (F y).length ≤ M) → (ys.flatMap F).length ≤ ys.length * M
  | [], _ => by simp
  | y :: ys, h => by
    have h1 := h y List.mem_cons_self
    have h2 := flat_len M F ys (fun z hz => h z (List.mem_cons_of_mem _ hz))
    rw [List.flatMap_cons, List.length_append, List.length_cons, Nat.succ_mul]
    omega

set_option maxRecDepth 100000 in
set_option maxHeartbeats 8000000 in
theorem node_calls (B g M : Nat) (A0 : Option Addr) (c0 : Nat) (l0 : List S37)
    (hM : ∀ f i nm, i < l0.length → nm.length ≤ 1048576 → (entryB nm (packN f (nds l0) i)).length ≤ M)
    (hsz : ∀ x ∈ l0, x.f0.size ≤ 1048576 ∧ x.f2.size ≤ 4611686018427387904) (hN : l0.length ≤ 1000000) :
    ∀ (f at_ : Nat) (xs : List UInt8) (W : World), at_ < l0.length → l0.length - at_ ≤ f → PkAt B g xs (.slice A0 l0.length c0) W → (∀ W', Below B W W' → Kd.C k37 W' A0 l0.length l0) → B ≤ W.heap.size →
      xs.length + f * ((l0.length + 1) * M) ≤ 70368744177664 →
      Calls Try.prog 39 #[.pointer (some ⟨g, 0, none⟩), .int .i64 (at_ : Int)] W fun e W' => e = .returned (.tuple #[]) ∧ PkAt B g (xs ++ packN f (nds l0) at_) (.slice A0 l0.length c0) W' ∧ PkStep B g W W' := by
  intro f
  induction f with
  | zero => intro at_ xs W h1 h2; omega
  | succ f ih =>
    intro at_ xs W hat hf hP hC hB hroom
    have hm := Kd.C_max (hC W (Below.refl _ _))
    obtain ⟨ad, ea, hx0, hx1, hx2⟩ := at_T37 (hC W (Below.refl _ _)) (at_ : Int) (by omega) (by omega)
    rw [Int.toNat_natCast] at hx0 hx1 hx2
    rw [rd37_at l0 at_ hat] at hx0 hx1 hx2
    obtain ⟨x, hx⟩ : ∃ x, x = l0[at_] := ⟨_, rfl⟩
    rw [← hx] at hx0 hx1 hx2
    cases ea
    have eg : W.cell? ⟨g, 2, none⟩ = some (.slice (some ad) l0.length c0) := hP.cell2
    have hgl := hP.lt
    have hal : (ad.add (at_ * 3)).block < W.heap.size := World.block_lt_of_cell? W _ hx0
    have hd : decide ((at_ : Int) < (l0.length : Int)) = true := decide_eq_true (by omega)
    have hbb : Below W.heap.size W ((W.alloc (.cells #[.pointer (some ⟨g, 0, none⟩)] 61)).alloc (.cells #[.string x.f0, .int .i64 x.f1, .string x.f2] 37)) := below_alloc (below_alloc (Below.refl _ _) _) _
    have hv4 := blk_new (W.alloc (.cells #[.pointer (some ⟨g, 0, none⟩)] 61)) (.cells #[.string x.f0, .int .i64 x.f1, .string x.f2] 37)
    rw [World.size_alloc] at hv4
    have ST0 : Aside0 (NodeSt B g (.slice (some ad) l0.length c0) W.heap.size (W.heap.size + 1) x W xs ((W.alloc (.cells #[.pointer (some ⟨g, 0, none⟩)] 61)).alloc (.cells #[.string x.f0, .int .i64 x.f1, .string x.f2] 37))) :=
      ⟨hP.below hbb, (PkStep.refl B g W).below hB hbb, blk_alloc (blk_new W _) _, hv4⟩
    have HB0 : Aside0 (B ≤ ((W.alloc (.cells #[.pointer (some ⟨g, 0, none⟩)] 61)).alloc (.cells #[.string x.f0, .int .i64 x.f1, .string x.f2] 37)).heap.size) := ⟨Nat.le_trans hB hbb.size⟩
    have hsx := hsz x (by rw [hx]; exact List.getElem_mem hat)
    have hMx : (packN (f + 1) (nds l0) at_).length ≤ M := by
      have h1 := hM (f + 1) at_ [] hat (by simp)
      simp only [entryB, List.length_append] at h1
      omega
    have hroom1 : xs.length + (packN (f + 1) (nds l0) at_).length ≤ 70368744177664 := by
      have h1 : 1 * (1 * M) ≤ (f + 1) * ((l0.length + 1) * M) := Nat.mul_le_mul (by omega) (Nat.mul_le_mul (by omega) (Nat.le_refl M))
      omega
    have HX := Aside0.mk hx
    have HP := Aside0.mk hP
    have HC := Aside0.mk hC
    have HM := Aside0.mk hM
    have HS := Aside0.mk hsz
    have HR := Aside0.mk hroom
    have HR1 := Aside0.mk hroom1
    have HSX := Aside0.mk hsx
    have IH := Aside0.mk ih
    have hu37 := Try.underlying37
    clear hx hP hC hM hsz hroom ih hroom1 hbb hv4 hsx
    refine (callsIn_wide (n := 3)).1 ?_
    by_cases hk1 : x.f1 = 1
    · have hpk := packN_leaf f l0 at_ hat x HX.out (.inl hk1)
      have hpl : leafB (nd x) = strsB (strsOf [bs wRegular, bs wContents, x.f2]) := by
        rw [leafB, if_pos (show (nd x).kind = 1 from hk1)]; rfl
      rw [hpl] at hpk
      have hq := HR1.out
      rw [hpk] at hq
      simp only [List.length_append] at hq
      have HPK := Aside0.mk hpk
      have HQ := Aside0.mk hq
      have t1 : decide (x.f1 = 1) = true := decide_eq_true hk1
      have u1 : (x.f1 == 1) = true := beq_iff_eq.2 hk1
      have K1 := Aside0.mk hk1
      clear hk1
      clear hpk hpl hq
      refine callsIn_of_wp_marks Try.func39 rfl trivial ?_ rfl
      simp only [Try.ntmps39, List.size_toArray, List.length_cons, List.length_nil, Nat.reduceAdd, Nat.reduceSub, Array.replicate_succ, Array.replicate_zero, List.push_toArray, List.append_toArray, List.nil_append, List.cons_append]
      gi_wp2_with (refine ⟨trivial, ?_⟩; gi_at_call 38; refine (callsIn_wide.2 (put_st [bs wOpen, bs wType] 2 _ rfl (by simp) _ rfl ST0.out HB0.out rfl (by have := HQ.out; show xs.length + (strsB [wOpen, wType]).length ≤ _; omega) (by decide) (by decide))).mono ?_)
      rintro e w1 ⟨rfl, ST1⟩
      have c2 := ST1.out.1.c2
      have c40 := ST1.out.1.c40
      have c41 := ST1.out.1.c41
      gi_wp2_with (refine ⟨trivial, ?_⟩; gi_at_call 38; refine (callsIn_wide.2 (put_st [bs wRegular, bs wContents, x.f2] 3 _ rfl rfl _ rfl ST1.out.1 ST1.out.2.2 rfl (by have := HQ.out; rw [List.length_append]; show xs.length + (strsB [wOpen, wType]).length + _ ≤ _; omega) (by intro s hs; simp only [List.mem_cons, List.not_mem_nil, or_false] at hs; rcases hs with rfl | rfl | rfl; all_goals first | exact HSX.out.2 | decide) (by simp))).mono ?_)
      rintro e w2 ⟨rfl, ST2⟩
      have d2 := ST2.out.1.c2
      gi_wp2_with (refine ⟨trivial, ?_⟩; gi_at_call 38; refine (callsIn_wide.2 (put_st [bs wShut] 1 _ rfl rfl _ rfl ST2.out.1 ST2.out.2.2 rfl (by have := HQ.out; rw [List.length_append, List.length_append]; show xs.length + (strsB [wOpen, wType]).length + _ + (strsB [wShut]).length ≤ _; omega) (by decide) (by decide))).mono ?_)
      rintro e w3 ⟨rfl, ST3⟩
      gi_wp2
      exact ⟨_, results_none rfl _ _ _, rfl, by
        rw [HPK.out]
        have h := ST3.out.1.pk
        simp only [List.append_assoc] at h ⊢
        exact h, ST3.out.1.st⟩
    by_cases hk2 : x.f1 = 2
    · have hpk := packN_leaf f l0 at_ hat x HX.out (.inr (.inl hk2))
      have hpl : leafB (nd x) = strsB (strsOf [bs wRegular, bs wExec, bs [], bs wContents, x.f2]) := by
        rw [leafB, if_neg (show ¬ (nd x).kind = 1 from hk1), if_pos (show (nd x).kind = 2 from hk2)]; rfl
      rw [hpl] at hpk
      have hq := HR1.out
      rw [hpk] at hq
      simp only [List.length_append] at hq
      have HPK := Aside0.mk hpk
      have HQ := Aside0.mk hq
      have t1 : decide (x.f1 = 1) = false := decide_eq_false hk1
      have u1 : (x.f1 == 1) = false := beq_eq_false_iff_ne.2 hk1
      have K1 := Aside0.mk hk1
      clear hk1
      have t2 : decide (x.f1 = 2) = true := decide_eq_true hk2
      have u2 : (x.f1 == 2) = true := beq_iff_eq.2 hk2
      have K2 := Aside0.mk hk2
      clear hk2
      clear hpk hpl hq
      refine callsIn_of_wp_marks Try.func39 rfl trivial ?_ rfl
      simp only [Try.ntmps39, List.size_toArray, List.length_cons, List.length_nil, Nat.reduceAdd, Nat.reduceSub, Array.replicate_succ, Array.replicate_zero, List.push_toArray, List.append_toArray, List.nil_append, List.cons_append]
      gi_wp2_with (refine ⟨trivial, ?_⟩; gi_at_call 38; refine (callsIn_wide.2 (put_st [bs wOpen, bs wType] 2 _ rfl (by simp) _ rfl ST0.out HB0.out rfl (by have := HQ.out; show xs.length + (strsB [wOpen, wType]).length ≤ _; omega) (by decide) (by decide))).mono ?_)
      rintro e w1 ⟨rfl, ST1⟩
      have c2 := ST1.out.1.c2
      have c40 := ST1.out.1.c40
      have c41 := ST1.out.1.c41
      gi_wp2_with (refine ⟨trivial, ?_⟩; gi_at_call 38; refine (callsIn_wide.2 (put_st [bs wRegular, bs wExec, bs [], bs wContents, x.f2] 5 _ rfl rfl _ rfl ST1.out.1 ST1.out.2.2 rfl (by have := HQ.out; rw [List.length_append]; show xs.length + (strsB [wOpen, wType]).length + _ ≤ _; omega) (by intro s hs; simp only [List.mem_cons, List.not_mem_nil, or_false] at hs; rcases hs with rfl | rfl | rfl | rfl | rfl; all_goals first | exact HSX.out.2 | decide) (by simp))).mono ?_)
      rintro e w2 ⟨rfl, ST2⟩
      have d2 := ST2.out.1.c2
      gi_wp2_with (refine ⟨trivial, ?_⟩; gi_at_call 38; refine (callsIn_wide.2 (put_st [bs wShut] 1 _ rfl rfl _ rfl ST2.out.1 ST2.out.2.2 rfl (by have := HQ.out; rw [List.length_append, List.length_append]; show xs.length + (strsB [wOpen, wType]).length + _ + (strsB [wShut]).length ≤ _; omega) (by decide) (by decide))).mono ?_)
      rintro e w3 ⟨rfl, ST3⟩
      gi_wp2
      exact ⟨_, results_none rfl _ _ _, rfl, by
        rw [HPK.out]
        have h := ST3.out.1.pk
        simp only [List.append_assoc] at h ⊢
        exact h, ST3.out.1.st⟩
    by_cases hk3 : x.f1 = 3
    · have hpk := packN_leaf f l0 at_ hat x HX.out (.inr (.inr hk3))
      have hpl : leafB (nd x) = strsB (strsOf [bs wSymlink, bs wTarget, x.f2]) := by
        rw [leafB, if_neg (show ¬ (nd x).kind = 1 from hk1), if_neg (show ¬ (nd x).kind = 2 from hk2)]; rfl
      rw [hpl] at hpk
      have hq := HR1.out
      rw [hpk] at hq
      simp only [List.length_append] at hq
      have HPK := Aside0.mk hpk
      have HQ := Aside0.mk hq
      have t1 : decide (x.f1 = 1) = false := decide_eq_false hk1
      have u1 : (x.f1 == 1) = false := beq_eq_false_iff_ne.2 hk1
      have K1 := Aside0.mk hk1
      clear hk1
      have t2 : decide (x.f1 = 2) = false := decide_eq_false hk2
      have u2 : (x.f1 == 2) = false := beq_eq_false_iff_ne.2 hk2
      have K2 := Aside0.mk hk2
      clear hk2
      have t3 : decide (x.f1 = 3) = true := decide_eq_true hk3
      have u3 : (x.f1 == 3) = true := beq_iff_eq.2 hk3
      have K3 := Aside0.mk hk3
      clear hk3
      clear hpk hpl hq
      refine callsIn_of_wp_marks Try.func39 rfl trivial ?_ rfl
      simp only [Try.ntmps39, List.size_toArray, List.length_cons, List.length_nil, Nat.reduceAdd, Nat.reduceSub, Array.replicate_succ, Array.replicate_zero, List.push_toArray, List.append_toArray, List.nil_append, List.cons_append]
      gi_wp2_with (refine ⟨trivial, ?_⟩; gi_at_call 38; refine (callsIn_wide.2 (put_st [bs wOpen, bs wType] 2 _ rfl (by simp) _ rfl ST0.out HB0.out rfl (by have := HQ.out; show xs.length + (strsB [wOpen, wType]).length ≤ _; omega) (by decide) (by decide))).mono ?_)
      rintro e w1 ⟨rfl, ST1⟩
      have c2 := ST1.out.1.c2
      have c40 := ST1.out.1.c40
      have c41 := ST1.out.1.c41
      gi_wp2_with (refine ⟨trivial, ?_⟩; gi_at_call 38; refine (callsIn_wide.2 (put_st [bs wSymlink, bs wTarget, x.f2] 3 _ rfl rfl _ rfl ST1.out.1 ST1.out.2.2 rfl (by have := HQ.out; rw [List.length_append]; show xs.length + (strsB [wOpen, wType]).length + _ ≤ _; omega) (by intro s hs; simp only [List.mem_cons, List.not_mem_nil, or_false] at hs; rcases hs with rfl | rfl | rfl; all_goals first | exact HSX.out.2 | decide) (by simp))).mono ?_)
      rintro e w2 ⟨rfl, ST2⟩
      have d2 := ST2.out.1.c2
      gi_wp2_with (refine ⟨trivial, ?_⟩; gi_at_call 38; refine (callsIn_wide.2 (put_st [bs wShut] 1 _ rfl rfl _ rfl ST2.out.1 ST2.out.2.2 rfl (by have := HQ.out; rw [List.length_append, List.length_append]; show xs.length + (strsB [wOpen, wType]).length + _ + (strsB [wShut]).length ≤ _; omega) (by decide) (by decide))).mono ?_)
      rintro e w3 ⟨rfl, ST3⟩
      gi_wp2
      exact ⟨_, results_none rfl _ _ _, rfl, by
        rw [HPK.out]
        have h := ST3.out.1.pk
        simp only [List.append_assoc] at h ⊢
        exact h, ST3.out.1.st⟩
    · have hpk := packN_at f l0 at_ hat
      rw [← HX.out, if_neg (show ¬ ((nd x).kind = 1 ∨ (nd x).kind = 2 ∨ (nd x).kind = 3) from by simp only [not_or]; exact ⟨hk1, hk2, hk3⟩)] at hpk
      have hq := HR1.out
      rw [hpk] at hq
      simp only [List.length_append] at hq
      have HPK := Aside0.mk hpk
      have HQ := Aside0.mk hq
      have t1 : decide (x.f1 = 1) = false := decide_eq_false hk1
      have u1 : (x.f1 == 1) = false := beq_eq_false_iff_ne.2 hk1
      have K1 := Aside0.mk hk1
      clear hk1
      have t2 : decide (x.f1 = 2) = false := decide_eq_false hk2
      have u2 : (x.f1 == 2) = false := beq_eq_false_iff_ne.2 hk2
      have K2 := Aside0.mk hk2
      clear hk2
      have t3 : decide (x.f1 = 3) = false := decide_eq_false hk3
      have u3 : (x.f1 == 3) = false := beq_eq_false_iff_ne.2 hk3
      have K3 := Aside0.mk hk3
      clear hk3
      clear hpk hq
      refine callsIn_of_wp_marks Try.func39 rfl trivial ?_ rfl
      simp only [Try.ntmps39, List.size_toArray, List.length_cons, List.length_nil, Nat.reduceAdd, Nat.reduceSub, Array.replicate_succ, Array.replicate_zero, List.push_toArray, List.append_toArray, List.nil_append, List.cons_append]
      gi_wp2_with (refine ⟨trivial, ?_⟩; gi_at_call 38; refine (callsIn_wide.2 (put_st [bs wOpen, bs wType] 2 _ rfl (by simp) _ rfl ST0.out HB0.out rfl (by have := HQ.out; show xs.length + (strsB [wOpen, wType]).length ≤ _; omega) (by decide) (by decide))).mono ?_)
      rintro e w1 ⟨rfl, ST1⟩
      have c2 := ST1.out.1.c2
      have c40 := ST1.out.1.c40
      have c41 := ST1.out.1.c41
      gi_wp2_with (refine ⟨trivial, ?_⟩; gi_at_call 38; refine (callsIn_wide.2 (put_st [bs wDir] 1 _ rfl rfl _ rfl ST1.out.1 ST1.out.2.2 rfl (by have := HQ.out; rw [List.length_append]; show xs.length + (strsB [wOpen, wType]).length + (strsB [wDir]).length ≤ _; omega) (by decide) (by decide))).mono ?_)
      rintro e w2 ⟨rfl, ST2⟩
      have d2 := ST2.out.1.c2
      have hbel := below_calls B g at_ _ (some ad) c0 l0 w2 ST2.out.1.pk (HC.out _ ST2.out.1.st.1) hat (by rw [← HX.out]; exact HSX.out.1)
      have HBEL := Aside0.mk hbel
      clear hbel
      gi_wp2_with (refine ⟨trivial, ?_⟩; gi_at_call 63; refine (callsIn_wide.2 HBEL.out).mono ?_)
      rintro e w3 ⟨b2, b3, b5, rfl, hba, hb3⟩
      have HBA := Aside0.mk hba
      have ST3 := Aside0.mk (ST2.out.1.below ST2.out.2.2 hb3)
      have HB3 := Aside0.mk (Nat.le_trans ST2.out.2.2 hb3.size)
      clear hba hb3
      gi_wp2
      have hot : (strsB [wOpen, wType]).length + (strsB [wDir]).length ≤ M := by
        have h1 := hMx
        rw [HPK.out] at h1
        simp only [List.length_append] at h1
        omega
      have hsz3 := ST3.out.st.size
      refine wpIn_rangeFunc_ownF (α := El at_ l0.length) rfl (by decide) (gf := 82) (lb := #[.pointer (some ⟨b3, 0, none⟩), .pointer (some ⟨b2, 0, none⟩), .pointer (some ⟨b5, 0, none⟩)]) rfl trivial (enters_of Try.func82 (by kernel_rfl) rfl)
        (below_stops 2 (by decide) B g b2 b3 b5 at_ _ (some ad) c0 l0 w3 (fun W' h => HC.out W' (ST3.out.st.1.trans h)) HBA.out HB3.out (fun z hz => (HS.out z hz).1) hat hN)
        (fun h k => h.trans k) (PkKeep.putObj HB3.out) (Below.refl _ _) (fun _ => rfl)
        (fun pre V => NodeSt B g (.slice (some ad) l0.length c0) W.heap.size (W.heap.size + 1) x W (xs ++ strsB (strsOf [bs wOpen, bs wType]) ++ strsB (strsOf [bs wDir]) ++ (pre.map (·.1)).flatMap (fun y => entryB y.2 (packN f (nds l0) y.1))) V)
        (fun _ _ _ => False)
        (NodeSt.own _ hsz3 HB3.out hB)
        (fun _ _ _ _ _ h _ _ => h)
        (by have h := ST3.out; simpa using h)
        (fun y => { tmps := #[Value.pointer (some { block := g, off := 0 }), Value.int IntKind.i64 ↑at_, Value.pointer (some { block := W.heap.size, off := 0 }), undef, Value.pointer (some { block := W.heap.size + 1, off := 0 }), .int .i64 (y.1.1 : Int), .string (bs y.1.2), Value.pointer (some { block := g, off := 0 }), Value.pointer (some { block := g, off := 0 }), Value.pointer (some { block := g, off := 2 }), Value.slice (some ad) l0.length c0, Value.int IntKind.i64 ↑at_, Value.pointer (some (ad.add (at_ * 3))), Value.agg #[Value.string x.f0, Value.int IntKind.i64 x.f1, Value.string x.f2], Value.pointer (some { block := g, off := 0 }), Value.slice (some { block := W.heap.size + 1 + 1, off := 0 }) 2 2, Value.tuple #[], Value.pointer (some { block := W.heap.size + 1, off := 1 }), Value.int IntKind.i64 x.f1, Value.pointer (some { block := g, off := 0 }), Value.slice (some { block := w1.heap.size, off := 0 }) 1 1, Value.tuple #[], Value.pointer (some { block := g, off := 0 }), Value.int IntKind.i64 ↑at_, Value.func (Fn.func 82) #[] #[Value.pointer (some { block := b3, off := 0 }), Value.pointer (some { block := b2, off := 0 }), Value.pointer (some { block := b5, off := 0 })], .int .i64 (y.1.1 : Int), .string (bs y.1.2), undef, undef, undef, undef, undef, undef, undef, undef, undef, undef, Value.bool false, Value.bool false, undef, undef, undef, undef, undef, Value.bool false, Value.bool false, undef, undef, undef, undef, undef, Value.bool false, Value.bool false, undef, undef, undef, undef, undef, undef, undef, undef], defers := [] }) ?assign ?body ?done ?stop
      case assign =>
        intro l y V K hK
        dsimp only [elEnc]
        gi_wp2
        exact hK
      case body =>
        rintro l pre y V hI hlen
        have I := Aside0.mk hI
        have hBV := Aside0.mk (Nat.le_trans hB hI.st.size)
        have hy0 := y.2.1
        have hy1 := y.2.2.1
        have hy2 := y.2.2.2
        have hfl := flat_len M (fun y => entryB y.2 (packN f (nds l0) y.1)) (pre.map (·.1)) (by
          intro z hz
          obtain ⟨z', hz', rfl⟩ := List.mem_map.1 hz
          exact HM.out f z'.1.1 z'.1.2 z'.2.2.1 z'.2.2.2)
        rw [List.length_map] at hfl
        have he := HM.out f y.1.1 y.1.2 hy1 hy2
        rw [entryB, List.length_append, List.length_append] at he
        have hmul : pre.length * M + M ≤ l0.length * M := by
          rw [← Nat.succ_mul]; exact Nat.mul_le_mul (by omega) (Nat.le_refl M)
        have hr := HR.out
        rw [Nat.succ_mul f, Nat.succ_mul l0.length] at hr
        have hcur : (xs ++ strsB (strsOf [bs wOpen, bs wType]) ++ strsB (strsOf [bs wDir]) ++ (pre.map (·.1)).flatMap (fun y => entryB y.2 (packN f (nds l0) y.1))).length ≤ xs.length + M + pre.length * M := by
          simp only [List.length_append]
          show xs.length + (strsB [wOpen, wType]).length + (strsB [wDir]).length + _ ≤ _
          omega
        have HFL := Aside0.mk hfl
        have HE := Aside0.mk he
        have HMUL := Aside0.mk hmul
        have HRR := Aside0.mk hr
        have HCUR := Aside0.mk hcur
        have c2 := hI.c2
        clear hI hfl he hmul hr hcur
        have hput := put_st [bs wEntry, bs wOpen, bs wName, bs y.1.2, bs wNode] 5 V.heap.size rfl rfl _ rfl I.out hBV.out rfl (by
          have h1 := HCUR.out; have h2 := HE.out; have h3 := HMUL.out; have h4 := HRR.out
          show _ + (strsB [wEntry, wOpen, wName, y.1.2, wNode]).length ≤ _
          omega) (by
          intro s hs
          simp only [List.mem_cons, List.not_mem_nil, or_false] at hs
          rcases hs with rfl | rfl | rfl | rfl | rfl
          all_goals first | decide | (rw [bs_size]; omega)) (by simp)
        have HPUT := Aside0.mk hput
        clear hput
        gi_wp2
        refine ⟨trivial, ?_⟩
        gi_at_call 38
        refine (CallsIn.inRound l (callsIn_wide.2 HPUT.out)).mono ?_
        rintro e v1 ⟨rfl, T1⟩
        have c2 := T1.out.1.c2
        gi_wp2_with (refine ⟨trivial, ?_⟩; gi_at_call 39; refine (CallsIn.inRound l (callsIn_wide.2 (IH.out y.1.1 _ v1 hy1 (by omega) T1.out.1.pk (fun W' h => HC.out W' (T1.out.1.st.1.trans h)) T1.out.2.2 (by
          have h1 := HCUR.out; have h2 := HE.out; have h3 := HMUL.out; have h4 := HRR.out
          rw [List.length_append, Nat.succ_mul l0.length]
          show _ + (strsB [wEntry, wOpen, wName, y.1.2, wNode]).length + _ ≤ _; omega)))).mono ?_)
        rintro e v2 ⟨rfl, hp2, hs2⟩
        have T2 := Aside0.mk (T1.out.1.put hp2 hs2)
        have HS2 := Aside0.mk (hs2)
        have HB2 := Aside0.mk (Nat.le_trans T1.out.2.2 hs2.size)
        clear hp2 hs2
        have c2 := T2.out.c2
        gi_wp2_with (refine ⟨trivial, ?_⟩; gi_at_call 38; refine (CallsIn.inRound l (callsIn_wide.2 (put_st [bs wShut] 1 _ rfl rfl _ rfl T2.out HB2.out rfl (by
          have h1 := HCUR.out; have h2 := HE.out; have h3 := HMUL.out; have h4 := HRR.out
          rw [List.length_append, List.length_append]
          show _ + (strsB [wEntry, wOpen, wName, y.1.2, wNode]).length + _ + (strsB [wShut]).length ≤ _; omega) (by decide) (by decide)))).mono ?_)
        rintro e v3 ⟨rfl, T3⟩
        gi_wp2
        have hst := (T1.out.2.1.trans HS2.out).trans T3.out.2.1
        refine ⟨hst.keepsOthers I.out.pk, hst.keep T3.out.1.pk, ?_⟩
        have h := T3.out.1
        dsimp only
        rw [List.map_append, List.flatMap_append]
        simp only [List.map_cons, List.map_nil, List.flatMap_cons, List.flatMap_nil, List.append_nil]
        rw [show entryB y.1.2 (packN f (nds l0) y.1.1) = strsB (strsOf [bs wEntry, bs wOpen, bs wName, bs y.1.2, bs wNode]) ++ packN f (nds l0) y.1.1 ++ strsB (strsOf [bs wShut]) from rfl]
        simp only [List.append_assoc] at h ⊢
        exact h
      case done =>
        rintro D ys V hD hS hI hK
        have I := Aside0.mk hI
        have hBV := Aside0.mk (Nat.le_trans hB hI.st.size)
        have HK := Aside0.mk hK
        have HSS := Aside0.mk hS
        have c2 := hI.c2
        have hfin := HPK.out
        rw [HX.out] at hfin
        clear hI hK hS
        gi_wp2_with (refine ⟨trivial, ?_⟩; gi_at_call 38; refine (callsIn_wide.2 (put_st [bs wShut] 1 _ rfl rfl _ rfl I.out hBV.out rfl (by
          have h1 := HR1.out
          have h2 := HSS.out
          rw [bs_toList] at h2
          rw [hfin] at h1
          rw [h2]
          simp only [List.length_append] at h1 ⊢
          show xs.length + (strsB [wOpen, wType]).length + (strsB [wDir]).length + _ + (strsB [wShut]).length ≤ _
          have h3 : (nd l0[at_]).path = l0[at_].f0.data.toList := rfl
          rw [h3] at h1
          omega) (by decide) (by decide))).mono ?_)
        rintro e v4 ⟨rfl, T4⟩
        gi_wp2
        have hK4 := T4.out.2.1.obj HK.out (by obtain ⟨_, p, v, _, hg, _⟩ := I.out.pk; intro e; subst e; have := HK.out; rw [hg] at this; cases this) rfl
        have h5 := (NodeSt.own (β := Unit) (fun _ => _) hsz3 HB3.out hB).putObj (s := ()) (.deferred none) T4.out.1 hD hK4 rfl
        refine ⟨by simp, .inl ⟨_, _, rfl, run_takeDeferred hK4, ?_⟩⟩
        refine ⟨_, results_none rfl _ _ _, rfl, ?_, h5.st⟩
        have h6 := h5.pk
        have h2 := HSS.out
        rw [bs_toList] at h2
        rw [h2] at h6
        rw [hfin]
        simp only [List.append_assoc] at h6 ⊢
        exact h6
      case stop =>
        rintro D c pre V _ _ h _
        exact h.elim
end Go.Proofs.Ytncokgdfkbgflaa
