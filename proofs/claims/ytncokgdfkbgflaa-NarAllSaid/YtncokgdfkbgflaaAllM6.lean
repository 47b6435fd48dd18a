/- Texts of this claim, joined: what the others lean on. -/
import Derived.Test.YtncokgdfkbgflaaAllM2
import Derived.Test.YtncokgdfkbgflaaAllM3
import Derived.Test.YtncokgdfkbgflaaAllM5
import Derived.Test.YtncokgdfkbgflaaAllM4
import Derived.Deep.Strs
import Derived.WalkKit
import Derived.OpenShut
import Derived.SizedLaws
import Derived.ChangeSlices
namespace Go.Proofs.Ytncokgdfkbgflaa
set_option linter.unusedVariables false
set_option linter.unusedSimpArgs false
open Go.RowKit Go.Proofs.YtncokgdfkbgflaaW.PrintWords Go.Proofs.YtncokgdfkbgflaaW.PrintMore P
theorem strs1 (k : Nat) (hk : 30 ≤ k) : shelfmarkref10_strs.f k [(⟨#[40]⟩ : ByteArray), (⟨#[116, 121, 112, 101]⟩ : ByteArray)] = some (bs (strsB [wOpen, wType])) := refStrs_f _ 300 (by decide) (by decide) (by decide) k (by simp; omega)
theorem strs2 (k : Nat) (hk : 30 ≤ k) : shelfmarkref10_strs.f k [(⟨#[41]⟩ : ByteArray)] = some (bs (strsB [wShut])) := refStrs_f _ 300 (by decide) (by decide) (by decide) k (by simp; omega)
theorem strs3 (k : Nat) (hk : 30 ≤ k) : shelfmarkref10_strs.f k [(⟨#[100, 105, 114, 101, 99, 116, 111, 114, 121]⟩ : ByteArray)] = some (bs (strsB [wDir])) := refStrs_f _ 300 (by decide) (by decide) (by decide) k (by simp; omega)
theorem strs4 (k : Nat) (hk : 30 ≤ k) : shelfmarkref10_strs.f k [(⟨#[110, 105, 120, 45, 97, 114, 99, 104, 105, 118, 101, 45, 49]⟩ : ByteArray)] = some (bs (strsB [wMark])) := refStrs_f _ 300 (by decide) (by decide) (by decide) k (by simp; omega)
theorem strs5 (k : Nat) (hk : 30 ≤ k) (d : ByteArray) (hd : d.size ≤ 70000) : shelfmarkref10_strs.f k [(⟨#[114, 101, 103, 117, 108, 97, 114]⟩ : ByteArray), (⟨#[99, 111, 110, 116, 101, 110, 116, 115]⟩ : ByteArray), d] = some (bs (strsB [wRegular, wContents, d.data.toList])) :=
  refStrs_f _ 70000 (by decide) (by simp) (by intro s hs; simp only [List.mem_cons, List.not_mem_nil, or_false] at hs; rcases hs with rfl | rfl | rfl; all_goals first | exact hd | decide) k (by simp; omega)
theorem strs6 (k : Nat) (hk : 30 ≤ k) (d : ByteArray) (hd : d.size ≤ 70000) : shelfmarkref10_strs.f k [(⟨#[114, 101, 103, 117, 108, 97, 114]⟩ : ByteArray), (⟨#[101, 120, 101, 99, 117, 116, 97, 98, 108, 101]⟩ : ByteArray), (⟨#[]⟩ : ByteArray), (⟨#[99, 111, 110, 116, 101, 110, 116, 115]⟩ : ByteArray), d] = some (bs (strsB [wRegular, wExec, [], wContents, d.data.toList])) :=
  refStrs_f _ 70000 (by decide) (by simp) (by intro s hs; simp only [List.mem_cons, List.not_mem_nil, or_false] at hs; rcases hs with rfl | rfl | rfl | rfl | rfl; all_goals first | exact hd | decide) k (by simp; omega)
theorem strs7 (k : Nat) (hk : 30 ≤ k) (d : ByteArray) (hd : d.size ≤ 70000) : shelfmarkref10_strs.f k [(⟨#[115, 121, 109, 108, 105, 110, 107]⟩ : ByteArray), (⟨#[116, 97, 114, 103, 101, 116]⟩ : ByteArray), d] = some (bs (strsB [wSymlink, wTarget, d.data.toList])) :=
  refStrs_f _ 70000 (by decide) (by simp) (by intro s hs; simp only [List.mem_cons, List.not_mem_nil, or_false] at hs; rcases hs with rfl | rfl | rfl; all_goals first | exact hd | decide) k (by simp; omega)
theorem strs8 (k : Nat) (hk : 30 ≤ k) (d : ByteArray) (hd : d.size ≤ 70000) : shelfmarkref10_strs.f k [(⟨#[101, 110, 116, 114, 121]⟩ : ByteArray), (⟨#[40]⟩ : ByteArray), (⟨#[110, 97, 109, 101]⟩ : ByteArray), d, (⟨#[110, 111, 100, 101]⟩ : ByteArray)] = some (bs (strsB [wEntry, wOpen, wName, d.data.toList, wNode])) :=
  refStrs_f _ 70000 (by decide) (by simp) (by intro s hs; simp only [List.mem_cons, List.not_mem_nil, or_false] at hs; rcases hs with rfl | rfl | rfl | rfl | rfl; all_goals first | exact hd | decide) k (by simp; omega)
theorem nds_here {l : List S37} {pre post : List Nd} {n : Nd} (h : nds l = pre ++ (n :: post)) : ∃ hi : pre.length < l.length, nd l[pre.length] = n := by
  have hl : pre.length < l.length := by rw [← nds_len, h, List.length_append, List.length_cons]; omega
  refine ⟨hl, ?_⟩
  have h1 : (nds l)[pre.length]? = some n := by rw [h]; simp
  have h2 : (nds l)[pre.length]? = some (nd l[pre.length]) := by simp [nds, List.getElem?_eq_getElem hl]
  rw [h2] at h1
  exact Option.some.inj h1
theorem mayName_len {t : List UInt8} (h : mayName t = true) : t.length ≤ 255 := by
  unfold mayName at h
  simp only [Bool.and_eq_true, decide_eq_true_eq] at h
  exact h.2.1
mutual
theorem Tr.node_is (l : List S37) (B : Nat) (hB : B < 1000000000) (hl : l.length < 1000000000) (hs : ∀ x ∈ l, x.f0.size ≤ B) : ∀ (t : Tr) (d : Nat) (p : List UInt8) (pre post : List Nd) (k : Nat), t.ok d = true → StopsAt (headOf p) post → nds l = pre ++ (t.nodes p ++ post) → t.enc.length < 1000000000000000 → 3 * t.size + B + 60 ≤ k →
    shelfmarkref10_node.f k l (pre.length : Int) = some (bs t.enc, ((pre.length + t.size : Nat) : Int))
  | .leaf kk x, d, p, pre, post, k, h, hst, hn, he, hk => by
    obtain ⟨k, rfl⟩ : ∃ g, k = g + 1 := ⟨k - 1, by omega⟩
    rw [Tr.ok] at h
    simp only [Bool.and_eq_true, decide_eq_true_eq] at h
    rw [Tr.nodes] at hn
    obtain ⟨hi, hnd⟩ := nds_here hn
    have hat : rd_T37 l (pre.length : Int) = l[pre.length] := rd37_at l _ hi
    have h1 : l[pre.length].f1 = kk := congrArg Nd.kind hnd
    have h2 : l[pre.length].f2.data.toList = x := congrArg Nd.data hnd
    have hx := okNd_le _ h.2
    have hx2 : x.length ≤ 65536 := hx
    have hsz : l[pre.length].f2.size ≤ 70000 := by rw [Lib.size_eq, h2]; omega
    have HW := Aside0.mk (wrap_up pre.length (by omega))
    rw [Tr.enc] at he ⊢
    simp only [List.length_append] at he
    rw [shelfmarkref10_node.f, if_pos (by omega), if_pos (by omega), strs1 k (by omega)]
    simp only [Option.bind_some]
    rw [hat, h1, strs5 k (by omega) _ hsz, strs6 k (by omega) _ hsz, strs7 k (by omega) _ hsz, h2, strs2 k (by omega), HW.out, Tr.size]
    simp only [Option.bind_some]
    rcases h.1 with rfl | rfl | rfl
    · rw [if_pos rfl, bs_size, bs_size, if_pos (by simp only [leafB, if_pos] at he; omega), bs_append, bs_size, bs_size, if_pos (by simp only [leafB, if_pos] at he; rw [List.length_append]; omega), bs_append]
      rfl
    · rw [if_neg (by decide), if_pos rfl, bs_size, bs_size]
      have hb : leafB ⟨[], 2, x⟩ = strsB [wRegular, wExec, [], wContents, x] := by simp [leafB]
      rw [hb] at he ⊢
      rw [if_pos (by omega), bs_append, bs_size, bs_size, if_pos (by rw [List.length_append]; omega), bs_append]
    · rw [if_neg (by decide), if_neg (by decide), if_pos rfl, bs_size, bs_size]
      have hb : leafB ⟨[], 3, x⟩ = strsB [wSymlink, wTarget, x] := by simp [leafB]
      rw [hb] at he ⊢
      rw [if_pos (by omega), bs_append, bs_size, bs_size, if_pos (by rw [List.length_append]; omega), bs_append]
  | .dir es, d, p, pre, post, k, h, hst, hn, he, hk => by
    obtain ⟨k, rfl⟩ : ∃ g, k = g + 1 := ⟨k - 1, by omega⟩
    rw [Tr.ok] at h
    rw [Tr.size] at hk ⊢
    rw [Tr.nodes] at hn
    obtain ⟨hi, hnd⟩ := nds_here hn
    have hat : rd_T37 l (pre.length : Int) = l[pre.length] := rd37_at l _ hi
    have h1 : l[pre.length].f1 = 4 := congrArg Nd.kind hnd
    have h0 : l[pre.length].f0.data.toList = p := congrArg Nd.path hnd
    have hsi := hs l[pre.length] (List.getElem_mem _)
    have HW := Aside0.mk (wrap_up pre.length (by omega))
    rw [Tr.enc] at he ⊢
    simp only [List.length_append] at he
    have hn2 : nds l = (pre ++ [⟨p, 4, []⟩]) ++ (es.nodes p ++ post) := by rw [hn]; simp
    have hr := Es.node_is l B hB hl hs es d [] p (pre ++ [⟨p, 4, []⟩]) post k l[pre.length].f0 l[pre.length].f1 l[pre.length].f2 (strsB [wOpen, wType] ++ strsB [wDir]) h hst hn2 ⟨h0, hsi⟩ (by simp only [List.length_append]; omega) (by omega)
    rw [List.length_append, List.length_singleton] at hr
    rw [shelfmarkref10_node.f, if_pos (by omega), if_pos (by omega), strs1 k (by omega)]
    simp only [Option.bind_some]
    rw [hat]
    have g1 : ¬ l[pre.length].f1 = 1 := by omega
    have g2 : ¬ l[pre.length].f1 = 2 := by omega
    have g3 : ¬ l[pre.length].f1 = 3 := by omega
    rw [if_neg g1, if_neg g2, if_neg g3, strs3 k (by omega)]
    simp only [Option.bind_some]
    rw [bs_size, bs_size, if_pos (by omega), bs_append, HW.out, hr]
    have e1 : strsB [wOpen, wType] ++ strsB [wDir] ++ (es.enc ++ strsB [wShut]) = strsB [wOpen, wType] ++ (strsB [wDir] ++ es.enc) ++ strsB [wShut] := by simp only [List.append_assoc]
    have e2 : pre.length + 1 + es.size = pre.length + (1 + es.size) := by omega
    rw [e1, e2]
theorem Es.node_is (l : List S37) (B : Nat) (hB : B < 1000000000) (hl : l.length < 1000000000) (hs : ∀ x ∈ l, x.f0.size ≤ B) : ∀ (es : Es) (d : Nat) (last p : List UInt8) (pre post : List Nd) (k : Nat) (y0 : ByteArray) (y1 : Int) (y2 : ByteArray) (acc : List UInt8), es.ok d last = true → StopsAt (headOf p) post → nds l = pre ++ (es.nodes p ++ post) → y0.data.toList = p ∧ y0.size ≤ B →
    acc.length + es.enc.length + (strsB [wShut]).length < 1000000000000000 → 3 * es.size + B + 62 ≤ k →
    shelfmarkref10_node.l0 k l (bs acc) (pre.length : Int) y0 y1 y2 = some (bs (acc ++ (es.enc ++ strsB [wShut])), ((pre.length + es.size : Nat) : Int))
  | .nil, d, last, p, pre, post, k, y0, y1, y2, acc, h, hst, hn, ⟨hy, hyB⟩, he, hk => by
    obtain ⟨k, rfl⟩ : ∃ g, k = g + 2 := ⟨k - 2, by omega⟩
    rw [Es.nodes, List.nil_append] at hn
    rw [Es.enc] at he ⊢
    rw [Es.size, List.nil_append]
    have hj : shelfmarkref10_node.j1 (k + 1) l (bs acc) (pre.length : Int) false y0 y1 y2 = some (bs (acc ++ strsB [wShut]), ((pre.length + 0 : Nat) : Int)) := by
      rw [shelfmarkref10_node.j1, if_neg (by decide), strs2 k (by omega)]
      simp only [Option.bind_some]
      rw [bs_size, bs_size, if_pos (by simp only [List.length_nil] at he; omega), bs_append]
      rfl
    rw [shelfmarkref10_node.l0]
    by_cases hlt : pre.length < l.length
    · obtain ⟨n, post2, hpost⟩ : ∃ n post2, post = n :: post2 := by
        cases post with
        | nil => have := nds_len l; rw [hn, List.append_nil] at this; omega
        | cons n q => exact ⟨n, q, rfl⟩
      rw [hpost] at hn
      obtain ⟨hi, hnd⟩ := nds_here hn
      have hat : rd_T37 l (pre.length : Int) = l[pre.length] := rd37_at l _ hi
      have h0 : l[pre.length].f0.data.toList = n.path := congrArg Nd.path hnd
      have hsi := hs l[pre.length] (List.getElem_mem _)
      have hpfx := hst n post2 hpost
      obtain ⟨r, hr, hrl⟩ := name_f l[pre.length].f0 y0 (by omega) (by omega) (k + 1) (by omega)
      rw [h0, hy, refName_stop hpfx] at hrl
      have ht : (r.toList != ([] : List UInt8)) = false := by rw [toList_data, hrl]; rfl
      rw [if_pos (by omega), if_pos (by omega), hat, hr]
      simp only [Option.bind_some]
      rw [ht, hj]
    · rw [if_neg (by omega), hj]
  | .cons nm t es, d, last, p, pre, post, k, y0, y1, y2, acc, h, hst, hn, ⟨hy, hyB⟩, he, hk => by
    have h' := h
    rw [Es.ok] at h
    simp only [Bool.and_eq_true, Bool.not_eq_true', decide_eq_true_eq] at h
    obtain ⟨h1, h2, h3, h4, h5⟩ := h
    rw [Es.size] at hk ⊢
    have hp := Tr.size_pos t
    obtain ⟨k, rfl⟩ : ∃ g, k = g + 2 := ⟨k - 2, by omega⟩
    rw [Es.nodes, List.append_assoc] at hn
    obtain ⟨hne, h47⟩ := mayName_ne h1
    have hstop := Es.stops d nm p _ es post nm rfl hne h5 hst
    rw [Es.enc, entryB] at he ⊢
    simp only [List.length_append] at he
    have hnode := Tr.node_is l B hB hl hs t (d + 1) (headOf p ++ nm) pre (es.nodes p ++ post) k h4 hstop hn (by omega) (by omega)
    obtain ⟨m, q, hm, hmp⟩ := Tr.first (headOf p ++ nm) t
    have hn1 : nds l = pre ++ m :: (q ++ (es.nodes p ++ post)) := by rw [hn, hm]; rfl
    obtain ⟨hi, hnd⟩ := nds_here hn1
    have hat : rd_T37 l (pre.length : Int) = l[pre.length] := rd37_at l _ hi
    have h0 : l[pre.length].f0.data.toList = headOf p ++ nm := by rw [← hmp]; exact congrArg Nd.path hnd
    have hsi := hs l[pre.length] (List.getElem_mem _)
    obtain ⟨r, hr, hrl⟩ := name_f l[pre.length].f0 y0 (by omega) (by omega) (k + 1) (by omega)
    obtain ⟨r2, hr2, hrl2⟩ := name_f l[pre.length].f0 y0 (by omega) (by omega) k (by omega)
    rw [h0, hy, refName_in p nm h47] at hrl hrl2
    have ht : (r.toList != ([] : List UInt8)) = true := by rw [toList_data, hrl, bne_iff_ne]; exact hne
    have hnml := mayName_len h1
    have hn2 : nds l = (pre ++ t.nodes (headOf p ++ nm)) ++ (es.nodes p ++ post) := by rw [hn, List.append_assoc]
    have hih := Es.node_is l B hB hl hs es d nm p (pre ++ t.nodes (headOf p ++ nm)) post k y0 y1 y2 (acc ++ strsB [wEntry, wOpen, wName, nm, wNode] ++ t.enc ++ strsB [wShut]) h5 hst hn2 ⟨hy, hyB⟩ (by simp only [List.length_append]; omega) (by omega)
    rw [List.length_append, Tr.nodes_length] at hih
    rw [shelfmarkref10_node.l0, if_pos (by omega), if_pos (by omega), hat, hr]
    simp only [Option.bind_some]
    rw [ht, shelfmarkref10_node.j1, if_pos rfl, hnode]
    simp only [Option.bind_some]
    rw [if_pos (by omega), if_pos (by omega), hat, hr2]
    simp only [Option.bind_some]
    rw [strs8 k (by omega) r2 (by rw [Lib.size_eq, hrl2]; omega), strs2 k (by omega), hrl2]
    simp only [Option.bind_some]
    rw [bs_size, bs_size, if_pos (by omega), bs_append, bs_size, bs_size, if_pos (by rw [List.length_append]; omega), bs_append, bs_size, bs_size, if_pos (by simp only [List.length_append]; omega), bs_append, hih]
    have e1 : acc ++ strsB [wEntry, wOpen, wName, nm, wNode] ++ t.enc ++ strsB [wShut] ++ (es.enc ++ strsB [wShut]) = acc ++ (strsB [wEntry, wOpen, wName, nm, wNode] ++ t.enc ++ strsB [wShut] ++ es.enc ++ strsB [wShut]) := by simp only [List.append_assoc]
    have e2 : pre.length + t.size + es.size = pre.length + (t.size + es.size) := by omega
    rw [e1, e2]
end

theorem encT_le (t : Tr) (h : t.ok 0 = true) (hs : t.size ≤ 256) (hp : ∀ n ∈ t.nodes [], n.path.length ≤ 1048576) : t.enc.length ≤ 353771551 * 257 := by
  have hm := tree_may t h hs
  obtain ⟨h1, h2, h3, h4⟩ := may_parts hm
  rw [← packN_tree t h]
  have h5 := packN_le (t.nodes []) 327827 1048576 (by
    intro n hn
    have := leafB_le n 65536 (by decide) (okNd_le n (h3 n hn))
    omega) hp (by decide) h4 (t.nodes []).length 0
  have h7 := holds_le (t.nodes []) 0
  have h8 : (327827 + (1048576 + 140)) * holds (t.nodes []) 0 ≤ (327827 + (1048576 + 140)) * 257 := Nat.mul_le_mul (Nat.le_refl _) (by omega)
  omega
theorem refPack_f (l : List S37) (hs : ∀ x ∈ l, x.f0.size ≤ 1048576) (k : Nat) (hk : 1200000 ≤ k) : shelfmarkref10_Pack.f k l = some (if May (nds l) = true then (bs (strB wMark ++ packN l.length (nds l) 0), 0) else (⟨#[]⟩, 1)) := by
  unfold shelfmarkref10_Pack.f
  rw [refMay_f l hs k (by omega)]
  simp only [Option.bind_some]
  by_cases h : May (nds l) = true
  · rw [if_pos h, if_pos h]
    obtain ⟨t, ht, hl⟩ := may_tree _ h
    obtain ⟨h1, h2, _, _⟩ := may_parts h
    rw [nds_len] at h1 h2
    have hsz : t.size = l.length := by rw [← Tr.nodes_length [] t, ← hl, nds_len]
    have hpp : ∀ n ∈ t.nodes [], n.path.length ≤ 1048576 := by
      intro n hn
      rw [← hl] at hn
      obtain ⟨x, hx, rfl⟩ := List.mem_map.1 hn
      have := hs x hx
      rw [Lib.size_eq] at this
      exact this
    have he := encT_le t ht (by omega) hpp
    have hn := Tr.node_is l 1048576 (by decide) (by omega) hs t 0 [] [] [] k ht (fun n q e => by cases e) (by rw [hl]; simp) (by omega) (by omega)
    have e0 : (([] : List Nd).length : Int) = 0 := rfl
    rw [e0] at hn
    rw [hn]
    simp only [Option.bind_some]
    rw [strs4 k (by omega)]
    simp only [Option.bind_some]
    have hmk : (strsB [wMark]).length = 24 := by decide
    have e1 : packN l.length (nds l) 0 = t.enc := by
      have := packN_tree t ht
      rw [← hl, nds_len] at this
      exact this
    rw [bs_size, bs_size, if_pos (by omega), bs_append, e1]
    have e2 : strsB [wMark] = strB wMark := by simp only [strsB, List.append_nil]
    rw [e2]
  · rw [if_neg h, if_neg h]
end Go.Proofs.Ytncokgdfkbgflaa

namespace Go.Proofs.Ytncokgdfkbgflaa
set_option linter.unusedVariables false
set_option linter.unusedSimpArgs false
open Go.RowKit Go.Proofs.YtncokgdfkbgflaaW.PrintWords Go.Proofs.YtncokgdfkbgflaaW.PrintMore P
def eqNd (a b : Nd) : Bool := a.path == b.path && (a.kind == b.kind && a.data == b.data)
def sameN : List Nd → List Nd → Bool
  | [], [] => true
  | a :: l, b :: m => eqNd a b && sameN l m
  | _, _ => false
theorem eqNd_is (a b : Nd) : eqNd a b = true ↔ a = b := by
  unfold eqNd
  simp only [Bool.and_eq_true, beq_iff_eq]
  constructor
  · rintro ⟨h1, h2, h3⟩
    cases a; cases b
    simp only at h1 h2 h3
    rw [h1, h2, h3]
  · rintro rfl; exact ⟨rfl, rfl, rfl⟩
theorem sameN_is : ∀ l m : List Nd, sameN l m = true ↔ l = m
  | [], [] => by simp [sameN]
  | [], b :: m => by simp [sameN]
  | a :: l, [] => by simp [sameN]
  | a :: l, b :: m => by
    rw [sameN, Bool.and_eq_true, eqNd_is, sameN_is l m]
    simp
theorem sameN_len {l m : List Nd} (h : l.length ≠ m.length) : sameN l m = false := by
  cases hs : sameN l m with
  | false => rfl
  | true => exact absurd (congrArg List.length ((sameN_is l m).1 hs)) h
theorem test_is (x y : S37) : (!((x.f0.toList) == (y.f0.toList)) || (!(x.f1 == y.f1) || (!((x.f2.toList) == (y.f2.toList))))) = !eqNd (nd x) (nd y) := by
  have e : eqNd (nd x) (nd y) = (x.f0.toList == y.f0.toList && (x.f1 == y.f1 && x.f2.toList == y.f2.toList)) := by
    rw [toList_data, toList_data, toList_data, toList_data]; rfl
  rw [e, Bool.not_and, Bool.not_and]
theorem same_rounds (l m : List S37) (hl : l.length = m.length) (hN : l.length < 1000000000) : ∀ (d i k : Nat), l.length - i ≤ d → i ≤ l.length → d + 1 ≤ k → api_Node_55.l0 k l m (l.length : Int) (i : Int) = some (sameN ((nds l).drop i) ((nds m).drop i)) := by
  intro d
  induction d with
  | zero =>
    intro i k h1 h2 hk
    obtain ⟨k, rfl⟩ : ∃ g, k = g + 1 := ⟨k - 1, by omega⟩
    rw [api_Node_55.l0, if_neg (by omega), List.drop_eq_nil_of_le (by rw [nds_len]; omega), List.drop_eq_nil_of_le (by rw [nds_len]; omega)]
    rfl
  | succ d ih =>
    intro i k h1 h2 hk
    by_cases hi : i < l.length
    · obtain ⟨k, rfl⟩ : ∃ g, k = g + 1 := ⟨k - 1, by omega⟩
      have e1 : rd_T37 l (i : Int) = l[i] := rd37_at l i hi
      have e2 : rd_T37 m (i : Int) = m[i]'(by omega) := rd37_at m i (by omega)
      rw [api_Node_55.l0, if_pos (by omega), if_pos (by omega), if_pos (by omega), if_pos (by omega), e1, e2, test_is, nds_drop l i hi, nds_drop m i (by omega), sameN, wrap_up i (by omega)]
      cases hq : eqNd (nd l[i]) (nd (m[i]'(by omega))) with
      | false => rw [if_pos (by decide)]; rfl
      | true => rw [if_neg (by decide), ih (i + 1) k (by omega) (by omega) (by omega)]; rfl
    · exact ih i k (by omega) h2 (by omega)
theorem same_f (l m : List S37) (hN : l.length < 1000000000) (k : Nat) (hk : l.length + 1 ≤ k) : nar_Same.f k l m = some (sameN (nds l) (nds m)) := by
  unfold nar_Same.f api_Node_55.f
  by_cases hl : l.length = m.length
  · have := same_rounds l m hl hN l.length 0 k (by omega) (by omega) hk
    rw [if_pos (by omega)]
    have e : ((0 : Nat) : Int) = 0 := rfl
    rw [e] at this
    rw [this]
    rfl
  · rw [if_neg (by omega), sameN_len (by rw [nds_len, nds_len]; exact hl)]
    rfl
theorem refSame_rounds (l m : List S37) (hl : l.length = m.length) (hN : l.length < 1000000000) : ∀ (d i k : Nat), l.length - i ≤ d → i ≤ l.length → d + 1 ≤ k → shelfmarkref10_Same.l0 k l m (i : Int) = some (sameN ((nds l).drop i) ((nds m).drop i)) := by
  intro d
  induction d with
  | zero =>
    intro i k h1 h2 hk
    obtain ⟨k, rfl⟩ : ∃ g, k = g + 1 := ⟨k - 1, by omega⟩
    rw [shelfmarkref10_Same.l0, if_neg (by omega), List.drop_eq_nil_of_le (by rw [nds_len]; omega), List.drop_eq_nil_of_le (by rw [nds_len]; omega)]
    rfl
  | succ d ih =>
    intro i k h1 h2 hk
    by_cases hi : i < l.length
    · obtain ⟨k, rfl⟩ : ∃ g, k = g + 1 := ⟨k - 1, by omega⟩
      have e1 : rd_T37 l (i : Int) = l[i] := rd37_at l i hi
      have e2 : rd_T37 m (i : Int) = m[i]'(by omega) := rd37_at m i (by omega)
      rw [shelfmarkref10_Same.l0, if_pos (by omega), if_pos (by omega), if_pos (by omega), e1, e2, test_is, nds_drop l i hi, nds_drop m i (by omega), sameN, wrap_up i (by omega)]
      cases hq : eqNd (nd l[i]) (nd (m[i]'(by omega))) with
      | false => rw [if_pos (by decide)]; rfl
      | true => rw [if_neg (by decide), ih (i + 1) k (by omega) (by omega) (by omega)]; rfl
    · exact ih i k (by omega) h2 (by omega)
theorem refSame_f (l m : List S37) (hN : l.length < 1000000000) (k : Nat) (hk : l.length + 1 ≤ k) : shelfmarkref10_Same.f k l m = some (sameN (nds l) (nds m)) := by
  unfold shelfmarkref10_Same.f
  by_cases hl : l.length = m.length
  · have := refSame_rounds l m hl hN l.length 0 k (by omega) (by omega) hk
    rw [if_pos (by omega)]
    have e : ((0 : Nat) : Int) = 0 := rfl
    rw [e] at this
    rw [this, List.drop_zero, List.drop_zero]
  · rw [if_neg (by omega), sameN_len (by rw [nds_len, nds_len]; exact hl)]
theorem wrap_sum (a b : Nat) (h : a + b < 4611686018427387904) : wrap64 ((a : Int) + (b : Int)) = ((a + b : Nat) : Int) := by unfold wrap64; omega
theorem heavy_rounds (l : List S37) : ∀ (d i k x3 : Nat), 300 - i ≤ d → i ≤ 300 → i ≤ l.length → x3 ≤ i * 70000 → 2 * d + 2 ≤ k →
    ∃ b, shelfmarklaw10_Heavy.l0 k l (x3 : Int) (i : Int) = some b ∧ (b = false → l.length ≤ 280 ∧ ∀ j (hj : j < l.length), i ≤ j → l[j].f0.size ≤ 6000 ∧ l[j].f2.size ≤ 70000) := by
  intro d
  induction d with
  | zero =>
    intro i k x3 h1 h2 h3 hx hk
    obtain ⟨k, rfl⟩ : ∃ g, k = g + 2 := ⟨k - 2, by omega⟩
    have hr : shelfmarklaw10_Heavy.l0 (k + 2) l (x3 : Int) (i : Int) = shelfmarklaw10_Heavy.j1 (k + 1) l (x3 : Int) (i : Int) false := by
      rw [shelfmarklaw10_Heavy.l0, decide_eq_false (by omega)]
      split <;> rfl
    rw [hr, shelfmarklaw10_Heavy.j1, if_neg (by decide), if_pos (by omega)]
    exact ⟨true, rfl, fun h => by cases h⟩
  | succ d ih =>
    intro i k x3 h1 h2 h3 hx hk
    obtain ⟨k, rfl⟩ : ∃ g, k = g + 2 := ⟨k - 2, by omega⟩
    by_cases hi : i < l.length
    · by_cases h300 : i < 300
      · have e1 : rd_T37 l (i : Int) = l[i] := rd37_at l i hi
        rw [shelfmarklaw10_Heavy.l0, if_pos (by omega), decide_eq_true (by omega), shelfmarklaw10_Heavy.j1, if_pos rfl, if_pos (by omega), if_pos (by omega), e1]
        by_cases c1 : l[i].f0.size ≤ 6000
        · rw [if_neg (by omega)]
          by_cases c2 : l[i].f2.size ≤ 70000
          · obtain ⟨b, hb, hb2⟩ := ih (i + 1) k (x3 + l[i].f2.size) (by omega) (by omega) (by omega) (by omega) (by omega)
            rw [if_neg (by omega), wrap_sum x3 l[i].f2.size (by omega), wrap_up i (by omega)]
            refine ⟨b, hb, fun h => ⟨(hb2 h).1, fun j hj hij => ?_⟩⟩
            by_cases e : j = i
            · subst e; exact ⟨c1, c2⟩
            · exact (hb2 h).2 j hj (by omega)
          · rw [if_pos (by omega)]; exact ⟨true, rfl, fun h => by cases h⟩
        · rw [if_pos (by omega)]; exact ⟨true, rfl, fun h => by cases h⟩
      · rw [shelfmarklaw10_Heavy.l0, if_pos (by omega), decide_eq_false (by omega), shelfmarklaw10_Heavy.j1, if_neg (by decide), if_pos (by omega)]
        exact ⟨true, rfl, fun h => by cases h⟩
    · rw [shelfmarklaw10_Heavy.l0, if_neg (by omega), shelfmarklaw10_Heavy.j1, if_neg (by decide)]
      by_cases c : l.length ≤ 280
      · rw [if_neg (by omega)]
        exact ⟨_, rfl, fun _ => ⟨c, fun j hj hij => by omega⟩⟩
      · rw [if_pos (by omega)]; exact ⟨true, rfl, fun h => by cases h⟩
theorem heavy_f (l : List S37) (k : Nat) (hk : 700 ≤ k) : ∃ b, shelfmarklaw10_Heavy.f k l = some b ∧ (b = false → l.length ≤ 280 ∧ ∀ x ∈ l, x.f0.size ≤ 6000 ∧ x.f2.size ≤ 70000) := by
  obtain ⟨b, hb, hb2⟩ := heavy_rounds l 300 0 k 0 (by omega) (by omega) (by omega) (by omega) (by omega)
  refine ⟨b, hb, fun h => ⟨(hb2 h).1, fun x hx => ?_⟩⟩
  obtain ⟨j, hj, rfl⟩ := List.getElem_of_mem hx
  exact (hb2 h).2 j hj (by omega)
end Go.Proofs.Ytncokgdfkbgflaa

namespace Go.Proofs.Ytncokgdfkbgflaa.Pure
set_option linter.unusedVariables false
set_option linter.unusedSimpArgs false
open Go.RowKit Go.Proofs.Ytncokgdfkbgflaa Go.Proofs.Ytncokgdfkbgflaa.P Go.Proofs.YtncokgdfkbgflaaW.PrintWords Go.Proofs.YtncokgdfkbgflaaW.PrintMore
theorem word_both (k : Nat) (n : Int) (hn : n < 9223372036854775808) : ∃ r, nar_Word.f (k + 9) n = some r ∧ shelfmarkref10_Word.f (k + 9) n = some r := by
  by_cases h : 0 ≤ n
  · obtain ⟨m, rfl⟩ := Int.eq_ofNat_of_zero_le h
    exact ⟨_, word_any k m, refWord_any k m (by omega)⟩
  · exact ⟨_, word_neg k n (by omega), refWord_neg k n (by omega)⟩
theorem awake_at (k : Nat) (hk : 1000 ≤ k) : shelfmarklaw10_awake.f k = some true := by
  obtain ⟨k, rfl⟩ : ∃ g, k = g + 9 := ⟨k - 9, by omega⟩
  exact awake_true k
theorem j0_light (l m : List S37) (s : ByteArray) (n : Int) (hl : ∀ x ∈ l, x.f0.size ≤ 6000 ∧ x.f2.size ≤ 70000) (hll : l.length ≤ 280) (hs : s.size ≤ 400) (hn : n < 9223372036854775808) (k : Nat) (hk : 2000000 ≤ k) :
    shelfmarklaw10_NarAll.j0 (k + 1) l m s n false = some true := by
  have hT : TameAll l := tame_all l (fun x hx => by have := (hl x hx).1; omega)
  have hp : ∀ x ∈ l, x.f0.size ≤ 1048576 := fun x hx => by have := (hl x hx).1; omega
  rw [shelfmarklaw10_NarAll.j0, if_neg (by decide), pack_is l hT hp, refPack_f l hp k (by omega), may_f l hT k (by omega), refMay_f l hp k (by omega)]
  simp only [Option.bind_some]
  obtain ⟨r, hr⟩ : ∃ r, r = (if May (nds l) = true then (bs (strB wMark ++ packN l.length (nds l) 0), (0 : Int)) else (⟨#[]⟩, 1)) := ⟨_, rfl⟩
  rw [← hr]
  obtain ⟨rw_, h1, h2⟩ := word_both (k - 9) n hn
  rw [show k - 9 + 9 = k by omega] at h1 h2
  have hst : nar_Str.f k s = some (bs (strB s.data.toList)) := by
    have := str_any (k - 9) s (by omega)
    rw [show k - 9 + 9 = k by omega] at this
    exact this
  rw [mayName_f s trivial, refMayName_f s k (by omega), h1, h2, hst, refStr_f s (by omega) k (by omega), same_f l m (by omega) k (by omega), refSame_f l m (by omega) k (by omega), awake_at k (by omega)]
  simp only [shelfmarklaw1_Err.f, Option.bind_some, if_true, beq_self_eq_true]
theorem j0_heavy (l m : List S37) (s : ByteArray) (n : Int) (k : Nat) (hk : 2000 ≤ k) : shelfmarklaw10_NarAll.j0 (k + 1) l m s n true = some true := by
  rw [shelfmarklaw10_NarAll.j0, if_pos rfl, awake_at k (by omega)]
  rfl
theorem NarAll (l m : List S37) (s : ByteArray) (n : Int) (w : (Lit.int .i64 n).wf = true) : ∃ k, shelfmarklaw10_NarAll.f k l m s n = some true := by
  have hn : n < 9223372036854775808 := by
    simp [Lit.wf, IntKind.min, IntKind.max, IntKind.signed, IntKind.bits] at w
    omega
  refine ⟨2000000 + 1, ?_⟩
  unfold shelfmarklaw10_NarAll.f
  obtain ⟨b, hb, hb2⟩ := heavy_f l (2000000 + 1) (by omega)
  obtain ⟨c, hc, hc2⟩ := heavy_f m (2000000 + 1) (by omega)
  rw [hb]
  simp only [Option.bind_some]
  cases b with
  | true => rw [if_pos rfl]; exact j0_heavy l m s n 2000000 (by omega)
  | false =>
    rw [if_neg (by decide), hc]
    simp only [Option.bind_some]
    cases c with
    | true => rw [if_pos rfl]; exact j0_heavy l m s n 2000000 (by omega)
    | false =>
      rw [if_neg (by decide)]
      by_cases h : s.size ≤ 400
      · rw [decide_eq_false (by omega)]
        exact j0_light l m s n (hb2 rfl).2 (hb2 rfl).1 h hn 2000000 (by omega)
      · rw [decide_eq_true (by omega)]
        exact j0_heavy l m s n 2000000 (by omega)
end Go.Proofs.Ytncokgdfkbgflaa.Pure

namespace Go.Proofs.Ytncokgdfkbgflaa
open Go.RowKit Go.ChangeShapes Go.Deep Go.Proofs.YtncokgdfkbgflaaW.PrintWords P
set_option linter.unusedVariables false
set_option linter.unusedSimpArgs false
section
variable {H : Type} {enc : TypeId × Value → H} {w : World} {base : Nat} {spare : Nat → Bool} {held : Bool}
theorem Kd.C_none {α : Type} (d : Kd α) (w : World) : Kd.C d w none ([] : List α).length [] := ⟨rfl, by simp, fun h => absurd h (by simp)⟩
theorem map_range_get {α : Type} {len j : Nat} {Y : Nat → α} {p : α} (hp : ((List.range len).map Y)[j]? = some p) : j < len ∧ Y j = p := by
  rw [List.getElem?_map] at hp
  obtain ⟨q, hq, hq2⟩ := Option.map_eq_some_iff.1 hp
  obtain ⟨hlt, hq3⟩ := List.getElem?_eq_some_iff.1 hq
  rw [List.getElem_range] at hq3
  subst hq3
  exact ⟨by simpa using hlt, hq2⟩
set_option maxRecDepth 100000 in
theorem open_nodes {fuel : Nat} {a : Option Addr} {len cap : Nat} {x : DataW H × List MemPlace} (h : DataW.trod enc Try.prog w base spare held fuel 25 [.slice a len cap] = some x) :
    ∃ l : List S37, l.length = len ∧ len ≤ cap ∧ Kd.C k37 w a l.length l := by
  rcases open_slice Try.underlying25 h with ⟨h0, _⟩ | ⟨ad, len', cap', m, n, D, Pl, hcs, hb, hl, hm, hmm, _, hx⟩
  · simp only [List.cons.injEq, Value.slice.injEq, and_true] at h0
    obtain ⟨rfl, rfl, rfl⟩ := h0
    exact ⟨[], rfl, Nat.le_refl _, Kd.C_none _ _⟩
  · simp only [List.cons.injEq, Value.slice.injEq, and_true] at hcs
    obtain ⟨rfl, rfl, rfl⟩ := hcs
    have ce : Try.prog.cellsOf 37 = 3 := by kernel_rfl
    have c0 : Try.prog.cellsOf 9 = 1 := by kernel_rfl
    have c1 : Try.prog.cellsOf 3 = 1 := by kernel_rfl
    have hlm : len ≤ m := by rw [hmm]; split <;> omega
    have each : ∀ i, i < len → ∃ y : S37, w.cell? (ad.add (i * 3)) = some (.string y.f0) ∧ w.cell? (ad.add (i * 3 + 1)) = some (.int .i64 y.f1) ∧ w.cell? (ad.add (i * 3 + 2)) = some (.string y.f2) := by
      intro i hi
      obtain ⟨cs', h1, h2⟩ := hx i (by omega)
      rw [ce] at h1
      obtain ⟨_, hlen, hcell⟩ := World.cells?_some h1
      obtain ⟨xs, k, hk, hxy, _, hxl, hf⟩ := DataW.trod_struct Try.underlying37 h2
      match xs, hxl, cs', hlen with
      | [y0, y1, y2], _, [v0, v1, v2], _ =>
        have g0 := hf 0 _ rfl
        have g1 := hf 1 _ rfl
        have g2 := hf 2 _ rfl
        simp [c0, c1] at g0 g1 g2
        obtain ⟨s0, e0, _, _⟩ := DataW.trod_string Try.underlying9 g0
        obtain ⟨n1, e1, _, _⟩ := DataW.trod_int Try.underlying3 g1
        obtain ⟨s2, e2, _, _⟩ := DataW.trod_string Try.underlying9 g2
        have q0 := hcell 0 (by omega)
        have q1 := hcell 1 (by omega)
        have q2 := hcell 2 (by omega)
        rw [Deep.add_add] at q0 q1 q2
        simp only [List.cons.injEq, and_true] at e0 e1 e2
        subst e0 e1 e2
        exact ⟨⟨s0, n1, s2⟩, by simpa using q0, by simpa using q1, by simpa using q2⟩
    have : Inhabited S37 := ⟨z37⟩
    obtain ⟨Y, hY⟩ := choose_lt each
    refine ⟨(List.range len).map Y, by simp, hl, by simp, by simp only [List.length_map, List.length_range]; have : cap ≤ maxLen := hm; unfold maxLen at this; omega, fun _ => ⟨ad, rfl, fun j p hp => ?_⟩⟩
    obtain ⟨hj, rfl⟩ := map_range_get hp
    obtain ⟨q0, q1, q2⟩ := hY j hj
    refine ⟨_, rfl, k37_mk w (Y j), fun i u hu => ?_⟩
    match i, hu with
    | 0, hu => rw [show u = .string (Y j).f0 from by simpa using hu.symm]; exact q0
    | 1, hu => rw [show u = .int .i64 (Y j).f1 from by simpa using hu.symm]; exact q1
    | 2, hu => rw [show u = .string (Y j).f2 from by simpa using hu.symm]; exact q2
    | i + 3, hu => simp at hu
end
end Go.Proofs.Ytncokgdfkbgflaa

namespace Go.Proofs.YtncokgdfkbgflaaW.PrintWords
open Go.ChangeShapes Go.WideShapes
end Go.Proofs.YtncokgdfkbgflaaW.PrintWords
