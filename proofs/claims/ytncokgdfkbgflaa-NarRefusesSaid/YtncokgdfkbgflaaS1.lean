/- Plain words: nodes, what stands below a node in a list of nodes, the bytes of a node. -/
import Derived.Test.YtncokgdfkbgflaaS0
namespace Go.Proofs.Ytncokgdfkbgflaa

/-- A node of a tree. -/
structure Nd where
  path : List UInt8
  kind : Int
  data : List UInt8

/-- What paths below a path begin with. -/
def headOf (p : List UInt8) : List UInt8 := if p = [] then [] else p ++ [47]

/-- The nodes from place i on, as long as their paths begin so: where each is that has no more '/', and its name. -/
def belowFrom (head : List UInt8) : Nat → List Nd → List (Nat × List UInt8)
  | _, [] => []
  | i, n :: l =>
    if Lib.hasPrefix n.path head then
      if (n.path.drop head.length).contains 47 then belowFrom head (i + 1) l else (i, n.path.drop head.length) :: belowFrom head (i + 1) l
    else []

def wOpen : List UInt8 := [40]
def wType : List UInt8 := [116, 121, 112, 101]
def wRegular : List UInt8 := [114, 101, 103, 117, 108, 97, 114]
def wContents : List UInt8 := [99, 111, 110, 116, 101, 110, 116, 115]
def wExec : List UInt8 := [101, 120, 101, 99, 117, 116, 97, 98, 108, 101]
def wSymlink : List UInt8 := [115, 121, 109, 108, 105, 110, 107]
def wTarget : List UInt8 := [116, 97, 114, 103, 101, 116]
def wDir : List UInt8 := [100, 105, 114, 101, 99, 116, 111, 114, 121]
def wEntry : List UInt8 := [101, 110, 116, 114, 121]
def wName : List UInt8 := [110, 97, 109, 101]
def wNode : List UInt8 := [110, 111, 100, 101]
def wShut : List UInt8 := [41]
def wMark : List UInt8 := [110, 105, 120, 45, 97, 114, 99, 104, 105, 118, 101, 45, 49]

/-- The bytes of a node that is no directory, behind its type. -/
def leafB (n : Nd) : List UInt8 :=
  if n.kind = 1 then strsB [wRegular, wContents, n.data]
  else if n.kind = 2 then strsB [wRegular, wExec, [], wContents, n.data]
  else strsB [wSymlink, wTarget, n.data]

/-- The bytes of an entry, around those of its node. -/
def entryB (name body : List UInt8) : List UInt8 := strsB [wEntry, wOpen, wName, name, wNode] ++ body ++ strsB [wShut]

/-- The bytes of the node at a place. -/
def packN : Nat → List Nd → Nat → List UInt8
  | 0, _, _ => []
  | f + 1, l, i =>
    match l[i]? with
    | none => []
    | some n =>
      strsB [wOpen, wType] ++ (if n.kind = 1 ∨ n.kind = 2 ∨ n.kind = 3 then leafB n
        else strsB [wDir] ++ (belowFrom (headOf n.path) (i + 1) (l.drop (i + 1))).flatMap (fun x => entryB x.2 (packN f l x.1))) ++ strsB [wShut]

theorem belowFrom_gt (head : List UInt8) : ∀ (l : List Nd) (i : Nat) (x : Nat × List UInt8), x ∈ belowFrom head i l → i ≤ x.1 ∧ x.1 < i + l.length
  | [], _, _, h => by simp [belowFrom] at h
  | n :: l, i, x, h => by
    unfold belowFrom at h
    split at h
    · split at h
      · have := belowFrom_gt head l (i + 1) x h
        simp only [List.length_cons]; omega
      · rcases List.mem_cons.mp h with rfl | h
        · simp
        · have := belowFrom_gt head l (i + 1) x h
          simp only [List.length_cons]; omega
    · simp at h

/-- More fuel tells the same. -/
theorem packN_more : ∀ (f g : Nat) (l : List Nd) (i : Nat), i < l.length → l.length - i ≤ f → l.length - i ≤ g → packN f l i = packN g l i
  | 0, _, l, i, h, hf, _ => by omega
  | _ + 1, 0, l, i, h, _, hg => by omega
  | f + 1, g + 1, l, i, h, hf, hg => by
    unfold packN
    rw [List.getElem?_eq_getElem h]
    simp only
    congr 2
    split
    · rfl
    · congr 1
      have : ∀ x ∈ belowFrom (headOf (l[i]).path) (i + 1) (l.drop (i + 1)), entryB x.2 (packN f l x.1) = entryB x.2 (packN g l x.1) := by
        intro x hx
        have hb := belowFrom_gt _ _ _ _ hx
        rw [List.length_drop] at hb
        rw [packN_more f g l x.1 (by omega) (by omega) (by omega)]
      rw [List.flatMap_def, List.flatMap_def, List.map_congr_left this]
end Go.Proofs.Ytncokgdfkbgflaa
