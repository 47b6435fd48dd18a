/- Plain words: may nodes be a tree? -/
import Derived.Test.YtncokgdfkbgflaaS1
import Derived.Test.YtncokgdfkbgflaaG3
namespace Go.Proofs.Ytncokgdfkbgflaa
set_option linter.unusedVariables false
set_option linter.unusedSimpArgs false

/-- A path cut at its last '/': what is ahead, what is behind. -/
def cutSlash : List UInt8 → Option (List UInt8 × List UInt8)
  | [] => none
  | b :: l =>
    match cutSlash l with
    | some (a, n) => some (b :: a, n)
    | none => if b = 47 then some ([], l) else none

theorem cutSlash_none : ∀ (l : List UInt8), 47 ∉ l → cutSlash l = none
  | [], _ => rfl
  | b :: l, h => by
    have h1 := cutSlash_none l (fun x => h (List.mem_cons_of_mem _ x))
    unfold cutSlash
    rw [h1]
    simp only
    rw [if_neg (fun e => h (by rw [e]; exact List.mem_cons_self))]
theorem cutSlash_some : ∀ (a n : List UInt8), 47 ∉ n → cutSlash (a ++ 47 :: n) = some (a, n)
  | [], n, h => by
    show cutSlash (47 :: n) = _
    unfold cutSlash
    rw [cutSlash_none n h]
    simp
  | b :: a, n, h => by
    show cutSlash (b :: (a ++ 47 :: n)) = _
    unfold cutSlash
    rw [cutSlash_some a n h]

/-- May a name be? -/
def mayName (s : List UInt8) : Bool := !(s == []) && (decide (s.length ≤ 255) && (!hasSep s && (!(s == [46]) && !(s == [46, 46]))))
/-- May a node be, wherever it stands? -/
def okNd (n : Nd) : Bool :=
  if n.kind = 1 ∨ n.kind = 2 then decide (n.data.length ≤ 65536)
  else if n.kind = 3 then (!(n.data == [])) && decide (n.data.length ≤ 4096) && !(hasZero n.data)
  else if n.kind = 4 then n.data == []
  else false
/-- A directory that is open: its path, the last name that came in it. -/
abbrev Lv := List UInt8 × List UInt8
/-- Where a path's parent is among directories, and its last name. -/
def withinP (op : List Lv) (p : List UInt8) : Option (Nat × List UInt8) :=
  match cutSlash p with
  | none => if idxOf (fun x : Lv => x.1 == []) op < 0 then none else some ((idxOf (fun x : Lv => x.1 == []) op).toNat, p)
  | some (a, n) => if a = [] then none else if idxOf (fun x : Lv => x.1 == a) op < 0 then none else some ((idxOf (fun x : Lv => x.1 == a) op).toNat, n)
/-- The directories that are open behind a node; none: it may not be. -/
def mayStep (op : List Lv) (n : Nd) : Option (List Lv) :=
  match withinP op n.path with
  | none => none
  | some (i, name) =>
    if mayName name && (!(Op.bytesLess name (op.getD i ([], [])).2 || name == (op.getD i ([], [])).2) && decide (i < 64)) then
      some ((op.take (i + 1)).set i ((op.getD i ([], [])).1, name) ++ (if n.kind = 4 then [(n.path, [])] else []))
    else none
def mayGo : List Lv → List Nd → Bool
  | _, [] => true
  | op, n :: l =>
    match mayStep op n with
    | none => false
    | some op' => mayGo op' l
/-- May nodes be a tree? -/
def May (l : List Nd) : Bool :=
  match l with
  | [] => false
  | n :: r => decide (l.length ≤ 256) && (n.path == [] && (l.all okNd && mayGo (if n.kind = 4 then [([], [])] else []) r))
end Go.Proofs.Ytncokgdfkbgflaa
