/- Short words for rows of printed proofs. -/
import Derived.Test.YtncokgdfkbgflaaWLast
import Derived.Test.YtncokgdfkbgflaaWTab
namespace Go.Proofs.Ytncokgdfkbgflaa.P
open Go.RowKit Go.Proofs.YtncokgdfkbgflaaW.PrintWords

theorem off_ {x : Bool} {p : Prop} (h : x = false) (h0 : x = true) : p := absurd (h.symm.trans h0) (by decide)
theorem eld_ {α : Type} {d : Kd α} {e base : Nat} {W w1 : World} {ok : Nat → Prop} {u v : Value} {xs : List α} (h : d.R e W base ok u xs) (hbase : ∀ k, v.ownBlock = some k → W.heap.size ≤ k) (hb : Below W.heap.size W w1) : d.R e w1 base ok u xs :=
  Kd.R_mono (Kd.R_elder' h hbase hb) (fun _ h_ => h_.1)
end Go.Proofs.Ytncokgdfkbgflaa.P
