
/- The macro layer: Put, whatever the macros. No condition. -/
import Derived.Test.YtkpdhpbnbpjceaaMacPut
import Derived.Test.YtkpdhpbnbpjceaaInsM
namespace Go.Proofs.Ytkpdhpbnbpjceaa
open Go.RowKit

theorem insOk (n i : Nat) (hi : i ≤ n) : InsOk n i := fun B v xs w gv a b c h1 h2 h3 h4 h5 h6 => insM_any n i hi B v xs [a, b, c] w gv h1 rfl h2 h3 h4 h5 h6
theorem mput_any (v bv : Value) (ps : List (Mac × Value)) (m : Mac) (w : World) (hl : RdM w v ps) (hb : Rt w bv m.2.2) (hbl : m.2.2.length ≤ 1000000) (hnl : m.1.length ≤ 1000000000) (hlen : ps.length ≤ 100000) (hs : Sorted (ps.map fun p => p.1.1)) :
    Calls Try.prog 27 #[v, .agg #[.string (S m.1), .int .i64 m.2.1, bv]] w fun e w' => ∃ v' qs, e = .returned (.tuple #[v', .int .i64 (putM (ps.map Prod.fst) m).2]) ∧ qs.map Prod.fst = (putM (ps.map Prod.fst) m).1 ∧ OwnM w' w.heap.size v' qs ∧ Below w.heap.size w w' :=
  put_any v bv ps m w hl hb hbl hnl hlen hs fun _ => insOk _ _ (by have := lb_le (ps.map fun p => p.1.1) m.1; simpa using this)

end Go.Proofs.Ytkpdhpbnbpjceaa
