/- An error value of the program (plain seat: no errors.As). -/
import Derived.Test.YtnfnebfioibndaaBase
import Derived.Lib.Hide
namespace Go.Proofs.Ytnfnebfioibndaa
open Go.RowKit

/-- An error value of the program: its number, and its place (-1: none). -/
inductive ErrV (w : World) : Value → Int → Int → Prop
  | nil : ErrV w .nilIface 0 (-1)
  | no (e : Int) : ErrV w (.iface 55 (.int .i64 e)) e (-1)
  | at (b o : Nat) (e p : Int) (h0 : w.cell? ⟨b, o, none⟩ = some (.int .i64 e)) (h1 : w.cell? ⟨b, o + 1, none⟩ = some (.int .i64 p)) (hb : b < w.heap.size) : ErrV w (.iface 56 (.pointer (some ⟨b, o, none⟩))) e p
end Go.Proofs.Ytnfnebfioibndaa
