/-
  Merging does what it should.
-/
import Derived.Test.YthkfplkajlanoaaWSym
import Derived.Test.YthkfplkajlanoaaWKnown
namespace Go.Proofs.Ythkfplkajlanoaa

theorem symAll : SymAll := fun cf n L c w0 C hc hsz P A B S w h sa sb bef rr hA hB a m b ha hm hb hN =>
  sym_any cf n L c n w0 hc hsz _ P A B S w (Nat.le_refl _) h ⟨C, sa, sb, bef, fun x hx => rr x (List.mem_append_left _ hx), fun x hx => rr x (List.mem_append_right _ hx)⟩ hA hB a m b ha hm hb hN

end Go.Proofs.Ythkfplkajlanoaa
