/- A lexicon and a line that come in. -/
import Derived.Test.YtpmfjndbckblfaaDoorOpen
namespace Go.Proofs.YtpmfjndbckblfaaDoor
open Go.ChangeShapes Go.WideShapes Go.ChangeAt Go.RowKit Go.Joins Go.Deep

set_option maxRecDepth 100000
section
variable {H : Type} {enc : TypeId × Value → H} {w : World} {base : Nat} {spare : Nat → Bool} {held : Bool}
theorem row_lexicon {n : Nat} {c0 c1 c2 : Value} {y : DataW H × List MemPlace} (h : DataW.trod enc Tryd.prog w base spare held n 26 [c0, c1, c2] = some y) : ∃ x : Lx.Lexicon, RdL w w.heap.size (.agg #[c0, c1, c2]) x := by
  obtain ⟨xs, m, hxl, hf⟩ := fields_of Tryd.underlying26 (by kernel_rfl) h
  match xs, hxl with
  | [y0, y1, y2], _ =>
    have g0 := hf 0 _ rfl
    have g1 := hf 1 _ rfl
    have g2 := hf 2 _ rfl
    obtain ⟨es, he, hfe⟩ := open_rds (en := encEntry) (fits := Lx.Entry.fits) Tryd.underlying22 (by kernel_rfl) (by decide) (fun _ => rfl) (fun n cs d p hl h => row_entry hl h) (show DataW.trod enc Tryd.prog w base spare held m 22 [c0] = some y0 from g0)
    obtain ⟨ns, hn, hfn⟩ := open_rds (en := encEnding) (fits := Lx.Ending.fits) Tryd.underlying23 (by kernel_rfl) (by decide) (fun _ => rfl) (fun n cs d p hl h => row_ending hl h) (show DataW.trod enc Tryd.prog w base spare held m 23 [c1] = some y1 from g1)
    obtain ⟨cs, hc, hfc⟩ := open_rds (en := encClitic) (fits := Lx.Clitic.fits) Tryd.underlying24 (by kernel_rfl) (by decide) (fun _ => rfl) (fun n cs d p hl h => row_clitic hl h) (show DataW.trod enc Tryd.prog w base spare held m 24 [c2] = some y2 from g2)
    exact ⟨⟨es, ns, cs⟩, ⟨⟨c0, c1, c2, rfl, he, hn, hc⟩, hfe, hfn, hfc⟩⟩
/-- A lexicon and a line. -/
theorem open_said {r : Reach} {b0 : Nat} {v : Value} {d : DataW H} {p : List MemPlace} (hv : Value.okWide Tryd.prog w r b0 40 v) (h : DataW.Trod enc Tryd.prog w base spare held 40 v d p) :
    ∃ (y : Lx.Lexicon × ByteArray), (∃ v0 v1 v2, v = .agg #[v0, v1, v2, .string y.2] ∧ RdL w w.heap.size (.agg #[v0, v1, v2]) y.1) ∧ y.2.size ≤ maxLen := by
  obtain ⟨cs, rfl, hsz⟩ := okWide_struct Tryd.underlying40 hv
  obtain ⟨c0, c1, c2, c3, rfl⟩ := array4 (hsz.trans (by kernel_rfl))
  obtain ⟨fuel, hf⟩ := h
  obtain ⟨y0, y1, n, hx, _, h0, h1⟩ := trod_struct2 Tryd.underlying40 hf
  obtain ⟨x, hxx⟩ := row_lexicon (y := y0) (n := n) (c0 := c0) (c1 := c1) (c2 := c2) (enc := enc) (base := base) (spare := spare) (held := held) h0
  obtain ⟨s, e, _, hs⟩ := DataW.trod_string Tryd.underlying9 (show DataW.trod enc Tryd.prog w base spare held n 9 [c3] = some y1 from h1)
  cases e
  exact ⟨(x, s), ⟨_, _, _, rfl, hxx⟩, hs⟩
end
end Go.Proofs.YtpmfjndbckblfaaDoor
