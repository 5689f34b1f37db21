/- ostraconlaw05.Big; ostraconref05.Same of equal lexicons. Made by gen_big.py. slices.Equal of the lexicon's rows; lexicon.Same; ostraconref05.Same. -/
import Derived.Test.YtkmimjngmfdpmaaGreatDoorMgSounds
import Derived.Test.YtkmimjngmfdpmaaGreatDoorMgMem
import Derived.Test.YtkmimjngmfdpmaaGreatDoorMgText01
import Derived.BigQuiet
namespace Go.Proofs.YtkmimjngmfdpmaaGreatDoor
open Go.RowKit

theorem any_of {α : Type} {p : α → Bool} {xs : List α} {k : Nat} {e : α} (h : xs[k]? = some e) (hp : p e = true) : xs.any p = true :=
  List.any_eq_true.2 ⟨e, List.mem_of_getElem? h, hp⟩
theorem not_any_of {α : Type} {p : α → Bool} {xs : List α} (h : ∀ j e, j < xs.length → xs[j]? = some e → p e = false) : xs.any p = false := by
  rw [List.any_eq_false]
  intro x hx
  obtain ⟨j, hj, rfl⟩ := List.mem_iff_getElem.1 hx
  simp [h j _ hj (List.getElem?_eq_getElem hj)]
theorem nots_succ {α : Type} {p : α → Bool} {xs : List α} {k : Nat} {e : α} (h : ∀ j e, j < k → xs[j]? = some e → p e = false) (hk : xs[k]? = some e) (hp : p e = false) : ∀ j e, j < k + 1 → xs[j]? = some e → p e = false := by
  intro j z hj hz
  by_cases hjk : j = k
  · subst hjk; rw [hk] at hz; cases hz; exact hp
  · exact h j z (by omega) hz



end Go.Proofs.YtkmimjngmfdpmaaGreatDoor
namespace Go.Proofs.YtkmimjngmfdpmaaGreatDoor
open Go Go.RowKit

/-- a truth value that says p -/
def RetEq (p : Prop) (w : World) (e : Ending) (w' : World) : Prop := ∃ q : Bool, e = .returned (.bool q) ∧ (q = true ↔ p) ∧ Below w.heap.size w w'
theorem RetEq.no {p : Prop} {w w' : World} (h : ¬ p) (hb : Below w.heap.size w w') : RetEq p w (.returned (.bool false)) w' := ⟨false, rfl, by simp [h], hb⟩
theorem RetEq.yes {p : Prop} {w w' : World} (h : p) (hb : Below w.heap.size w w') : RetEq p w (.returned (.bool true)) w' := ⟨true, rfl, by simp [h], hb⟩
theorem drew_below {w : World} (n : Nat) : Below w.heap.size w (w.drewN n) := below_drewN (Below.refl _ _) n
theorem row_ne {α : Type} {xs ys : List α} {k : Nat} {e f : α} (he : xs[k]? = some e) (hf : ys[k]? = some f) (h : e ≠ f) : xs ≠ ys := by
  rintro rfl
  rw [he] at hf
  exact h (Option.some.inj hf)
theorem row_take {α : Type} {xs ys : List α} {k : Nat} {e : α} (he : xs[k]? = some e) (hf : ys[k]? = some e) (h : xs.take k = ys.take k) : xs.take (k + 1) = ys.take (k + 1) := by
  obtain ⟨h1, h2⟩ := List.getElem?_eq_some_iff.1 he
  obtain ⟨h3, h4⟩ := List.getElem?_eq_some_iff.1 hf
  rw [List.take_succ_eq_append_getElem h1, List.take_succ_eq_append_getElem h3, h, h2, h4]
theorem row_all {α : Type} {xs ys : List α} {k : Nat} (h : xs.take k = ys.take k) (h1 : xs.length ≤ k) (h2 : ys.length ≤ k) : xs = ys := by
  rwa [List.take_of_length_le h1, List.take_of_length_le h2] at h
theorem Lx.Entry_ne {e f : Lx.Entry} (h : e ≠ f) : (e.root ≠ f.root) ∨ (e.root = f.root ∧ e.kind ≠ f.kind) ∨ (e.root = f.root ∧ e.kind = f.kind ∧ e.cls ≠ f.cls) ∨ (e.root = f.root ∧ e.kind = f.kind ∧ e.cls = f.cls ∧ e.weight ≠ f.weight) := by
  by_cases q0 : e.root = f.root
  · by_cases q1 : e.kind = f.kind
    · by_cases q2 : e.cls = f.cls
      · by_cases q3 : e.weight = f.weight
        · exfalso; apply h; cases e; cases f; simp_all
        · exact .inr <| .inr <| .inr <| ⟨q0, q1, q2, q3⟩
      · exact .inr <| .inr <| .inl ⟨q0, q1, q2⟩
    · exact .inr <| .inl ⟨q0, q1⟩
  · exact .inl q0
theorem Lx.Ending_ne {e f : Lx.Ending} (h : e ≠ f) : (e.kind ≠ f.kind) ∨ (e.kind = f.kind ∧ e.text ≠ f.text) ∨ (e.kind = f.kind ∧ e.text = f.text ∧ e.name ≠ f.name) ∨ (e.kind = f.kind ∧ e.text = f.text ∧ e.name = f.name ∧ e.weight ≠ f.weight) := by
  by_cases q0 : e.kind = f.kind
  · by_cases q1 : e.text = f.text
    · by_cases q2 : e.name = f.name
      · by_cases q3 : e.weight = f.weight
        · exfalso; apply h; cases e; cases f; simp_all
        · exact .inr <| .inr <| .inr <| ⟨q0, q1, q2, q3⟩
      · exact .inr <| .inr <| .inl ⟨q0, q1, q2⟩
    · exact .inr <| .inl ⟨q0, q1⟩
  · exact .inl q0
theorem Lx.Clitic_ne {e f : Lx.Clitic} (h : e ≠ f) : (e.text ≠ f.text) ∨ (e.text = f.text ∧ e.name ≠ f.name) ∨ (e.text = f.text ∧ e.name = f.name ∧ e.weight ≠ f.weight) := by
  by_cases q0 : e.text = f.text
  · by_cases q1 : e.name = f.name
    · by_cases q2 : e.weight = f.weight
      · exfalso; apply h; cases e; cases f; simp_all
      · exact .inr <| .inr <| ⟨q0, q1, q2⟩
    · exact .inr <| .inl ⟨q0, q1⟩
  · exact .inl q0



theorem lex_eq {x y : Lx.Lexicon} : x = y ↔ x.entries = y.entries ∧ x.endings = y.endings ∧ x.clitics = y.clitics := by
  cases x; cases y; simp


end Go.Proofs.YtkmimjngmfdpmaaGreatDoor
