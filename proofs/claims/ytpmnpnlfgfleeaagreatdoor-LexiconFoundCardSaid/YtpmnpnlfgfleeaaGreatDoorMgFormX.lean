/- A form as a value; what reading a gloss gives. -/
import Derived.Test.YtpmnpnlfgfleeaaGreatDoorMgStem
import Derived.Test.YtpmnpnlfgfleeaaGreatDoorMgCuts
import Derived.Test.YtpmnpnlfgfleeaaGreatDoorMgGlossLaw
namespace Go.Proofs.YtpmnpnlfgfleeaaGreatDoor
open Go.RowKit

/-- a form as a value -/
def FormX (w : World) (ok : Nat → Prop) (v : Value) (f : Lx.Form) : Prop := ∃ s, v = .agg #[.int .i64 f.entry, .int .i64 f.ending, s] ∧ RdX w ok 1 encInt s f.clitics
theorem FormX.keep {w w' : World} {ok ok' : Nat → Prop} {v : Value} {f : Lx.Form} (h : FormX w ok v f) (hk : ∀ b, ok b → ok' b ∧ w'.heap[b]? = w.heap[b]?) : FormX w' ok' v f := by
  obtain ⟨s, e, h⟩ := h
  exact ⟨s, e, h.keep hk⟩
theorem FormX.rd {w : World} {ok : Nat → Prop} {v : Value} {f : Lx.Form} {B : Nat} (h : FormX w ok v f) (hB : ∀ b, ok b → b < B) : RdF w B v f := by
  obtain ⟨s, e, h⟩ := h
  exact ⟨⟨s, e, h.to hB⟩⟩
def FormIn (w : World) (f : Lx.Form) (w' : World) (v : Value) : Prop := FormX w' (fun b => b < w'.heap.size ∧ w.heap.size ≤ b) v f
/-- what ParseGloss hands back -/
def RetFG (x : Lx.Lexicon) (s : ByteArray) (w : World) (e : Ending) (w' : World) : Prop := ∃ v f n, e = .returned (.tuple #[v, .int .i64 n]) ∧ Lx.ReadG x s f n ∧ FormIn w f w' v ∧ Below w.heap.size w w'
/-- block B holds a form whose clitics lie elsewhere, at or beyond S0 -/
def FBox (w : World) (B S0 : Nat) (f : Lx.Form) : Prop := ∃ sv, w.heap[B]? = some (.cells #[.int .i64 f.entry, .int .i64 f.ending, sv] 29 (0, 0)) ∧ RdX w (fun b => b < w.heap.size ∧ S0 ≤ b ∧ b ≠ B) 1 encInt sv f.clitics
theorem FBox.keep {w w' : World} {B S0 : Nat} {f : Lx.Form} (h : FBox w B S0 f) (hb : Below w.heap.size w w') : FBox w' B S0 f := by
  obtain ⟨sv, h1, h2⟩ := h
  have hB : B < w.heap.size := (Array.getElem?_eq_some_iff.1 h1).1
  exact ⟨sv, (hb.block B hB).trans h1, h2.keep fun b hk => ⟨⟨Nat.lt_of_lt_of_le hk.1 hb.size, hk.2⟩, hb.block b hk.1⟩⟩
theorem form_cells {w : World} {B : Nat} {a b : Int} {sv : Value} (h : w.heap[B]? = some (.cells #[.int .i64 a, .int .i64 b, sv] 29 (0, 0))) :
    w.cell? ⟨B, 0, none⟩ = some (.int .i64 a) ∧ w.cell? ⟨B, 1, none⟩ = some (.int .i64 b) ∧ w.cell? ⟨B, 2, none⟩ = some sv ∧ w.frozen? ⟨B, 0, none⟩ = false ∧ w.frozen? ⟨B, 1, none⟩ = false ∧ w.frozen? ⟨B, 2, none⟩ = false :=
  ⟨by simp [World.cell?, h], by simp [World.cell?, h], by simp [World.cell?, h], by simp [World.frozen?, h], by simp [World.frozen?, h], by simp [World.frozen?, h]⟩
theorem form_rd {w : World} {S0 B : Nat} {f : Lx.Form} {sv : Value} (h : RdX w (fun b => b < w.heap.size ∧ S0 ≤ b ∧ b ≠ B) 1 encInt sv f.clitics) : RdF w w.heap.size (.agg #[.int .i64 f.entry, .int .i64 f.ending, sv]) f :=
  ⟨⟨_, rfl, h.to fun _ hb => hb.1⟩⟩
theorem zero_in (w w' : World) : FormIn w ⟨0, 0, []⟩ w' (.agg #[.int .i64 0, .int .i64 0, .slice none 0 0]) :=
  ⟨_, rfl, none, 0, rfl, by simp, by simp, fun h => absurd h (by simp)⟩
theorem ret_fg {v : Value} {n m : Int} (h : n = m) : Ending.returned (.tuple #[v, .int .i64 n]) = .returned (.tuple #[v, .int .i64 m]) := by rw [h]
end Go.Proofs.YtpmnpnlfgfleeaaGreatDoor
