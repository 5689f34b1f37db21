/- Forms with given sounds: plain notions. -/
import Derived.Test.YtpmfjndbckblfaaDoorMatchesPlain
namespace Lx
/-- the lists of clitics that go on from a list and whose texts are t, one after the other -/
def tailsV (x : Lexicon) : Nat → List Int → Nat → List UInt8 → List (List Int)
  | 0, begun, _, t => if t = [] then [begun] else []
  | k + 1, begun, first, t => if t = [] then [begun] else (List.range' first (x.clitics.length - first)).flatMap fun c => match x.clitics[c]? with
      | some g => if g.text.data.toList.isPrefixOf t then tailsV x k (begun ++ [(c : Int)]) (c + 1) (t.drop g.text.size) else []
      | none => []
def tailC (x : Lexicon) (k : Nat) (begun : List Int) (t : List UInt8) (c : Nat) : List (List Int) := match x.clitics[c]? with
  | some g => if g.text.data.toList.isPrefixOf t then tailsV x k (begun ++ [(c : Int)]) (c + 1) (t.drop g.text.size) else []
  | none => []
def tailsTo (x : Lexicon) (k : Nat) (begun : List Int) (t : List UInt8) (first j : Nat) : List (List Int) := (List.range' first (j - first)).flatMap (tailC x k begun t)
theorem tailsV_nil (x : Lexicon) (k : Nat) (begun : List Int) (first : Nat) : tailsV x k begun first [] = [begun] := by
  cases k <;> simp [tailsV]
theorem tailsV_zero {x : Lexicon} {begun : List Int} {first : Nat} {t : List UInt8} (h : t ≠ []) : tailsV x 0 begun first t = [] := by simp [tailsV, h]
theorem tailsV_succ {x : Lexicon} {k : Nat} {begun : List Int} {first : Nat} {t : List UInt8} (h : t ≠ []) : tailsV x (k + 1) begun first t = tailsTo x k begun t first x.clitics.length := by
  rw [tailsV, if_neg h]; rfl
theorem tailsTo_self (x : Lexicon) (k : Nat) (begun : List Int) (t : List UInt8) (first : Nat) : tailsTo x k begun t first first = [] := by simp [tailsTo]
theorem tailsTo_succ {x : Lexicon} {k : Nat} {begun : List Int} {t : List UInt8} {first j : Nat} (h : first ≤ j) : tailsTo x k begun t first (j + 1) = tailsTo x k begun t first j ++ tailC x k begun t j := by
  unfold tailsTo
  rw [show j + 1 - first = (j - first) + 1 by omega, List.range'_concat, List.flatMap_append]
  simp [show first + (j - first) = j by omega]
theorem tailsV_len (x : Lexicon) (hn : x.clitics.length ≤ 10) : ∀ (k : Nat) (begun : List Int) (first : Nat) (t : List UInt8), (tailsV x k begun first t).length ≤ 11 ^ k
  | 0, begun, first, t => by unfold tailsV; split <;> simp
  | k + 1, begun, first, t => by
    unfold tailsV
    have hp : 0 < 11 ^ k := Nat.pow_pos (by omega)
    split
    · simp only [List.length_singleton, Nat.pow_succ]; omega
    · have h := flatMap_len (B := 11 ^ k) (f := tailC x k begun t) (List.range' first (x.clitics.length - first)) (fun c _ => by
        unfold tailC
        split
        · split
          · exact tailsV_len x hn k _ _ _
          · simp
        · simp)
      rw [List.length_range'] at h
      have h1 : (x.clitics.length - first) * 11 ^ k ≤ 10 * 11 ^ k := Nat.mul_le_mul_right _ (by omega)
      rw [Nat.pow_succ]
      exact Nat.le_trans h (by omega)
theorem tailC_len (x : Lexicon) (hn : x.clitics.length ≤ 10) (k : Nat) (begun : List Int) (t : List UInt8) (c : Nat) : (tailC x k begun t c).length ≤ 11 ^ k := by
  unfold tailC
  split
  · split
    · exact tailsV_len x hn k _ _ _
    · simp
  · simp
theorem tailsTo_len (x : Lexicon) (hn : x.clitics.length ≤ 10) (k : Nat) (begun : List Int) (t : List UInt8) (first j : Nat) : (tailsTo x k begun t first j).length ≤ (j - first) * 11 ^ k := by
  have := flatMap_len (f := tailC x k begun t) (B := 11 ^ k) (List.range' first (j - first)) (fun c _ => tailC_len x hn k begun t c)
  rwa [List.length_range'] at this
end Lx
