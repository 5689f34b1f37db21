/- All matches of a line: plain notions. -/
import Derived.Test.YtpmnpnlfgfleeaaDoorMgMatchPlain
namespace Lx
/-- is the q-th ending (0: none) of another kind than the entry? -/
def skipB (x : Lexicon) (e : Entry) (q : Nat) : Bool := decide (0 < q) && (match x.endings[q - 1]? with
  | some g => decide (g.kind ≠ e.kind)
  | none => false)
/-- the forms of entry i with the q-th ending (0: none) whose sounds begin s -/
def matchesQ (x : Lexicon) (s : ByteArray) (i : Nat) (e : Entry) (q : Nat) : List Match :=
  if skipB x e q = true then []
  else if pre s 0 (stemV x ⟨(i : Int), (q : Int) - 1, []⟩) then leanF x s 3 ⟨(i : Int), (q : Int) - 1, [], (stemV x ⟨(i : Int), (q : Int) - 1, []⟩).size⟩ 0 else []
def matchesTo (x : Lexicon) (s : ByteArray) (i : Nat) (e : Entry) (n : Nat) : List Match := (List.range n).flatMap (matchesQ x s i e)
def matchesE (x : Lexicon) (s : ByteArray) (i : Nat) : List Match := match x.entries[i]? with
  | some e => if pre s 0 e.root then matchesTo x s i e (x.endings.length + 1) else []
  | none => []
def matchesN (x : Lexicon) (s : ByteArray) (n : Nat) : List Match := (List.range n).flatMap (matchesE x s)
def matchesV (x : Lexicon) (s : ByteArray) : List Match := matchesN x s x.entries.length
theorem matchesTo_zero (x : Lexicon) (s : ByteArray) (i : Nat) (e : Entry) : matchesTo x s i e 0 = [] := rfl
theorem matchesTo_succ (x : Lexicon) (s : ByteArray) (i : Nat) (e : Entry) (n : Nat) : matchesTo x s i e (n + 1) = matchesTo x s i e n ++ matchesQ x s i e n := by
  simp [matchesTo, List.range_succ, List.flatMap_append]
theorem matchesN_zero (x : Lexicon) (s : ByteArray) : matchesN x s 0 = [] := rfl
theorem matchesN_succ (x : Lexicon) (s : ByteArray) (n : Nat) : matchesN x s (n + 1) = matchesN x s n ++ matchesE x s n := by
  simp [matchesN, List.range_succ, List.flatMap_append]
theorem matchesE_yes {x : Lexicon} {s : ByteArray} {i : Nat} {e : Entry} (he : x.entries[i]? = some e) (hp : pre s 0 e.root = true) : matchesE x s i = matchesTo x s i e (x.endings.length + 1) := by
  simp [matchesE, he, hp]
theorem matchesE_no {x : Lexicon} {s : ByteArray} {i : Nat} {e : Entry} (he : x.entries[i]? = some e) (hp : pre s 0 e.root = false) : matchesE x s i = [] := by
  simp [matchesE, he, hp]
theorem matchesQ_len (x : Lexicon) (s : ByteArray) (hn : x.clitics.length ≤ 10) (i : Nat) (e : Entry) (q : Nat) : (matchesQ x s i e q).length ≤ 1331 := by
  unfold matchesQ
  split
  · simp
  · split
    · exact leanF_len x s hn 3 _ _
    · simp
theorem matchesTo_len (x : Lexicon) (s : ByteArray) (hn : x.clitics.length ≤ 10) (i : Nat) (e : Entry) (n : Nat) : (matchesTo x s i e n).length ≤ n * 1331 := by
  have := flatMap_len (f := matchesQ x s i e) (B := 1331) (List.range n) (fun q _ => matchesQ_len x s hn i e q)
  rwa [List.length_range] at this
theorem matchesE_len (x : Lexicon) (s : ByteArray) (hn : x.clitics.length ≤ 10) (hm : x.endings.length ≤ 40) (i : Nat) : (matchesE x s i).length ≤ 54571 := by
  unfold matchesE
  split
  · split
    · have := matchesTo_len x s hn i ‹_› (x.endings.length + 1); omega
    · simp
  · simp
theorem matchesN_len (x : Lexicon) (s : ByteArray) (hn : x.clitics.length ≤ 10) (hm : x.endings.length ≤ 40) (n : Nat) : (matchesN x s n).length ≤ n * 54571 := by
  have := flatMap_len (f := matchesE x s) (B := 54571) (List.range n) (fun q _ => matchesE_len x s hn hm q)
  rwa [List.length_range] at this
theorem tooMany_no {x : Lexicon} (h : tooMany x = false) : x.entries.length ≤ 200 ∧ x.endings.length ≤ 40 ∧ x.clitics.length ≤ 10 := by
  simp [tooMany] at h; omega
def skipP (x : Lexicon) (e : Entry) (p : Int) : Bool := decide (0 ≤ p) && (match x.endings[p.toNat]? with
  | some g => decide (g.kind ≠ e.kind)
  | none => false)
theorem skipP_eq (x : Lexicon) (e : Entry) {p : Int} (h : -1 ≤ p) : skipB x e (p + 1).toNat = skipP x e p := by
  unfold skipB skipP
  rw [show (p + 1).toNat - 1 = p.toNat by omega, show decide (0 < (p + 1).toNat) = decide (0 ≤ p) by simp; omega]
theorem matchesTo_next {x : Lexicon} {s : ByteArray} {i : Nat} {e : Entry} {p : Int} (h : -1 ≤ p) : matchesTo x s i e (p + 1 + 1).toNat = matchesTo x s i e (p + 1).toNat ++ matchesQ x s i e (p + 1).toNat := by
  rw [show (p + 1 + 1).toNat = (p + 1).toNat + 1 by omega, matchesTo_succ]
theorem matchesQ_skip {x : Lexicon} {s : ByteArray} {i : Nat} {e : Entry} {p : Int} (h : -1 ≤ p) (hs : skipP x e p = true) : matchesQ x s i e (p + 1).toNat = [] := by
  rw [matchesQ, skipP_eq x e h, if_pos hs]
theorem matchesQ_no {x : Lexicon} {s : ByteArray} {i : Nat} {e : Entry} {p : Int} (h : -1 ≤ p) (hs : skipP x e p = false) (hp : pre s 0 (stemV x ⟨(i : Int), p, []⟩) = false) : matchesQ x s i e (p + 1).toNat = [] := by
  rw [matchesQ, skipP_eq x e h, if_neg (by simp [hs]), show (((p + 1).toNat : Nat) : Int) - 1 = p by omega, if_neg (by simp [hp])]
theorem matchesQ_yes {x : Lexicon} {s : ByteArray} {i : Nat} {e : Entry} {p : Int} (h : -1 ≤ p) (hs : skipP x e p = false) (hp : pre s 0 (stemV x ⟨(i : Int), p, []⟩) = true) : matchesQ x s i e (p + 1).toNat = leanF x s 3 ⟨(i : Int), p, [], (stemV x ⟨(i : Int), p, []⟩).size⟩ 0 := by
  rw [matchesQ, skipP_eq x e h, if_neg (by simp [hs]), show (((p + 1).toNat : Nat) : Int) - 1 = p by omega, if_pos hp]
end Lx
