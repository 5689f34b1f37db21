/- Things with a byte between them, as the program's loops read them: plain.; The program's reader: its smallest functions.; The program's reader: must, digit.; The end of a code: plain. -/
import Derived.Test.YtenmkbpdkfhbjaaGreatRcCdLocal
import Derived.Test.YtenmkbpdkfhbjaaGreatRcCdMem
import Derived.Deep.QuietTactic
import Derived.BigQuiet
import Derived.Lib.SmallJoins
namespace Cd
open Go
section
variable {s : List UInt8} {p : Nat → R Item} {c : UInt8}
def restG (s : List UInt8) (p : Nat → R Item) (c : UInt8) (n k : Nat) : R (List Item) := if sees s k c = true then sepG s p c n (k + 1) else .ok [] k
def cont (xs : List Item) (r : R (List Item)) : R (List Item) := r.bind fun ys k => .ok (xs ++ ys) k
theorem sep_rest (n k : Nat) : sepG s p c (n + 1) k = (p k).bind fun x k1 => cont [x] (restG s p c n k1) := by
 rw [sepG]
 cases p k with
 | bad j => rfl
 | ok x k1 =>
  simp only [R.bind, restG, cont]
  split
  ·rfl
  ·rfl
theorem sees_lt' {k : Nat} (h : sees s k c = true) : k < s.length := by
 unfold sees at h
 exact (List.getElem?_eq_some_iff.1 (by simpa using h)).1
theorem rest_stop {n k : Nat} {xs : List Item} (h : sees s k c = false) : cont xs (restG s p c n k) = .ok xs k := by
 unfold restG cont
 rw [if_neg (by rw [h]; exact Bool.false_ne_true)]
 simp [R.bind]
theorem rest_bad {n k j : Nat} {xs : List Item} (h : sees s k c = true) (hn : s.length - k < n) (hp : p (k + 1) = .bad j) : cont xs (restG s p c n k) = .bad j := by
 have hl := sees_lt' h
 obtain ⟨m, rfl⟩ : ∃ m, n = m + 1 := ⟨n - 1, by omega⟩
 unfold restG cont
 rw [if_pos h, sep_rest, hp]
 rfl
theorem rest_more {n k k1 : Nat} {xs : List Item} {y : Item} (h : sees s k c = true) (hn : s.length - k < n) (hp : p (k + 1) = .ok y k1) (hk : k + 1 ≤ k1) :
  ∃ m, s.length - k1 < m ∧ cont xs (restG s p c n k) = cont (xs ++ [y]) (restG s p c m k1) := by
 have hl := sees_lt' h
 obtain ⟨m, rfl⟩ : ∃ m, n = m + 1 := ⟨n - 1, by omega⟩
 refine ⟨m, by omega, ?_⟩
 conv => lhs; unfold restG; rw [if_pos h, sep_rest, hp]
 simp only [R.bind]
 cases hr : restG s p c m k1 with
 | bad j => rfl
 | ok ys k2 => simp [cont, R.bind]
theorem beside_rest (ov : Nat → R (Item × Bool)) (k : Nat) : besideG s ov k = (ov k).bind fun x k1 => if x.2 = true ∧ sees s k1 42 = false then .bad k1 else (cont [x.1] (restG s (fun j => (ov j).bind fun y j1 => .ok y.1 j1) 42 (N s) k1)).bind fun xs k2 => .ok (one 2 xs) k2 := by
 unfold besideG
 generalize (fun j => (ov j).bind fun y j1 => R.ok y.1 j1) = p
 cases ov k with
 | bad j => rfl
 | ok x k1 =>
  simp only [R.bind]
  split
  ·rfl
  ·unfold restG cont
   split
   ·cases sepG s p 42 (N s) (k1 + 1) with
    | bad j => rfl
    | ok xs k2 => rfl
   ·rfl
theorem above_rest (ov : Nat → R (Item × Bool)) (within : Bool) (k : Nat) : aboveG s ov within k = (besideG s ov k).bind fun x k1 => if within = true ∧ sees s k1 58 = false then .bad k1 else (cont [x] (restG s (besideG s ov) 58 (N s) k1)).bind fun xs k2 => .ok (one 3 xs) k2 := by
 unfold aboveG
 cases besideG s ov k with
 | bad j => rfl
 | ok x k1 =>
  simp only [R.bind]
  split
  ·rfl
  ·unfold restG cont
   split
   ·cases sepG s (besideG s ov) 58 (N s) (k1 + 1) with
    | bad j => rfl
    | ok xs k2 => rfl
   ·rfl
theorem N_succ : N s = s.length + 1 := rfl
theorem sep_fuel (hp : ∀ k, k ≤ (p k).pos) : ∀ (n n' k : Nat), k ≤ s.length → s.length + 1 - k ≤ n → s.length + 1 - k ≤ n' → sepG s p c n k = sepG s p c n' k
 | 0, _, k, h, h1, _ => by omega
 | n + 1, 0, k, h, _, h2 => by omega
 | n + 1, n' + 1, k, h, h1, h2 => by
  rw [sepG, sepG]
  have hm := hp k
  cases hq : p k with
  | bad j => rfl
  | ok x k1 =>
   rw [hq] at hm
   have hk : k ≤ k1 := hm
   simp only [R.bind]
   split
   ·rename_i hs
    have hl := sees_lt' hs
    rw [sep_fuel hp n n' (k1 + 1) (by omega) (by omega) (by omega)]
   ·rfl
theorem sep_restN (hp : ∀ k, k ≤ (p k).pos) (k : Nat) : sepG s p c (N s) k = (p k).bind fun x k1 => cont [x] (restG s p c (N s) k1) := by
 have hN : N s = s.length + 1 := rfl
 conv => lhs; rw [hN]
 rw [sep_rest]
 congr 1
 funext x k1
 unfold restG
 split
 ·rename_i hs
  have hl := sees_lt' hs
  rw [sep_fuel hp s.length (N s) (k1 + 1) (by omega) (by omega) (by unfold N; omega)]
 ·rfl
end
end Cd
namespace Go.Proofs.YtenmkbpdkfhbjaaGreat
open Go Go.RowKit

theorem RdrIs.byte {R : Nat} {cv : Value} {s : ByteArray} {k : Nat} {w : World} (_h : RdrIs R cv s k w) (hlt : k < s.size) : s.data.toList[k]? = some s[k] := by
 rw [List.getElem?_eq_getElem (by simpa using hlt)]; rfl
def nextB (s : ByteArray) (k : Nat) : Int := match s.data.toList[k]? with
 | some c => c.toNat
 | none => 0
def RetN (s : ByteArray) (k : Nat) (w : World) (e : Ending) (w' : World) : Prop := e = .returned (.int .u8 (nextB s k)) ∧ Below w.heap.size w w'
def RetF (k : Nat) (w : World) (e : Ending) (w' : World) : Prop := e = .panicked (chainAt k) ∧ Below w.heap.size w w'
theorem drew_below {B : Nat} {w : World} (n : Nat) : Below B w (w.drewN n) := by
 induction n with
 | zero => exact Below.refl _ _
 | succ n ih => exact ih.drew

set_option maxRecDepth 100000 in
set_option maxHeartbeats 2000000 in
theorem fail_any (R : Nat) (cv : Value) (s : ByteArray) (k : Nat) (w : World) (h : RdrIs R cv s k w) : Calls Tryz.prog 61 #[.pointer (some ⟨R, 0, none⟩)] w (RetF k w) := by
 obtain ⟨c0, c1, c2, f2, hlt⟩ := h.at
 go_enter Tryz.func61, Tryz.ntmps61
 go_wp2
 exact ⟨rfl, rfl, Below.refl _ _⟩
set_option maxRecDepth 100000 in
set_option maxHeartbeats 2000000 in
theorem next_any (R : Nat) (cv : Value) (s : ByteArray) (k : Nat) (w : World) (h : RdrIs R cv s k w) : Calls Tryz.prog 152 #[.pointer (some ⟨R, 0, none⟩)] w (RetN s k w) := by
 obtain ⟨c0, c1, c2, f2, hlt⟩ := h.at
 have hk := h.le
 by_cases hend : k = s.size
 ·have hq : ((k : Int) == (s.size : Int)) = true := by simp [hend]
  have hn : Hid (nextB s k = 0) := Lib.hid (by unfold nextB; rw [List.getElem?_eq_none (by rw [hend]; simp)])
  clear hend
  go_enter Tryz.func152, Tryz.ntmps152
  go_wp2
  go_quiet (fail)
  go_wp2
  go_ret
  exact ⟨by rw [hn.out]; rfl, drew_below _⟩
 ·have hq : ((k : Int) == (s.size : Int)) = false := by simp; omega
  have hl : k < s.size := by omega
  have hn : Hid (nextB s k = (s[k].toNat : Int)) := Lib.hid (by unfold nextB; rw [h.byte hl])
  have hl0 : (0 : Int) ≤ (k : Int) := by omega
  have hl1 : (k : Int) < (s.size : Int) := by omega
  clear hend
  go_enter Tryz.func152, Tryz.ntmps152
  go_wp2
  go_quiet (fail)
  go_wp2
  go_quiet (fail)
  go_wp2
  go_ret
  exact ⟨by rw [hn.out]; rfl, (drew_below _).trans (drew_below _)⟩
def RetIs (R : Nat) (cv : Value) (s : ByteArray) (k : Nat) (c : UInt8) (w : World) (e : Ending) (w' : World) : Prop :=
 e = .returned (.bool (Cd.sees s.data.toList k c)) ∧ w.grownBy w' (some R) ∧ RdrIs R cv s (if Cd.sees s.data.toList k c = true then k + 1 else k) w' ∧ w'.heap.size = w.heap.size
theorem grown_refl (w : World) (row : Option Nat) : w.grownBy w row := World.grownBy.refl w row
theorem grown_set (w : World) (R o : Nat) (v : Value) : w.grownBy (w.setCell ⟨R, o, none⟩ v) (some R) :=
 ⟨rfl, rfl, rfl, by simp [World.setCell], fun i _ hne => Below.heap_setCell _ ⟨R, o, none⟩ _ _ (fun e => hne (by rw [e]))⟩
theorem size_set (w : World) (a : Addr) (v : Value) : (w.setCell a v).heap.size = w.heap.size := by simp [World.setCell]
theorem RdrIs.put {R : Nat} {cv : Value} {s : ByteArray} {k : Nat} {w : World} (h : RdrIs R cv s k w) {k' : Nat} (hk : k' ≤ s.size) : RdrIs R cv s k' (w.setCell ⟨R, 2, none⟩ (.int .i64 k')) := ⟨Go.Joins.block_setCell h.cells _, hk⟩
theorem RdrIs.next {R : Nat} {cv : Value} {s : ByteArray} {k : Nat} {w w1 : World} (h : RdrIs R cv s k w) (hb : w1.heap[R]? = w.heap[R]?) (hk : k < s.size) : RdrIs R cv s (k + 1) (w1.setCell ⟨R, 2, none⟩ (.int .i64 ((k : Int) + 1))) := (h.keep hb).put (k' := k + 1) hk
set_option maxRecDepth 100000 in
set_option maxHeartbeats 2000000 in
theorem is_any (R : Nat) (cv : Value) (s : ByteArray) (k : Nat) (c : UInt8) (w : World) (h : RdrIs R cv s k w) (hs : s.size ≤ 1000000) : Calls Tryz.prog 142 #[.pointer (some ⟨R, 0, none⟩), .int .u8 c.toNat] w (RetIs R cv s k c w) := by
 obtain ⟨c0, c1, c2, f2, hlt⟩ := h.at
 have hk := h.le
 have HR := Lib.hid h
 by_cases hend : k < s.size
 ·have hq : decide ((k : Int) < (s.size : Int)) = true := by simpa using hend
  have hl0 : (0 : Int) ≤ (k : Int) := by omega
  have hl1 : (k : Int) < (s.size : Int) := by omega
  have hby := Lib.hid (h.byte hend)
  clear h
  cases hsee : Cd.sees s.data.toList k c
  ·have hne : (((s[k].toNat : Nat) : Int) == (c.toNat : Int)) = false := by
    rw [Cd.sees, hby.out] at hsee
    simp at hsee ⊢
    intro e
    exact hsee (UInt8.toNat_inj.1 (by omega))
   have HS := Lib.hid hsee
   clear hsee
   go_enter Tryz.func142, Tryz.ntmps142
   go_wp2
   go_quiet (fail)
   go_wp2
   go_ret
   exact ⟨by rw [HS.out]; rfl, grown_of_below (drew_below _), by rw [if_neg (by rw [HS.out]; exact Bool.false_ne_true)]; exact HR.out.keep rfl, rfl⟩
  ·have hne : (((s[k].toNat : Nat) : Int) == (c.toNat : Int)) = true := by
    rw [Cd.sees, hby.out] at hsee
    simp at hsee ⊢
    rw [hsee]
   have HS := Lib.hid hsee
   clear hsee
   go_enter Tryz.func142, Tryz.ntmps142
   go_wp2
   go_quiet (fail)
   go_wp2
   go_ret
   exact ⟨by rw [HS.out]; rfl, grown_after (grown_of_below (drew_below _)) (grown_set _ _ _ _) (.inl rfl), by rw [if_pos HS.out]; exact HR.out.next rfl hend, size_set _ _ _⟩
 ·have hq : decide ((k : Int) < (s.size : Int)) = false := by simpa using hend
  have hq2 : decide (k < s.size) = false := by simpa using hend
  have HS : Hid (Cd.sees s.data.toList k c = false) := Lib.hid (by
   cases hsee : Cd.sees s.data.toList k c with
   | false => rfl
   | true => have := Cd.sees_lt' hsee; simp at this; omega)
  clear h hend
  go_enter Tryz.func142, Tryz.ntmps142
  go_wp2
  go_quiet (fail)
  go_wp2
  go_ret
  exact ⟨by rw [HS.out]; rfl, grown_of_below (drew_below _), by rw [if_neg (by rw [HS.out]; exact Bool.false_ne_true)]; exact HR.out.keep rfl, rfl⟩
end Go.Proofs.YtenmkbpdkfhbjaaGreat
namespace Go.Proofs.YtenmkbpdkfhbjaaGreat
open Go Go.RowKit

def vlU (_ : World) (_ : Nat → Prop) (v : Value) (_ : Unit) : Prop := v = .tuple #[]
def vlN (_ : World) (_ : Nat → Prop) (v : Value) (n : Int) : Prop := v = .int .i64 n
theorem grown_below {w w1 w2 : World} {row : Option Nat} (h : w.grownBy w1 row) (hb : Below w1.heap.size w1 w2) : w.grownBy w2 row := by
 have := grown_after h (grown_of_below (row := row) hb) (.inl rfl)
 exact this
theorem grown_trans {w w1 w2 : World} {row : Option Nat} (h : w.grownBy w1 row) (k : w1.grownBy w2 row) : w.grownBy w2 row := grown_after h k (.inl rfl)
theorem nextB_eq {s : ByteArray} {k : Nat} {c : UInt8} (h : s.data.toList[k]? = some c) : nextB s k = (c.toNat : Int) := by unfold nextB; rw [h]

set_option maxRecDepth 100000 in
set_option maxHeartbeats 2000000 in
theorem must_any (R : Nat) (cv : Value) (s : ByteArray) (k : Nat) (c : UInt8) (w : World) (h : RdrIs R cv s k w) (hs : s.size ≤ 1000000) :
  Calls Tryz.prog 145 #[.pointer (some ⟨R, 0, none⟩), .int .u8 c.toNat] w (RetP R cv s vlU (Cd.must s.data.toList k c) w) := by
 have HI := Lib.hid (is_any R cv s k c w h hs)
 cases hsee : Cd.sees s.data.toList k c
 ·have HS := Lib.hid hsee
  have HQ : Hid (Cd.must s.data.toList k c = .bad k) := Lib.hid (by unfold Cd.must; rw [if_neg (by rw [hsee]; exact Bool.false_ne_true)])
  clear hsee h
  go_enter Tryz.func145, Tryz.ntmps145
  go_wp2_with fail
  refine HI.out.mono ?_
  rintro e w1 ⟨he, hg, hr, -⟩
  rw [HS.out] at he hr
  subst he
  rw [if_neg Bool.false_ne_true] at hr
  have HF := Lib.hid (fail_any R cv s k w1 hr)
  have HG := Lib.hid hg
  clear hg hr
  go_wp2_with fail
  refine HF.out.mono ?_
  rintro e w2 ⟨rfl, hb⟩
  rw [HQ.out]
  exact ⟨rfl, grown_below HG.out hb, rfl⟩
 ·have HS := Lib.hid hsee
  have HQ : Hid (Cd.must s.data.toList k c = .ok () (k + 1)) := Lib.hid (by unfold Cd.must; rw [if_pos hsee])
  clear hsee h
  go_enter Tryz.func145, Tryz.ntmps145
  go_wp2_with fail
  refine HI.out.mono ?_
  rintro e w1 ⟨he, hg, hr, -⟩
  rw [HS.out] at he hr
  subst he
  rw [if_pos rfl] at hr
  have HG := Lib.hid hg
  have HR := Lib.hid hr
  clear hg hr
  go_wp2_with fail
  go_end0
  rw [HQ.out]
  exact ⟨HG.out, HR.out, _, rfl, rfl⟩
theorem nextB_bd (s : ByteArray) (k : Nat) : 0 ≤ nextB s k ∧ nextB s k ≤ 255 := by
 unfold nextB
 split
 ·rename_i c _
  have : c.toNat < 256 := UInt8.toNat_lt c
  omega
 ·omega
theorem nextB_lt {s : ByteArray} {k : Nat} (h : 0 < nextB s k) : k < s.size := by
 unfold nextB at h
 split at h
 ·rename_i c hc
  have := (List.getElem?_eq_some_iff.1 hc).1
  simpa using this
 ·omega
theorem digit_next {s : ByteArray} {k : Nat} {lo hi : UInt8} (hl : 48 ≤ lo) : Cd.digitG s.data.toList lo hi k = if (lo.toNat : Int) ≤ nextB s k ∧ nextB s k ≤ (hi.toNat : Int) then .ok (nextB s k - 48) (k + 1) else .bad k := by
 unfold Cd.digitG nextB
 have hl' : 48 ≤ lo.toNat := UInt8.le_iff_toNat_le.1 hl
 cases s.data.toList[k]? with
 | none => simp only; rw [if_neg (by omega)]
 | some c =>
  simp only [UInt8.le_iff_toNat_le]
  by_cases h : lo.toNat ≤ c.toNat ∧ c.toNat ≤ hi.toNat
  ·rw [if_pos h, if_pos (by omega)]
  ·rw [if_neg h, if_neg (by omega)]
set_option maxRecDepth 100000 in
set_option maxHeartbeats 2000000 in
theorem digit_any (R : Nat) (cv : Value) (s : ByteArray) (k : Nat) (lo hi : UInt8) (w : World) (h : RdrIs R cv s k w) (hs : s.size ≤ 1000000) (hl : 48 ≤ lo) :
  Calls Tryz.prog 162 #[.pointer (some ⟨R, 0, none⟩), .int .u8 lo.toNat, .int .u8 hi.toNat] w (RetP R cv s vlN (Cd.digitG s.data.toList lo hi k) w) := by
 have HN := Lib.hid (next_any R cv s k w h)
 obtain ⟨c0, c1, c2, f2, hlt⟩ := h.at
 have HR := Lib.hid h
 have hk := h.le
 have hl' : 48 ≤ lo.toNat := UInt8.le_iff_toNat_le.1 hl
 have HQ := Lib.hid (digit_next (s := s) (k := k) (hi := hi) hl)
 have hbd := nextB_bd s k
 have hlt' := @nextB_lt s k
 have hhi : hi.toNat < 256 := UInt8.toNat_lt hi
 unfold RetN at HN
 clear h hl
 generalize nextB s k = m at HN HQ hbd hlt'
 by_cases hin : (lo.toNat : Int) ≤ m ∧ m ≤ (hi.toNat : Int)
 ·have hQ := HQ.out
  rw [if_pos hin] at hQ
  have HQ := Lib.hid hQ
  have g1 : decide (m < (lo.toNat : Int)) = false := by simp; omega
  have g2 : decide ((hi.toNat : Int) < m) = false := by simp; omega
  have g3 : 48 ≤ m := by omega
  have g4 : m ≤ 255 := by omega
  have hks : k < s.size := hlt' (by omega)
  clear hQ hlt' hin c0 c1 c2 f2
  go_enter Tryz.func162, Tryz.ntmps162
  go_wp2_with fail
  refine HN.out.mono ?_
  rintro e w1 ⟨rfl, hb⟩
  obtain ⟨c0, c1, c2, f2, hlt1⟩ := (HR.out.keep (hb.block R hlt)).at
  have HR1 := Lib.hid (HR.out.keep (hb.block R hlt))
  have HB := Lib.hid hb
  clear hb
  go_wp2_with fail
  go_ret
  rw [HQ.out]
  exact ⟨grown_after (grown_of_below HB.out) (grown_set _ _ _ _) (.inl rfl), HR1.out.next rfl hks, _, rfl, rfl⟩
 ·have hQ := HQ.out
  rw [if_neg hin] at hQ
  have HQ := Lib.hid hQ
  clear hQ hlt' c0 c1 c2 f2
  by_cases hlo : m < (lo.toNat : Int)
  ·have g1 : decide (m < (lo.toNat : Int)) = true := by simpa using hlo
   go_enter Tryz.func162, Tryz.ntmps162
   go_wp2_with fail
   refine HN.out.mono ?_
   rintro e w1 ⟨rfl, hb⟩
   have HF := Lib.hid (fail_any R cv s k w1 (HR.out.keep (hb.block R hlt)))
   have HB := Lib.hid hb
   clear hb
   go_wp2_with fail
   refine HF.out.mono ?_
   rintro e w2 ⟨rfl, hb2⟩
   rw [HQ.out]
   exact ⟨rfl, grown_below (grown_of_below HB.out) hb2, rfl⟩
  ·have g1 : decide (m < (lo.toNat : Int)) = false := by simpa using hlo
   have g2 : decide ((hi.toNat : Int) < m) = true := by simp; omega
   go_enter Tryz.func162, Tryz.ntmps162
   go_wp2_with fail
   refine HN.out.mono ?_
   rintro e w1 ⟨rfl, hb⟩
   have HF := Lib.hid (fail_any R cv s k w1 (HR.out.keep (hb.block R hlt)))
   have HB := Lib.hid hb
   clear hb
   go_wp2_with fail
   refine HF.out.mono ?_
   rintro e w2 ⟨rfl, hb2⟩
   rw [HQ.out]
   exact ⟨rfl, grown_below (grown_of_below HB.out) hb2, rfl⟩
end Go.Proofs.YtenmkbpdkfhbjaaGreat
namespace Cd
open Go
section
variable {s : List UInt8}
theorem code_len (k : Nat) : codeEnd s k ≤ k + 8 := by
 unfold codeEnd
 have h1 := Tx.tw_le wordB ((s.drop (k + 1)).take 7)
 have h2 : ((s.drop (k + 1)).take 7).length ≤ 7 := List.length_take_le _ _
 omega
theorem code_le {k : Nat} (h : k < s.length) : codeEnd s k ≤ s.length := by
 unfold codeEnd
 have h1 := Tx.tw_le wordB ((s.drop (k + 1)).take 7)
 have h2 : ((s.drop (k + 1)).take 7).length ≤ s.length - (k + 1) := by rw [List.length_take, List.length_drop]; omega
 omega
theorem code_in {k j : Nat} (h1 : k < j) (h2 : j < codeEnd s k) : j - k < 8 ∧ ∃ b, s[j]? = some b ∧ wordB b = true := by
 have h8 := code_len (s := s) k
 refine ⟨by omega, ?_⟩
 unfold codeEnd at h2
 obtain ⟨a, ha, hp⟩ := Tx.tw_in wordB ((s.drop (k + 1)).take 7) (j - (k + 1)) (by omega)
 rw [List.getElem?_take] at ha
 split at ha
 ·rw [List.getElem?_drop, show k + 1 + (j - (k + 1)) = j by omega] at ha
  exact ⟨a, ha, hp⟩
 ·cases ha
theorem code_out (k : Nat) : codeEnd s k = k + 8 ∨ ∀ b, s[codeEnd s k]? = some b → wordB b = false := by
 rcases Nat.lt_or_ge (codeEnd s k) (k + 8) with h | h
 ·right
  intro b hb
  refine Tx.tw_at wordB ((s.drop (k + 1)).take 7) b ?_
  unfold codeEnd at hb h
  rw [List.getElem?_take, if_pos (by omega), List.getElem?_drop]
  exact hb
 ·left
  have := code_len (s := s) k
  omega
theorem code_gt' (k : Nat) : k < codeEnd s k := code_gt k
end
def wordI (m : Int) : Prop := (65 ≤ m ∧ m ≤ 90) ∨ (97 ≤ m ∧ m ≤ 122) ∨ (48 ≤ m ∧ m ≤ 57)
theorem word_iff (c : UInt8) : wordB c = true ↔ wordI (c.toNat : Int) := by
 unfold wordB upperB wordI
 simp only [Bool.or_eq_true, decide_eq_true_eq, UInt8.le_iff_toNat_le]
 have e : (65 : UInt8).toNat = 65 ∧ (90 : UInt8).toNat = 90 ∧ (97 : UInt8).toNat = 97 ∧ (122 : UInt8).toNat = 122 ∧ (48 : UInt8).toNat = 48 ∧ (57 : UInt8).toNat = 57 := by decide
 rw [e.1, e.2.1, e.2.2.1, e.2.2.2.1, e.2.2.2.2.1, e.2.2.2.2.2]
 omega
end Cd
namespace Cd
open Go
theorem run_more {s : List UInt8} {k n : Nat} (hn : n ≤ ((s.drop k).takeWhile fun c => decide (c = 63)).length) : n < ((s.drop k).takeWhile fun c => decide (c = 63)).length ↔ sees s (k + n) 63 = true := by
 constructor
 ·intro h
  obtain ⟨a, ha, hp⟩ := Tx.tw_in (fun c : UInt8 => decide (c = 63)) (s.drop k) n h
  rw [List.getElem?_drop] at ha
  unfold sees
  rw [ha]
  simpa using hp
 ·intro h
  refine Nat.lt_of_le_of_ne hn fun e => ?_
  unfold sees at h
  have h' : s[k + n]? = some 63 := by simpa using h
  have := Tx.tw_at (fun c : UInt8 => decide (c = 63)) (s.drop k) 63 (by rw [← e, List.getElem?_drop]; exact h')
  simp at this
theorem kindAt_ne (o : Option UInt8) : kindAt o ≠ 1 := by
 unfold kindAt
 repeat' split
 all_goals decide
end Cd
