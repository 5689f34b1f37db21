/- Rows of whatever make: of the call's own, and as values.; How a sign list lies in memory.; Leaf functions of the sign lists. -/
import Derived.Test.YtenmkbpdkfhbjaaRbMatches
import Derived.Test.YtenmkbpdkfhbjaaRbSgPlain
import Derived.Test.YtenmkbpdkfhbjaaRbGlossPlain
import Derived.Deep.DeepCutAuto
import Derived.Deep.LoopGhost
import Derived.Deep.QuietTactic
import Derived.BigQuiet
import Derived.Deep.Light
namespace Go.Proofs.Ytenmkbpdkfhbjaa
open Go.RowKit

/-- how one element lies in cells -/
structure RowK (α : Type) where
  size : Nat
  rd : World → (Nat → Prop) → List Value → α → Prop
  len : ∀ {w : World} {ok : Nat → Prop} {cs : List Value} {a : α}, rd w ok cs a → cs.length = size
  keep : ∀ {w w' : World} {ok ok' : Nat → Prop} {cs : List Value} {a : α}, (∀ b, ok b → ok' b ∧ w'.heap[b]? = w.heap[b]?) → rd w ok cs a → rd w' ok' cs a
section
variable {α : Type} {K : RowK α}
inductive grows (K : RowK α) (w : World) (ok : Nat → Prop) : List Value → List α → Prop
  | nil : grows K w ok [] []
  | cons {cs r : List Value} {a : α} {xs : List α} (h : K.rd w ok cs a) (t : grows K w ok r xs) : grows K w ok (cs ++ r) (a :: xs)
theorem grows.keep {w w' : World} {ok ok' : Nat → Prop} (hk : ∀ b, ok b → ok' b ∧ w'.heap[b]? = w.heap[b]?) {cs : List Value} {xs : List α} (h : grows K w ok cs xs) : grows K w' ok' cs xs := by
  induction h with
  | nil => exact .nil
  | cons h _ ih => exact .cons (K.keep hk h) ih
theorem grows.snoc {w : World} {ok : Nat → Prop} {c : List Value} {a : α} (hc : K.rd w ok c a) {cs : List Value} {xs : List α} (h : grows K w ok cs xs) : grows K w ok (cs ++ c) (xs ++ [a]) := by
  induction h with
  | nil => have := grows.cons hc grows.nil; simpa using this
  | cons h _ ih => rw [List.append_assoc]; exact .cons h ih
theorem grows.at {w : World} {ok : Nat → Prop} {cs : List Value} {xs : List α} (h : grows K w ok cs xs) : ∀ {i : Nat} {a : α}, xs[i]? = some a → ∃ c, K.rd w ok c a ∧ ∀ (j : Nat) (u : Value), c[j]? = some u → cs[i * K.size + j]? = some u := by
  induction h with
  | nil => intro i a h; simp at h
  | @cons c r a xs h _ ih =>
    intro i a' h'
    cases i with
    | zero =>
      simp at h'
      subst h'
      refine ⟨c, h, fun j u hj => ?_⟩
      rw [Nat.zero_mul, Nat.zero_add, List.getElem?_append_left (List.getElem?_eq_some_iff.1 hj).1]
      exact hj
    | succ i =>
      simp at h'
      obtain ⟨c', h1, h2⟩ := ih h'
      refine ⟨c', h1, fun j u hj => ?_⟩
      have hl := K.len h
      rw [Nat.succ_mul, List.getElem?_append_right (by omega), show i * K.size + K.size + j - c.length = i * K.size + j by omega]
      exact h2 j u hj
/-- a list of the call's own -/
def OwnG (K : RowK α) (e : TypeId) (w : World) (base : Nat) (v : Value) (xs : List α) : Prop :=
  ∃ cells, w.ownsRow base e K.size v xs.length cells ∧ grows K w (fun b => b < w.heap.size ∧ v.ownBlock ≠ some b ∧ base ≤ b) cells xs
/-- the value reads as a list -/
def RdG (K : RowK α) (w : World) (ok : Nat → Prop) (v : Value) (xs : List α) : Prop :=
  ∃ A c, v = .slice A xs.length c ∧ xs.length ≤ c ∧ c ≤ 9223372036854775807 ∧
    (0 < xs.length → ∃ b off, A = some ⟨b, off, none⟩ ∧ ok b ∧ ∀ (i : Nat) (a : α), xs[i]? = some a → ∃ cs, K.rd w ok cs a ∧ ∀ (j : Nat) (u : Value), cs[j]? = some u → w.cell? ⟨b, off + i * K.size + j, none⟩ = some u)
theorem RdG.keep {w w' : World} {ok ok' : Nat → Prop} {v : Value} {xs : List α} (h : RdG K w ok v xs) (hk : ∀ b, ok b → ok' b ∧ w'.heap[b]? = w.heap[b]?) : RdG K w' ok' v xs := by
  obtain ⟨A, c, hv, hl, hc, hh⟩ := h
  refine ⟨A, c, hv, hl, hc, fun h0 => ?_⟩
  obtain ⟨b, off, hA, hb, hcell⟩ := hh h0
  refine ⟨b, off, hA, (hk b hb).1, fun i a ha => ?_⟩
  obtain ⟨cs, h1, h2⟩ := hcell i a ha
  exact ⟨cs, K.keep hk h1, fun j u hj => (World.cell?_of_block (w := w) (w' := w') (a := ⟨b, off + i * K.size + j, none⟩) (hk b hb).2).trans (h2 j u hj)⟩
theorem RdG.form {w : World} {ok : Nat → Prop} {v : Value} {xs : List α} (h : RdG K w ok v xs) : ∃ A c, v = .slice A xs.length c := by
  obtain ⟨A, c, hv, _⟩ := h
  exact ⟨A, c, hv⟩
theorem RdG.nil (w : World) (ok : Nat → Prop) : RdG K w ok (.slice none 0 0) [] := ⟨none, 0, rfl, by simp, by omega, fun h => absurd h (by simp)⟩
theorem RdG.at {w : World} {ok : Nat → Prop} {A : Option Addr} {n c : Nat} {xs : List α} (h : RdG K w ok (.slice A n c) xs) (h0 : 0 < xs.length) :
    ∃ b off, A = some ⟨b, off, none⟩ ∧ ok b ∧ ∀ (i : Nat) (a : α), xs[i]? = some a → ∃ cs, K.rd w ok cs a ∧ ∀ (j : Nat) (u : Value), cs[j]? = some u → w.cell? ⟨b, off + i * K.size + j, none⟩ = some u := by
  obtain ⟨A', c', hv, _, _, hh⟩ := h
  cases hv
  exact hh h0
theorem OwnG.rd {e : TypeId} {w : World} {base : Nat} {v : Value} {xs : List α} (h : OwnG K e w base v xs) : RdG K w (fun b => b < w.heap.size ∧ base ≤ b) v xs := by
  obtain ⟨cells, h1, h2⟩ := h
  obtain ⟨_, h3⟩ := id h1
  rcases h3 with ⟨rfl, h0⟩ | ⟨g, cap, cur, rfl, hg, hh, hle, hm, hs, ht⟩
  · exact ⟨none, 0, by rw [h0], by omega, by omega, fun hp => by omega⟩
  · refine ⟨some ⟨g, 0, none⟩, cap, rfl, hle, by simpa [maxLen] using hm, fun _ => ⟨g, 0, rfl, ⟨(h1.lt g rfl).2, hg⟩, fun i a hi => ?_⟩⟩
    obtain ⟨cs, e1, e2⟩ := h2.at hi
    refine ⟨cs, K.keep (fun b hb => ⟨⟨hb.1, hb.2.2⟩, rfl⟩) e1, fun j u hj => ?_⟩
    have := h1.cells rfl (i * K.size + j) u (e2 j u hj)
    rw [addr_add] at this
    rw [← this, Nat.add_assoc]
theorem OwnG.nil (e : TypeId) (w : World) (base : Nat) : OwnG K e w base (.slice none 0 0) [] := ⟨[], World.ownsRow_nil w base _ _, .nil⟩
theorem OwnG.form {e : TypeId} {w : World} {base : Nat} {v : Value} {xs : List α} (h : OwnG K e w base v xs) : ∃ A c, v = .slice A xs.length c := by
  obtain ⟨cells, h1, _⟩ := h
  exact own_form h1
theorem OwnG.lt {e : TypeId} {w : World} {base : Nat} {v : Value} {xs : List α} (h : OwnG K e w base v xs) : ∀ g, v.ownBlock = some g → base ≤ g ∧ g < w.heap.size := by
  obtain ⟨cells, h1, _⟩ := h
  exact fun g hg => h1.lt g hg
theorem OwnG.mono {e : TypeId} {w : World} {base base' : Nat} {v : Value} {xs : List α} (h : OwnG K e w base v xs) (hb : base' ≤ base) : OwnG K e w base' v xs := by
  obtain ⟨cells, h1, h2⟩ := h
  exact ⟨cells, h1.mono hb, h2.keep (fun b hk => ⟨⟨hk.1, hk.2.1, Nat.le_trans hb hk.2.2⟩, rfl⟩)⟩
/-- a world in which one block was turned that is neither the row nor behind 'base' -/
theorem OwnG.aside {e : TypeId} {w w' : World} {base : Nat} {row : Option Nat} {v : Value} {xs : List α} (h : OwnG K e w base v xs) (hg : w.grownBy w' row) (hk : ∀ k, row = some k → k < base) : OwnG K e w' base v xs := by
  obtain ⟨cells, h1, h2⟩ := h
  refine ⟨cells, h1.kept hg ?_, h2.keep (fun b hbk => ⟨⟨Nat.lt_of_lt_of_le hbk.1 hg.size, hbk.2⟩, hg.block b hbk.1 (fun e => by have := hk b e.symm; omega)⟩)⟩
  rcases h1.2 with ⟨rfl, _⟩ | ⟨g, cap, cur, rfl, hg', _⟩
  · exact .inl rfl
  · exact .inr (fun e => by have := hk g (by rw [← e]; rfl); omega)
theorem OwnG.kept {e : TypeId} {w w' : World} {base : Nat} {v : Value} {xs : List α} (h : OwnG K e w base v xs) (hb : Below w.heap.size w w') : OwnG K e w' base v xs := h.aside (grown_of_below (row := none) hb) (by simp)
/-- appended: one more -/
theorem OwnG.snoc {e : TypeId} {w w' : World} {base : Nat} {v v' : Value} {xs : List α} {a : α} {cells cs : List Value} (h2 : grows K w (fun b => b < w.heap.size ∧ v.ownBlock ≠ some b ∧ base ≤ b) cells xs)
    (hm : K.rd w (fun b => b < w.heap.size ∧ v.ownBlock ≠ some b ∧ base ≤ b) cs a) (hown : w'.ownsRow base e K.size v' (xs.length + 1) (cells ++ cs)) (hg : w.grownBy w' v.ownBlock)
    (hat : v'.ownBlock = v.ownBlock ∨ ∃ g, v'.ownBlock = some g ∧ w.heap.size ≤ g) : OwnG K e w' base v' (xs ++ [a]) := by
  have hk : ∀ b, (b < w.heap.size ∧ v.ownBlock ≠ some b ∧ base ≤ b) → (b < w'.heap.size ∧ v'.ownBlock ≠ some b ∧ base ≤ b) ∧ w'.heap[b]? = w.heap[b]? := by
    intro b ⟨hb, hne, hbs⟩
    refine ⟨⟨Nat.lt_of_lt_of_le hb hg.size, ?_, hbs⟩, hg.block b hb (fun e => hne e.symm)⟩
    rcases hat with e | ⟨g, e, hge⟩
    · rw [e]; exact hne
    · rw [e]; intro q; cases q; omega
  exact ⟨_, by rw [List.length_append]; exact hown, (h2.snoc hm).keep hk⟩
end



end Go.Proofs.Ytenmkbpdkfhbjaa
namespace Go.Proofs.Ytenmkbpdkfhbjaa
open Go Go.RowKit

def encValue (v : Sg.Value) : List Value := [.int .i64 v.kind, .string v.text, .int .i64 v.lo, .int .i64 v.hi]
theorem len_value (v : Sg.Value) : (encValue v).length = 4 := rfl
theorem one_value (v : Sg.Value) : ∀ u ∈ encValue v, u.oneCell' = true := by intro u hu; simp [encValue] at hu; rcases hu with rfl | rfl | rfl | rfl <;> rfl
def Sg.Value.fits (v : Sg.Value) : Prop := v.text.size ≤ maxLen
/-- signs: a code, two sizes, a mark, and values -/
def KSign : RowK Sg.Sign where
  size := 5
  rd w ok cs s := ∃ v, cs = [.string s.code, .int .i64 s.wide, .int .i64 s.high, .bool s.even, v] ∧ RdX w ok 4 encValue v s.values
  len := by rintro w ok cs s ⟨v, rfl, _⟩; rfl
  keep := by rintro w w' ok ok' cs s hk ⟨v, rfl, h⟩; exact ⟨v, rfl, h.keep hk⟩
def Sg.Sign.fits (s : Sg.Sign) : Prop := s.code.size ≤ maxLen ∧ ∀ v ∈ s.values, Sg.Value.fits v
/-- a sign list -/
structure RdSL (w : World) (B : Nat) (v : Value) (l : Sg.SList) : Prop where
  ex : ∃ u, v = .agg #[.int .i64 l.periods, u] ∧ RdG KSign w (· < B) u l.signs
  fs : ∀ s ∈ l.signs, Sg.Sign.fits s
theorem RdSL.keep {w w' : World} {B B' : Nat} {v : Value} {l : Sg.SList} (h : RdSL w B v l) (hB : B ≤ B') (hb : Below B w w') : RdSL w' B' v l := by
  obtain ⟨⟨u, rfl, h1⟩, h2⟩ := h
  exact ⟨⟨u, rfl, h1.keep fun b hlt => ⟨Nat.lt_of_lt_of_le hlt hB, hb.block b hlt⟩⟩, h2⟩
theorem RdSL.on {w w' : World} {v : Value} {l : Sg.SList} (h : RdSL w w.heap.size v l) (hb : Below w.heap.size w w') : RdSL w' w'.heap.size v l := h.keep hb.size hb
theorem info_Value : (Try.prog.info? 63).map (fun i => (i.zero, i.size, i.bytes)) = some (some (.agg #[.int .i64 0, .string ⟨#[]⟩, .int .i64 0, .int .i64 0]), 4, 40) := by kernel_rfl
theorem info_Sign : (Try.prog.info? 39).map (fun i => (i.zero, i.size, i.bytes)) = some (some (.agg #[.string ⟨#[]⟩, .int .i64 0, .int .i64 0, .bool false, .slice none 0 0]), 5, 64) := by kernel_rfl
/-- the cells of one value of a slice -/
theorem RdX.four {w : World} {ok : Nat → Prop} {A : Option Addr} {n c : Nat} {l : List Sg.Value} (h : RdX w ok 4 encValue (.slice A n c) l) (h0 : 0 < l.length) :
    ∃ b off, A = some ⟨b, off, none⟩ ∧ ok b ∧ ∀ i v, l[i]? = some v → w.cell? ⟨b, off + i * 4, none⟩ = some (.int .i64 v.kind) ∧ w.cell? ⟨b, off + i * 4 + 1, none⟩ = some (.string v.text) ∧ w.cell? ⟨b, off + i * 4 + 2, none⟩ = some (.int .i64 v.lo) ∧ w.cell? ⟨b, off + i * 4 + 3, none⟩ = some (.int .i64 v.hi) := by
  obtain ⟨A', c', hv, _, _, hh⟩ := h
  cases hv
  obtain ⟨b, off, rfl, hb, hcell⟩ := hh h0
  refine ⟨b, off, rfl, hb, fun i v hi => ⟨?_, hcell i v hi 1 _ rfl, hcell i v hi 2 _ rfl, hcell i v hi 3 _ rfl⟩⟩
  have := hcell i v hi 0 _ rfl
  simpa using this
/-- the cells of one sign of a list -/
theorem RdG.five {w : World} {ok : Nat → Prop} {A : Option Addr} {n c : Nat} {l : List Sg.Sign} (h : RdG KSign w ok (.slice A n c) l) (h0 : 0 < l.length) :
    ∃ b off, A = some ⟨b, off, none⟩ ∧ ok b ∧ ∀ i s, l[i]? = some s → ∃ u, RdX w ok 4 encValue u s.values ∧ w.cell? ⟨b, off + i * 5, none⟩ = some (.string s.code) ∧ w.cell? ⟨b, off + i * 5 + 1, none⟩ = some (.int .i64 s.wide) ∧ w.cell? ⟨b, off + i * 5 + 2, none⟩ = some (.int .i64 s.high) ∧
      w.cell? ⟨b, off + i * 5 + 3, none⟩ = some (.bool s.even) ∧ w.cell? ⟨b, off + i * 5 + 4, none⟩ = some u := by
  obtain ⟨b, off, rfl, hb, hcell⟩ := RdG.at h h0
  refine ⟨b, off, rfl, hb, fun i s hi => ?_⟩
  obtain ⟨cs, ⟨u, rfl, hu⟩, hc⟩ := hcell i s hi
  refine ⟨u, hu, ?_, hc 1 _ rfl, hc 2 _ rfl, hc 3 _ rfl, hc 4 _ rfl⟩
  have := hc 0 _ rfl
  simpa [KSign] using this
end Go.Proofs.Ytenmkbpdkfhbjaa
namespace Go.Proofs.Ytenmkbpdkfhbjaa
open Go Go.RowKit

theorem upper_in (c : UInt8) : Sg.upper c = (decide ((65 : Int) ≤ (c.toNat : Int)) && decide ((c.toNat : Int) ≤ 90)) := by
  rw [Bool.eq_iff_iff]; simp [Sg.upper, UInt8.le_iff_toNat_le]; omega
theorem digit_in (c : UInt8) : Sg.digit c = (decide ((48 : Int) ≤ (c.toNat : Int)) && decide ((c.toNat : Int) ≤ 57)) := by
  rw [Bool.eq_iff_iff]; simp [Sg.digit, UInt8.le_iff_toNat_le]; omega
theorem alnum_in (c : UInt8) : Sg.alnum c = (((decide ((97 : Int) ≤ (c.toNat : Int)) && decide ((c.toNat : Int) ≤ 122)) || (decide ((65 : Int) ≤ (c.toNat : Int)) && decide ((c.toNat : Int) ≤ 90))) || (decide ((48 : Int) ≤ (c.toNat : Int)) && decide ((c.toNat : Int) ≤ 57))) := by
  rw [Sg.alnum, letter_in, digit_in]
theorem code_of {s : ByteArray} (h0 : 0 < s.size) (h8 : s.size ≤ 8) : Sg.codeB s = (Sg.upper s[0] && s.data.toList.all Sg.alnum) := by
  have hz : s.data.toList[0]? = some s[0] := by rw [List.getElem?_eq_getElem (by simpa using h0)]; rfl
  have h1 : decide (1 ≤ s.size) = true := by simp; omega
  have h2 : decide (s.size ≤ 8) = true := by simp; omega
  unfold Sg.codeB
  rw [hz, h1, h2]
  rfl
theorem code_out {s : ByteArray} (h : ¬ (0 < s.size ∧ s.size ≤ 8)) : Sg.codeB s = false := by
  have : (decide (1 ≤ s.size) && decide (s.size ≤ 8)) = false := by
    rw [Bool.and_eq_false_iff, decide_eq_false_iff_not, decide_eq_false_iff_not]
    omega
  unfold Sg.codeB
  rw [this]
  rfl
set_option maxRecDepth 100000 in
set_option maxHeartbeats 2000000 in
theorem gCode_any (s : ByteArray) (w : World) (hs : s.size ≤ maxLen) : Calls Try.prog 19 #[.string s] w (RetB (Sg.codeB s) w) := by
  unfold maxLen at hs
  by_cases hl : 0 < s.size ∧ s.size ≤ 8
  · obtain ⟨h0, h8⟩ := hl
    have HC := Lib.hid (code_of h0 h8)
    have HU := Lib.hid (upper_in s[0])
    have i1 : ¬ (s.size : Int) < 1 := by omega
    have i2 : ¬ 8 < (s.size : Int) := by omega
    have i3 : (0 : Int) < (s.size : Int) := by omega
    by_cases hu : (65 : Int) ≤ (s[0].toNat : Int) ∧ (s[0].toNat : Int) ≤ 90
    · obtain ⟨hu1, hu2⟩ := hu
      have HU1 : Hid (Sg.upper s[0] = true) := Lib.hid (by rw [HU.out]; simp; omega)
      have hu1' : ¬ (s[0].toNat : Int) < 65 := by omega
      have hu2' : ¬ 90 < (s[0].toNat : Int) := by omega
      go_enter Try.func19, Try.ntmps19
      go_wp2_with fail
      go_loop [3] (fun i => ∃ k : Nat, k ≤ s.size ∧ i = .int .i64 k ∧ (s.data.toList.take k).all Sg.alnum = true) (fun i => s.size - (intOf i).toNat)
      case atStart => exact ⟨0, Nat.zero_le _, rfl, rfl⟩
      case round =>
        obtain ⟨k, hk, rfl, hal⟩ := hrel
        have HAL := Lib.hid hal
        clear hal
        by_cases hlt : k < s.size
        · have HN := Lib.hid (take_succ_all Sg.alnum s k hlt)
          have HA := Lib.hid (alnum_in s[k])
          go_upto_region 7 with fail
          go_cut [54] (fun t wc => t = .bool (!Sg.alnum s[k]) ∧ wc = w)
          case first =>
            go_wp2_with fail
            all_goals
              go_meet
              go_light
              refine ⟨congrArg Value.bool ?_, rfl⟩
              rw [HA.out]
              rw [Bool.eq_iff_iff]
              simp [*]
              try omega
          case rest =>
            obtain ⟨rfl, rfl⟩ := hcut
            cases hA : Sg.alnum s[k]
            · have HF : Hid (Sg.codeB s = false) := Lib.hid (by rw [HC.out, not_all_of Sg.alnum s k hlt hA]; simp)
              clear hA
              go_wp2_with fail
              go_ret
              exact ⟨ret_bool HF.out.symm, rfl⟩
            · have HY := Lib.hid hA
              clear hA
              go_wp2_with fail
              refine ⟨⟨k + 1, by omega, by go_num, by rw [HN.out, HAL.out, HY.out]; rfl⟩, ?_⟩
              simp [intOf]; omega
        · have HT : Hid (Sg.codeB s = true) := Lib.hid (by
            have := HAL.out
            rw [List.take_of_length_le (by simp; omega)] at this
            rw [HC.out, HU1.out, this]; rfl)
          go_wp2_with fail
          go_ret
          exact ⟨ret_bool HT.out.symm, rfl⟩
    · have HF : Hid (Sg.codeB s = false) := Lib.hid (by
        have : Sg.upper s[0] = false := by rw [HU.out, Bool.and_eq_false_iff, decide_eq_false_iff_not, decide_eq_false_iff_not]; omega
        rw [HC.out, this]; rfl)
      have hor : (s[0].toNat : Int) < 65 ∨ (¬ (s[0].toNat : Int) < 65 ∧ 90 < (s[0].toNat : Int)) := by omega
      clear hu
      rcases hor with hu | ⟨hu, hu'⟩
      all_goals
        go_enter Try.func19, Try.ntmps19
        go_wp2_with fail
        go_ret
        exact ⟨ret_bool HF.out.symm, rfl⟩
  · have HF := Lib.hid (code_out hl)
    have hor : (s.size : Int) < 1 ∨ (¬ (s.size : Int) < 1 ∧ 8 < (s.size : Int)) := by omega
    clear hl
    rcases hor with hu | ⟨hu, hu'⟩
    all_goals
      go_enter Try.func19, Try.ntmps19
      go_wp2_with fail
      go_ret
      exact ⟨ret_bool HF.out.symm, rfl⟩

theorem textC_in (kind : Int) (c : UInt8) : Sg.textC kind c = ((decide ((97 : Int) ≤ (c.toNat : Int)) && decide ((c.toNat : Int) ≤ 122)) || (!decide (kind = 3) && (decide ((65 : Int) ≤ (c.toNat : Int)) && decide ((c.toNat : Int) ≤ 90)))) := by
  rw [Sg.textC, small_in, upper_in]
theorem text_of {kind : Int} {s : ByteArray} (h : 0 < s.size ∧ s.size ≤ 8) : Sg.textB kind s = s.data.toList.all (Sg.textC kind) := by
  have h1 : decide (1 ≤ s.size) = true := by simp; omega
  have h2 : decide (s.size ≤ 8) = true := by simp; omega
  unfold Sg.textB
  rw [h1, h2]
  rfl
theorem text_out {kind : Int} {s : ByteArray} (h : ¬ (0 < s.size ∧ s.size ≤ 8)) : Sg.textB kind s = false := by
  have : (decide (1 ≤ s.size) && decide (s.size ≤ 8)) = false := by
    rw [Bool.and_eq_false_iff, decide_eq_false_iff_not, decide_eq_false_iff_not]
    omega
  unfold Sg.textB
  rw [this]
  rfl
set_option maxRecDepth 100000 in
set_option maxHeartbeats 2000000 in
theorem gText_any (kind : Int) (s : ByteArray) (w : World) (hs : s.size ≤ maxLen) : Calls Try.prog 28 #[.int .i64 kind, .string s] w (RetB (Sg.textB kind s) w) := by
  unfold maxLen at hs
  by_cases hl : 0 < s.size ∧ s.size ≤ 8
  · have HC := Lib.hid (text_of (kind := kind) hl)
    obtain ⟨h0, h8⟩ := hl
    have i1 : ¬ (s.size : Int) < 1 := by omega
    have i2 : ¬ 8 < (s.size : Int) := by omega
    go_enter Try.func28, Try.ntmps28
    go_wp2_with fail
    go_loop [5] (fun i => ∃ k : Nat, k ≤ s.size ∧ i = .int .i64 k ∧ (s.data.toList.take k).all (Sg.textC kind) = true) (fun i => s.size - (intOf i).toNat)
    case atStart => exact ⟨0, Nat.zero_le _, rfl, rfl⟩
    case round =>
      obtain ⟨k, hk, rfl, hal⟩ := hrel
      have HAL := Lib.hid hal
      clear hal
      by_cases hlt : k < s.size
      · have HN := Lib.hid (take_succ_all (Sg.textC kind) s k hlt)
        have HA := Lib.hid (textC_in kind s[k])
        go_upto_region 7 with fail
        go_cut [42] (fun t wc => t = .bool (!Sg.textC kind s[k]) ∧ wc = w)
        case first =>
          by_cases hk3 : kind = 3
          · subst hk3
            go_wp2_with fail
            all_goals
              go_meet
              go_light
              refine ⟨congrArg Value.bool ?_, rfl⟩
              rw [HA.out]
              rw [Bool.eq_iff_iff]
              simp [*]
              try omega
          · have hk4 : (kind != 3) = true := by rw [bne_iff_ne]; exact hk3
            go_wp2_with fail
            all_goals
              go_meet
              go_light
              refine ⟨congrArg Value.bool ?_, rfl⟩
              rw [HA.out]
              rw [Bool.eq_iff_iff]
              simp [*]
              try omega
        case rest =>
          obtain ⟨rfl, rfl⟩ := hcut
          cases hA : Sg.textC kind s[k]
          · have HF : Hid (Sg.textB kind s = false) := Lib.hid (by rw [HC.out, not_all_of (Sg.textC kind) s k hlt hA])
            clear hA
            go_wp2_with fail
            go_ret
            exact ⟨ret_bool HF.out.symm, rfl⟩
          · have HY := Lib.hid hA
            clear hA
            go_wp2_with fail
            refine ⟨⟨k + 1, by omega, by go_num, by rw [HN.out, HAL.out, HY.out]; rfl⟩, ?_⟩
            simp [intOf]; omega
      · have HT : Hid (Sg.textB kind s = true) := Lib.hid (by
          have := HAL.out
          rw [List.take_of_length_le (by simp; omega)] at this
          rw [HC.out, this])
        go_wp2_with fail
        go_ret
        exact ⟨ret_bool HT.out.symm, rfl⟩
  · have HF := Lib.hid (text_out (kind := kind) hl)
    have hor : (s.size : Int) < 1 ∨ (¬ (s.size : Int) < 1 ∧ 8 < (s.size : Int)) := by omega
    clear hl
    rcases hor with hu | ⟨hu, hu'⟩
    all_goals
      go_enter Try.func28, Try.ntmps28
      go_wp2_with fail
      go_ret
      exact ⟨ret_bool HF.out.symm, rfl⟩


end Go.Proofs.Ytenmkbpdkfhbjaa
