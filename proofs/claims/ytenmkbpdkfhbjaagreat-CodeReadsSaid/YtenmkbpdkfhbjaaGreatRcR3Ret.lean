/- Forms with given sounds: plain notions.; Lists of matches as values; lists of these.; lexicon.begin: the matches at each place of a line. Made by gen_begin.py.; ostraconref05.begins and tails. Made by gen_rtails.py.; ostraconref01: Split, Lines, Number; ostraconref05.full.; signs.inUse, checkPeriod, bearers. Made by gen_gbear.py.; signs.index, Find; ostraconref01.Find.; The document's reader: .. -/
import Derived.Test.YtenmkbpdkfhbjaaGreatRcFmtPlain
import Derived.Lib.OthersKept
import Derived.Test.YtenmkbpdkfhbjaaGreatRcIdle
import Derived.Test.YtenmkbpdkfhbjaaGreatRcSgFmtPlain
import Derived.Test.YtenmkbpdkfhbjaaGreatRcShelf
import Derived.Test.YtenmkbpdkfhbjaaGreatRcLeaf
import Derived.Test.YtenmkbpdkfhbjaaGreatRcSgCheck
import Derived.Test.YtenmkbpdkfhbjaaGreatRcSgRCheck
import Derived.Test.YtenmkbpdkfhbjaaGreatRcR3Rdr
import Derived.Test.YtenmkbpdkfhbjaaGreatRcCdKids
namespace Lx
end Lx
namespace Go.Proofs.YtenmkbpdkfhbjaaGreat
open Go.RowKit

def RdMs (w : World) (ok : Nat → Prop) (v : Value) (ms : List Lx.Match) : Prop :=
 ∃ A c, v = .slice A ms.length c ∧ ms.length ≤ c ∧ c ≤ 9223372036854775807 ∧
  (0 < ms.length → ∃ b off, A = some ⟨b, off, none⟩ ∧ ok b ∧ ∀ i m, ms[i]? = some m →
   w.cell? ⟨b, off + i * 4, none⟩ = some (.int .i64 m.entry) ∧ w.cell? ⟨b, off + i * 4 + 1, none⟩ = some (.int .i64 m.ending) ∧
   (∃ s, w.cell? ⟨b, off + i * 4 + 2, none⟩ = some s ∧ RdX w ok 1 encInt s m.clitics) ∧ w.cell? ⟨b, off + i * 4 + 3, none⟩ = some (.int .i64 m.long))
theorem RdMs.keep {w w' : World} {v : Value} {ms : List Lx.Match} {ok ok' : Nat → Prop} (h : RdMs w ok v ms) (hk : ∀ b, ok b → ok' b ∧ w'.heap[b]? = w.heap[b]?) : RdMs w' ok' v ms := by
 obtain ⟨A, c, hv, hl, hc, hh⟩ := h
 refine ⟨A, c, hv, hl, hc, fun h0 => ?_⟩
 obtain ⟨b, off, hA, hb, hcell⟩ := hh h0
 refine ⟨b, off, hA, (hk b hb).1, fun i m hm => ?_⟩
 obtain ⟨h1, h2, ⟨s, h3, h3'⟩, h4⟩ := hcell i m hm
 have e := fun (o : Nat) => World.cell?_of_block (w := w) (w' := w') (a := ⟨b, o, none⟩) (hk b hb).2
 exact ⟨(e _).trans h1, (e _).trans h2, ⟨s, (e _).trans h3, h3'.keep hk⟩, (e _).trans h4⟩

theorem RdMs.form {w : World} {ok : Nat → Prop} {v : Value} {ms : List Lx.Match} (h : RdMs w ok v ms) : ∃ A c, v = .slice A ms.length c := by
 obtain ⟨A, c, hv, _⟩ := h
 exact ⟨A, c, hv⟩

inductive RdT (w : World) (ok : Nat → Prop) : List Value → List (List Lx.Match) → Prop
 | nil : RdT w ok [] []
 | cons {v : Value} {ms : List Lx.Match} {vs : List Value} {ls : List (List Lx.Match)} (h : RdMs w ok v ms) (r : RdT w ok vs ls) : RdT w ok (v :: vs) (ms :: ls)
theorem RdT.keep {w w' : World} {ok ok' : Nat → Prop} (hk : ∀ b, ok b → ok' b ∧ w'.heap[b]? = w.heap[b]?) {vs : List Value} {ls : List (List Lx.Match)} (h : RdT w ok vs ls) : RdT w' ok' vs ls := by
 induction h with
 | nil => exact .nil
 | cons h _ ih => exact .cons (h.keep hk) ih
theorem RdT.at {w : World} {ok : Nat → Prop} {vs : List Value} {ls : List (List Lx.Match)} (h : RdT w ok vs ls) : ∀ {i : Nat} {ms : List Lx.Match}, ls[i]? = some ms → ∃ v, vs[i]? = some v ∧ RdMs w ok v ms := by
 induction h with
 | nil => intro i ms h; simp at h
 | @cons v ms vs ls h _ ih =>
  intro i ms' h'
  cases i with
  | zero => simp at h'; subst h'; exact ⟨v, by simp, h⟩
  | succ i => simp at h'; obtain ⟨u, h1, h2⟩ := ih h'; exact ⟨u, by simpa using h1, h2⟩








end Go.Proofs.YtenmkbpdkfhbjaaGreat
namespace Go.Proofs.YtenmkbpdkfhbjaaGreat
open Go.RowKit






end Go.Proofs.YtenmkbpdkfhbjaaGreat
namespace Go.Proofs.YtenmkbpdkfhbjaaGreat
open Go.RowKit

theorem keep_own {w w' : World} {base : Nat} {e : TypeId} {size n : Nat} {v : Value} {xs : List Value} (h : w.ownsRow base e size v n xs) (hb : Below w.heap.size w w') : w'.ownsRow base e size v n xs := h.kept (grown_of_below (row := none) hb) (by
 rcases h.2 with ⟨e, _⟩ | ⟨g, cap, cur, e, _⟩
 ·rw [e]; exact .inl rfl
 ·rw [e]; exact .inr (by simp [Value.ownBlock]))
theorem grows.append {α : Type} {K : RowK α} {w : World} {ok : Nat → Prop} {cs cs' : List Value} {xs ys : List α} (h : grows K w ok cs xs) (h' : grows K w ok cs' ys) : grows K w ok (cs ++ cs') (xs ++ ys) := by
 induction h with
 | nil => exact h'
 | cons h _ ih => rw [List.append_assoc]; exact .cons h ih
theorem OwnG.more {α : Type} {K : RowK α} {e : TypeId} {w w' : World} {base : Nat} {v v' : Value} {xs ys : List α} {cells cs : List Value} (h2 : grows K w (fun b => b < w.heap.size ∧ v.ownBlock ≠ some b ∧ base ≤ b) cells xs)
  (hm : grows K w (fun b => b < w.heap.size ∧ v.ownBlock ≠ some b ∧ base ≤ b) cs ys) (hown : w'.ownsRow base e K.size v' (xs.length + ys.length) (cells ++ cs)) (hg : w.grownBy w' v.ownBlock)
  (hat : v'.ownBlock = v.ownBlock ∨ ∃ g, v'.ownBlock = some g ∧ w.heap.size ≤ g) : OwnG K e w' base v' (xs ++ ys) := by
 have hk : ∀ b, (b < w.heap.size ∧ v.ownBlock ≠ some b ∧ base ≤ b) → (b < w'.heap.size ∧ v'.ownBlock ≠ some b ∧ base ≤ b) ∧ w'.heap[b]? = w.heap[b]? := by
  intro b ⟨hb, hne, hbs⟩
  refine ⟨⟨Nat.lt_of_lt_of_le hb hg.size, ?_, hbs⟩, hg.block b hb (fun e => hne e.symm)⟩
  rcases hat with e | ⟨g, e, hge⟩
  ·rw [e]; exact hne
  ·rw [e]; intro q; cases q; omega
 exact ⟨_, by rw [List.length_append]; exact hown, (h2.append hm).keep hk⟩






end Go.Proofs.YtenmkbpdkfhbjaaGreat
namespace Go.Proofs.YtenmkbpdkfhbjaaGreat
open Go Go.RowKit



end Go.Proofs.YtenmkbpdkfhbjaaGreat
namespace Go.Proofs.YtenmkbpdkfhbjaaGreat
open Go Go.RowKit





end Go.Proofs.YtenmkbpdkfhbjaaGreat
namespace Go.Proofs.YtenmkbpdkfhbjaaGreat
open Go Go.RowKit




def Sg.findV (l : Sg.SList) (c : ByteArray) : Int × Int := if Sg.checkV l ≠ 0 then (0, Sg.checkV l) else if idxOf (Sg.codeIs c) l.signs < 0 then (0, 3) else (idxOf (Sg.codeIs c) l.signs, 0)
def RetIxE (q : Int × Int) (w : World) (e : Ending) (w' : World) : Prop := e = .returned (.tuple #[.int .i64 q.1, .int .i64 q.2]) ∧ Below w.heap.size w w'
theorem RetIxE.of {q : Int × Int} {a b : Int} {w w' : World} (hq : q = (a, b)) (hb : Below w.heap.size w w') : RetIxE q w (.returned (.tuple #[.int .i64 a, .int .i64 b])) w' := by subst hq; exact ⟨rfl, hb⟩

set_option maxRecDepth 100000 in
set_option maxHeartbeats 2000000 in
theorem r1Find_any (v : Value) (l : Sg.SList) (c : ByteArray) (w : World) (hr : RdSL w w.heap.size v l) : Calls Tryz.prog 119 #[v, .string c] w (RetIxE (Sg.findV l c) w) := by
 have HRL := Lib.hid hr
 obtain ⟨⟨u, rfl, hgl⟩, hf⟩ := hr
 obtain ⟨A0, c0, rfl⟩ := hgl.form
 obtain ⟨W1, hW1⟩ : ∃ W1, W1 = w.alloc (.cells #[.int .i64 l.periods, .slice A0 l.signs.length c0] 24) := ⟨_, rfl⟩
 have hb1 : Below w.heap.size w W1 := by rw [hW1]; exact (Below.refl _ _).alloc (Nat.le_refl _) _
 have hX : W1.heap[w.heap.size]? = some (.cells #[.int .i64 l.periods, .slice A0 l.signs.length c0] 24 (0, 0)) := by rw [hW1]; exact heap_alloc_new _ _
 have hs1 : w.heap.size < W1.heap.size := (Array.getElem?_eq_some_iff.1 hX).1
 have CX : Hid (∀ W, Below W1.heap.size W1 W → W.cell? ⟨w.heap.size, 0, none⟩ = some (.int .i64 l.periods) ∧ W.cell? ⟨w.heap.size, 1, none⟩ = some (.slice A0 l.signs.length c0)) := Lib.hid fun W hW => by
  have p := (hW.block _ hs1).trans hX
  exact ⟨by simp [World.cell?, p], by simp [World.cell?, p]⟩
 obtain ⟨x0, x1⟩ := CX.out W1 (Below.refl _ _)
 have HB1 := Lib.hid hb1
 have HW1 := Lib.hid hW1
 have HCK := Lib.hid (r1Check_any _ l W1 (HRL.out.on hb1))
 have HIX := Lib.hid fun (W : World) (hW : Below w.heap.size w W) => r1index_any _ l c W (HRL.out.on hW)
 obtain ⟨e1, he1⟩ : ∃ e1, e1 = Sg.checkV l := ⟨_, rfl⟩
 obtain ⟨ix, hix⟩ : ∃ ix, ix = idxOf (Sg.codeIs c) l.signs := ⟨_, rfl⟩
 have HV : Hid (Sg.findV l c = if e1 ≠ 0 then (0, e1) else if ix < 0 then (0, 3) else (ix, 0)) := Lib.hid (by rw [he1, hix]; rfl)
 rw [← he1] at HCK
 rw [← hix] at HIX
 clear hgl hf hW1 hb1 hX he1 hix
 go_enter Tryz.func119, Tryz.ntmps119
 go_upto_region 1 with fail
 rw [← HW1.out]
 go_wp2_with fail
 refine HCK.out.mono ?_
 rintro e w2 ⟨rfl, hb2⟩
 have HB2 := Lib.hid (HB1.out.trans (hb2.mono (by omega)))
 obtain ⟨x0, x1⟩ := CX.out w2 hb2
 clear hb2
 by_cases h0 : e1 = 0
 case neg =>
  have HN : Hid (Sg.findV l c = (0, e1)) := Lib.hid (by rw [HV.out, if_pos h0])
  go_wp2_with fail
  go_ret2
  exact RetIxE.of HN.out HB2.out
 subst h0
 go_wp2_with fail
 refine (HIX.out _ HB2.out).mono ?_
 rintro e w3 ⟨rfl, hb3⟩
 have HB3 := Lib.hid (HB2.out.trans (hb3.mono HB2.out.size))
 clear hb3
 by_cases h1 : ix < 0
 ·have HN : Hid (Sg.findV l c = (0, 3)) := Lib.hid (by rw [HV.out, if_neg (by simp), if_pos h1])
  have h2 : ¬ 0 ≤ ix := by omega
  go_wp2_with fail
  go_ret2
  exact RetIxE.of HN.out HB3.out
 ·have HN : Hid (Sg.findV l c = (ix, 0)) := Lib.hid (by rw [HV.out, if_neg (by simp), if_neg h1])
  have h2 : 0 ≤ ix := by omega
  go_wp2_with fail
  go_ret2
  exact RetIxE.of HN.out HB3.out
end Go.Proofs.YtenmkbpdkfhbjaaGreat
namespace Go.Proofs.YtenmkbpdkfhbjaaGreat
open Go Go.RowKit

def KNs : RowK (List Tx.Node) where
 size := 1
 rd w ok cs ns := ∃ A c, cs = [.slice A ns.length c] ∧ RdX w ok 8 encN (.slice A ns.length c) ns
 len := by rintro w ok cs f ⟨A, c, rfl, _⟩; rfl
 keep := by rintro w w' ok ok' cs f hk ⟨A, c, rfl, h⟩; exact ⟨A, c, rfl, h.keep hk⟩
def okF (w w' : World) (b : Nat) : Prop := w.heap.size ≤ b ∧ b < w'.heap.size
def RetR (R : Nat) (L : Sg.SList) (As : Option Addr) (cs : Nat) (s : ByteArray) (kind u : Int) (q : Cd.R Cd.Item) (w : World) (e : Ending) (w' : World) : Prop :=
 w.grownBy w' (some R) ∧ match q with
  | .bad k => ∃ A n c u', e = .returned (.tuple #[.slice A n c, .bool false]) ∧ R3Is R L As cs s kind k u' w'
  | .ok x k => ∃ A c, e = .returned (.tuple #[.slice A (Cd.nodI L x).length c, .bool true]) ∧ R3Is R L As cs s kind k (Cd.unkF L u (Cd.codesI x)) w' ∧ RdX w' (okF w w') 8 encN (.slice A (Cd.nodI L x).length c) (Cd.nodI L x)
def RetO (R : Nat) (L : Sg.SList) (As : Option Addr) (cs : Nat) (s : ByteArray) (kind u : Int) (q : Cd.R (Cd.Item × Bool)) (w : World) (e : Ending) (w' : World) : Prop :=
 w.grownBy w' (some R) ∧ match q with
  | .bad k => ∃ A n c b u', e = .returned (.tuple #[.slice A n c, .bool b, .bool false]) ∧ R3Is R L As cs s kind k u' w'
  | .ok x k => ∃ A c, e = .returned (.tuple #[.slice A (Cd.nodI L x.1).length c, .bool x.2, .bool true]) ∧ R3Is R L As cs s kind k (Cd.unkF L u (Cd.codesI x.1)) w' ∧ RdX w' (okF w w') 8 encN (.slice A (Cd.nodI L x.1).length c) (Cd.nodI L x.1)
structure S3 (w : World) (R : Nat) (L : Sg.SList) (As : Option Addr) (cs : Nat) (s : ByteArray) (kind : Int) (j : Nat) (u : Int) (X : Nat) (c : Array Value) (W : World) : Prop where
 g : w.grownBy W (some R)
 r : R3Is R L As cs s kind j u W
 x : W.heap[X]? = some (.cells c 59 (0, 0))
 hR : R < w.heap.size
 hX : w.heap.size ≤ X
section
variable {w W W' : World} {R : Nat} {L : Sg.SList} {As : Option Addr} {cs : Nat} {s : ByteArray} {kind : Int} {j j' : Nat} {u u' : Int} {X : Nat} {c : Array Value}
theorem S3.lt (h : S3 w R L As cs s kind j u X c W) : X < W.heap.size := (Array.getElem?_eq_some_iff.1 h.x).1
theorem S3.call (h : S3 w R L As cs s kind j u X c W) (hg : W.grownBy W' (some R)) (hr : R3Is R L As cs s kind j' u' W') : S3 w R L As cs s kind j' u' X c W' :=
 ⟨grown_trans h.g hg, hr, (hg.block _ h.lt (fun e => by have := h.hR; have := h.hX; cases e; omega)).trans h.x, h.hR, h.hX⟩
theorem S3.below (h : S3 w R L As cs s kind j u X c W) (hb : Below W.heap.size W W') : S3 w R L As cs s kind j u X c W' := h.call (grown_of_below hb) (h.r.below hb)
theorem S3.set (h : S3 w R L As cs s kind j u X c W) (i : Nat) (v : Value) : S3 w R L As cs s kind j u X (c.setIfInBounds i v) (W.setCell ⟨X, i, none⟩ v) := by
 have hR := h.hR
 have hX := h.hX
 exact ⟨grown_after h.g (grown_set _ _ _ _) (.inr ⟨X, rfl, by omega⟩), h.r.keep (Below.heap_setCell _ ⟨X, i, none⟩ _ _ (by show R ≠ X; omega)), Go.Joins.block_setCell h.x _, hR, hX⟩
theorem S3.putU (h : S3 w R L As cs s kind j u X c W) (u' : Int) : S3 w R L As cs s kind j u' X c (W.setCell ⟨R, 5, none⟩ (.int .i64 u')) :=
 h.call (grown_set _ _ _ _) (h.r.putU u')
theorem rdx_one (w : World) (n : Tx.Node) : RdX (w.alloc (.cells (encN n).toArray 59)) (· = w.heap.size) 8 encN (.slice (some ⟨w.heap.size, 0, none⟩) 1 1) [n] := by
 refine ⟨_, 1, rfl, by simp, by decide, fun _ => ⟨_, 0, rfl, rfl, fun i x hi j u hu => ?_⟩⟩
 cases i with
 | zero =>
  simp at hi
  subst hi
  rw [(in_box (heap_alloc_new w (.cells (encN n).toArray 59)) _).1]
  simpa using hu
 | succ i => simp at hi
end
theorem find_is {l : Sg.SList} (h : Sg.checkV l = 0) (c : ByteArray) : ∃ e : Int, Sg.findV l c = (Cd.fndV l c.data.toList, e) ∧ (e = 0 ↔ Cd.signIx l c.data.toList ≠ -1) := by
 have key : idxOf (Sg.codeIs c) l.signs = Cd.signIx l c.data.toList := by
  unfold idxOf Cd.signIx
  have : (fun s : Sg.Sign => decide (s.code.data.toList = c.data.toList)) = Sg.codeIs c := by
   funext s
   unfold Sg.codeIs
   by_cases q : s.code = c
   ·rw [q]; simp
   ·have : s.code.data.toList ≠ c.data.toList := fun e => q (Cd.data_inj e)
    simp [q, this]
  rw [this]
  cases List.findIdx? (Sg.codeIs c) l.signs <;> rfl
 unfold Sg.findV
 rw [if_neg (by omega), key]
 unfold Cd.fndV
 by_cases q : Cd.signIx l c.data.toList = -1
 ·rw [q]
  exact ⟨3, rfl, by decide⟩
 ·have h0 : 0 ≤ Cd.signIx l c.data.toList := by
   unfold Cd.signIx at q ⊢
   split at q
   ·omega
   ·exact absurd rfl q
  rw [if_neg (by omega), if_neg q]
  exact ⟨0, rfl, by simp [q]⟩
end Go.Proofs.YtenmkbpdkfhbjaaGreat
