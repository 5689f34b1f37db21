/- What the program's ParseGloss builds out of the words of a gloss: plain law. The weight of a form: plain notions. lexicon.weight: the weight of a valid form. The reference's Check. The reference's CheckForm. Stem, Sounds, Weight of the program and of the reference. Made by gen_sounds.py. -/
import Derived.Test.YtkmimjngmfdpmaaGreatDoorMgGlossPlain
import Derived.Test.YtkmimjngmfdpmaaGreatDoorMgGlossLaw
import Derived.Test.YtkmimjngmfdpmaaGreatDoorMgMatches
import Derived.Test.YtkmimjngmfdpmaaGreatDoorMgLeaf
import Derived.Test.YtkmimjngmfdpmaaGreatDoorMgRegion
import Derived.Deep.DeepCutAuto
import Derived.Deep.LoopGhost
import Derived.Deep.Light
import Derived.Deep.QuietTactic
import Derived.BigQuiet
namespace Go.Proofs.YtkmimjngmfdpmaaGreatDoor
open Go.RowKit

def Lx.pE (k : Int) (nm : ByteArray) : Lx.Ending → Bool := fun v => decide (v.kind = k) && decide (v.name = nm)
def Lx.pC (nm : ByteArray) : Lx.Clitic → Bool := fun v => decide (v.name = nm)
def Lx.progF (x : Lx.Lexicon) (i : Nat) (k : Int) (has : Bool) (nm : ByteArray) (l : List ByteArray) : Lx.Form := ⟨(i : Int), if has = true then idxOf (Lx.pE k nm) x.endings else -1, l.map fun n => idxOf (Lx.pC n) x.clitics⟩
theorem Lx.bytes_eq {a b : ByteArray} (h : a.data.toList = b.data.toList) : a = b := by
  have e : a.data = b.data := Array.toList_inj.1 h
  cases a; cases b; simp only at e; rw [e]
theorem Lx.toList_data (b : ByteArray) : b.toList = b.data.toList := by
  have h : ∀ (k i : Nat) (acc : List UInt8), b.size - i ≤ k → i ≤ b.size → ByteArray.toList.loop b i acc = acc.reverse ++ b.data.toList.drop i := by
    intro k
    induction k with
    | zero =>
      intro i acc hk hi
      rw [ByteArray.toList.loop, if_neg (by omega), List.drop_eq_nil_of_le (by show b.size ≤ i; omega), List.append_nil]
    | succ k ih =>
      intro i acc hk hi
      rw [ByteArray.toList.loop]
      by_cases hlt : i < b.size
      · have hb : i < b.data.toList.length := hlt
        have e : b.get! i = b.data.toList[i]'hb := by
          have hb' : i < b.data.size := hlt
          show b.data[i]! = _
          rw [getElem!_pos b.data i hb', Array.getElem_toList]
        rw [if_pos hlt, ih (i + 1) _ (by omega) (by omega), List.reverse_cons, List.append_assoc, List.drop_eq_getElem_cons hb, e]
        rfl
      · rw [if_neg hlt, List.drop_eq_nil_of_le (by show b.size ≤ i; omega), List.append_nil]
  have := h b.size 0 [] (by omega) (Nat.zero_le _)
  simpa [ByteArray.toList] using this
theorem Lx.toList_ne {a b : ByteArray} (h : a ≠ b) : (a.toList == b.toList) = false := by
  rw [beq_eq_false_iff_ne]
  intro e
  rw [Lx.toList_data, Lx.toList_data] at e
  exact h (Lx.bytes_eq e)
theorem Lx.idx_clit {x : Lx.Lexicon} (h : Lx.checkV x = 0) {c : Int} (hc : 0 ≤ c ∧ c < x.clitics.length) {nm : ByteArray} (hn : nm.data.toList = Lx.clitN x c) : idxOf (Lx.pC nm) x.clitics = c := by
  obtain ⟨g, hg⟩ : ∃ g, x.clitics[c.toNat]? = some g := ⟨_, List.getElem?_eq_getElem (by omega)⟩
  have e1 : Lx.clitN x c = g.name.data.toList := by unfold Lx.clitN; rw [hg]
  have := idxOf_at (p := Lx.pC nm) hg (by unfold Lx.pC; exact decide_eq_true (Lx.bytes_eq (by rw [hn, e1]))) (fun j z hj hz => by
    unfold Lx.pC
    refine decide_eq_false fun e => ?_
    have hl := (List.getElem?_eq_some_iff.1 hz).1
    have e2 : Lx.clitN x (j : Int) = z.name.data.toList := by unfold Lx.clitN; rw [Int.toNat_natCast, hz]
    have := Lx.clitN_inj h (c := (j : Int)) (d := c) ⟨by omega, by omega⟩ hc (by rw [e2, e, hn])
    omega)
  rw [this]
  omega
theorem Lx.idx_end {x : Lx.Lexicon} (h : Lx.checkV x = 0) {p : Nat} {g : Lx.Ending} (hg : x.endings[p]? = some g) {k : Int} (hk : g.kind = k) {nm : ByteArray} (hn : nm.data.toList = g.name.data.toList) : idxOf (Lx.pE k nm) x.endings = (p : Int) := by
  refine idxOf_at (p := Lx.pE k nm) hg ?_ (fun j z hj hz => ?_)
  · unfold Lx.pE
    rw [Bool.and_eq_true]
    exact ⟨decide_eq_true hk, decide_eq_true (Lx.bytes_eq hn.symm)⟩
  · unfold Lx.pE
    rw [← Bool.not_eq_true, Bool.and_eq_true]
    rintro ⟨e1, e2⟩
    have e1 := of_decide_eq_true e1
    have e2 := of_decide_eq_true e2
    have := Lx.endN_uniq h hz hg (by rw [e1, hk]) (by rw [e2, hn])
    omega
theorem Lx.map_idx {x : Lx.Lexicon} (h : Lx.checkV x = 0) : ∀ (l : List ByteArray) (cs : List Int), (∀ c ∈ cs, 0 ≤ c ∧ c < x.clitics.length) → l.map (·.data.toList) = cs.map (Lx.clitN x) → (l.map fun n => idxOf (Lx.pC n) x.clitics) = cs
  | [], [], _, _ => rfl
  | [], c :: r, _, e => by simp at e
  | n :: l, [], _, e => by simp at e
  | n :: l, c :: r, hc, e => by
    simp only [List.map_cons, List.cons.injEq] at e
    rw [List.map_cons, Lx.idx_clit h (hc c (by simp)) e.1, Lx.map_idx h l r (fun d hd => hc d (by simp [hd])) e.2]
theorem Lx.bare_valid {x : Lx.Lexicon} (h : Lx.checkV x = 0) {i : Nat} (hi : i < x.entries.length) : Lx.formV x ⟨(i : Int), -1, []⟩ = 0 :=
  Lx.formV_0 h (Lx.within_iff.2 ⟨by simp, by simp; omega⟩) (Lx.endOK_none rfl) (by simp) rfl
/-- of a gloss that is a valid form's: the words, read asq the program reads them, are this form -/
theorem Lx.progF_eq {x : Lx.Lexicon} {g : Lx.Form} {i : Nat} {e : Lx.Entry} {s : ByteArray} (hg : Lx.formV x g = 0) (hs : Lx.glossV x g = s) (hi : g.entry = (i : Int)) (he : x.entries[i]? = some e) {hd nm w0 : ByteArray} {has : Bool} {l : List ByteArray}
    (hsp : Lib.split s.data.toList [61] = w0.data.toList :: l.map (·.data.toList)) (hcut : Lib.cut w0.data.toList [45] = (hd.data.toList, nm.data.toList, has)) : hd = Lx.glossHead e ∧ Lx.progF x i e.kind has nm l = g := by
  have hv := Lx.valid_of hg
  have he' : x.entries[g.entry.toNat]? = some e := by rw [hi, Int.toNat_natCast]; exact he
  have hok := Lx.good_at (Lx.check_parts hv.chk).2.1 he
  rw [← hs, Lx.gloss_split hg he'] at hsp
  injection hsp with h1 h2
  have hc := Lx.endL_cut (Lx.headL e) (Lx.headL_not hok).2 hv.fin
  rw [h1, hcut] at hc
  have hcl := Lx.map_idx hv.chk l g.clitics (Lx.mem_at hv.cl) h2.symm
  rcases hc with ⟨p1, q1⟩ | ⟨p1, u, hu, q1⟩
  · injection q1 with q1 q2
    injection q2 with q2 q3
    refine ⟨Lx.bytes_eq q1, ?_⟩
    unfold Lx.progF
    rw [hcl, q3, ← hi, if_neg (by simp), ← p1]
  · injection q1 with q1 q2
    injection q2 with q2 q3
    refine ⟨Lx.bytes_eq q1, ?_⟩
    unfold Lx.progF
    rw [hcl, q3, ← hi, if_pos rfl, Lx.idx_end hv.chk hu (Lx.form_end hg he' p1 hu) q2, Int.toNat_of_nonneg p1]
theorem Lx.bare_gloss {x : Lx.Lexicon} {i : Nat} {e : Lx.Entry} (h : Lx.checkV x = 0) (he : x.entries[i]? = some e) : Lx.glossR x ⟨(i : Int), -1, []⟩ = Lx.glossHead e := by
  rw [Lx.glossR_ok (Lx.bare_valid h (List.getElem?_eq_some_iff.1 he).1), Lx.gloss_bare he]
end Go.Proofs.YtkmimjngmfdpmaaGreatDoor
namespace Lx
def weighC (x : Lexicon) (c : Int) : Int := match x.clitics[c.toNat]? with
  | some g => g.weight
  | none => 0
def weighCs (x : Lexicon) : List Int → Int
  | [] => 0
  | c :: r => weighC x c + weighCs x r
def weighE (x : Lexicon) (f : Form) (n : Int) : Int := if f.ending < 0 then n else match x.endings[f.ending.toNat]? with
  | some g => n + g.weight
  | none => n
def heavyV (x : Lexicon) (f : Form) : Int := match x.entries[f.entry.toNat]? with
  | some e => weighE x f e.weight + weighCs x f.clitics
  | none => 0
/-- entry, ending and clitics of a form are there -/
structure FitsC (x : Lexicon) (f : Form) : Prop extends Fits x f where
  few : f.clitics.length ≤ 3
  cl : ∀ (k : Nat) (c : Int), f.clitics[k]? = some c → 0 ≤ c ∧ c < x.clitics.length
theorem Valid.fitsC {x : Lexicon} {f : Form} (h : Valid x f) : FitsC x f := { toFits := h.fits, few := h.few, cl := h.cl }
theorem weighE_le {x : Lexicon} {f : Form} {n : Int} (hg : good Ending.ok Ending.same x.endings = true) : n ≤ weighE x f n ∧ weighE x f n ≤ n + 1000 := by
  unfold weighE
  split
  · omega
  · split
    · rename_i g h
      have := ok_ending (good_at hg h)
      omega
    · omega
theorem weighCs_le {x : Lexicon} (hg : good Clitic.ok Clitic.same x.clitics = true) : ∀ (l : List Int), 0 ≤ weighCs x l ∧ weighCs x l ≤ 1000 * l.length
  | [] => by simp [weighCs]
  | c :: r => by
    have h := weighCs_le hg r
    have h1 : 0 ≤ weighC x c ∧ weighC x c ≤ 1000 := by
      unfold weighC
      split
      · rename_i g h
        have := ok_clitic (good_at hg h)
        omega
      · omega
    simp only [weighCs, List.length_cons]
    omega
theorem heavyV_le {x : Lexicon} {f : Form} (h : checkV x = 0) (hf : f.clitics.length ≤ 3) : 0 ≤ heavyV x f ∧ heavyV x f ≤ 5000 := by
  obtain ⟨_, h1, h2, h3⟩ := check_parts h
  unfold heavyV
  split
  · rename_i e he
    have a := ok_entry (good_at h1 he)
    have b := weighE_le (f := f) (n := e.weight) h2
    have c := weighCs_le h3 f.clitics
    omega
  · omega
end Lx
namespace Go.Proofs.YtkmimjngmfdpmaaGreatDoor
open Go.RowKit


end Go.Proofs.YtkmimjngmfdpmaaGreatDoor
namespace Go.Proofs.YtkmimjngmfdpmaaGreatDoor
open Go.RowKit

theorem below_drewN {B : Nat} {a w : World} (h : Below B a w) (n : Nat) : Below B a (w.drewN n) := ⟨h.os, h.tape, h.output, h.size, h.block⟩
theorem nm_of {n c : Nat} (h1 : n ≤ c) (h2 : c ≤ 9223372036854775807) : n ≤ 9223372036854775807 := by omega


end Go.Proofs.YtkmimjngmfdpmaaGreatDoor
namespace Go.Proofs.YtkmimjngmfdpmaaGreatDoor
open Go.RowKit


end Go.Proofs.YtkmimjngmfdpmaaGreatDoor
namespace Go.Proofs.YtkmimjngmfdpmaaGreatDoor
open Go.RowKit

def RetII (a b : Int) (w : World) (e : Ending) (w' : World) : Prop := e = .returned (.tuple #[.int .i64 a, .int .i64 b]) ∧ Below w.heap.size w w'
theorem ret_ii {a b c d : Int} (h : a = b) (h' : c = d) : Ending.returned (.tuple #[.int .i64 a, .int .i64 c]) = .returned (.tuple #[.int .i64 b, .int .i64 d]) := by rw [h, h']
def Lx.stemR (x : Lx.Lexicon) (f : Lx.Form) : ByteArray := if Lx.formV x f = 0 then Lx.stemV x f else ⟨#[]⟩
def Lx.weightR (x : Lx.Lexicon) (f : Lx.Form) : Int := if Lx.formV x f = 0 then Lx.heavyV x f else 0
/-- the sounds of clitics behind t -/
def Lx.saidC (x : Lx.Lexicon) : List Int → ByteArray → ByteArray
  | [], t => t
  | c :: r, t => match x.clitics[c.toNat]? with
    | some g => Lx.saidC x r (t ++ g.text)
    | none => Lx.saidC x r t
def Lx.saidV (x : Lx.Lexicon) (f : Lx.Form) : ByteArray := Lx.saidC x f.clitics (Lx.stemV x f)
def Lx.soundsR (x : Lx.Lexicon) (f : Lx.Form) : ByteArray := if Lx.formV x f = 0 then Lx.saidV x f else ⟨#[]⟩
theorem start_res' (w : World) (A B : Obj) : ((w.alloc A).alloc B).heap[w.heap.size + 1]? = some B := by
  have q := heap_alloc_new (w.alloc A) B
  have hs : (w.alloc A).heap.size = w.heap.size + 1 := by simp
  rw [hs] at q
  exact q
theorem stemV_size {x : Lx.Lexicon} {f : Lx.Form} (h : Lx.checkV x = 0) : (Lx.stemV x f).size ≤ 12 := by
  obtain ⟨_, h1, h2, _⟩ := Lx.check_parts h
  unfold Lx.stemV
  split
  · decide
  · rename_i e he
    have a := (Lx.ok_entry (Lx.good_at h1 he)).2.1
    split
    · omega
    · split
      · rename_i g hg
        have b := (Lx.ok_ending (Lx.good_at h2 hg)).2.1
        rw [ByteArray.size_append]; omega
      · omega









end Go.Proofs.YtkmimjngmfdpmaaGreatDoor
