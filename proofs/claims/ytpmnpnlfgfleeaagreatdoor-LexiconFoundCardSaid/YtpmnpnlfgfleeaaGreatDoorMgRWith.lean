/- lexicon.Cuts: the first cuts, in order. ostraconref05.Cuts: the lists on the way: plain notions. The program's cuts are the reference's: plain law. ostraconref05.with: all forms whose sounds are a line. Made by gen_rwith.py from rwith.tpl. -/
import Derived.Test.YtpmnpnlfgfleeaaGreatDoorMgPut
import Derived.Test.YtpmnpnlfgfleeaaGreatDoorMgCuts
import Derived.Test.YtpmnpnlfgfleeaaGreatDoorMgRankProg
import Derived.Test.YtpmnpnlfgfleeaaGreatDoorMgRTails
import Derived.Test.YtpmnpnlfgfleeaaGreatDoorMgFitsPlain
import Derived.Test.YtpmnpnlfgfleeaaGreatDoorMgStem
namespace Go.Proofs.YtpmnpnlfgfleeaaGreatDoor
open Go.RowKit

/-- the cuts that the program gives -/
def Lx.cutsP (x : Lx.Lexicon) (s : ByteArray) (most : Nat) : List Lx.Cut := Lx.cutsOf (Lx.tabT x (Lx.putT most) (Lx.ats x s) s.size s.size 0)
theorem Cuts_good (x : Lx.Lexicon) (s : ByteArray) (most : Nat) (vx : Value) (w : World) (hr : RdL w w.heap.size vx x) (hz : Lx.speechV x s = 0) (hm1 : 1 ≤ most) (hm2 : most ≤ 64) :
    Calls Tryz.prog 28 #[vx, .string s, .int .i64 most] w (RetVI w (fun w' v => RdG KCut w' (fun b => b < w'.heap.size) v (Lx.cutsP x s most)) 0) := by
  have hchk : Lx.checkV x = 0 := by
    unfold Lx.speechV at hz
    split at hz
    · rename_i h; exact absurd hz h
    · rename_i h; simpa using h
  have hfit : ∀ i m, m ∈ Lx.ats x s i → Lx.MFit x (s.extract i s.size).size m := fun i m hm => Lx.matchesV_fits hchk m hm
  refine Cuts_any (Lx.putT most) x s most vx w hr hz hm1 hm2 (fun l t y h => Lx.putT_mem h) (fun l t => Lx.putT_len hm2 l t) (fun tv l t htv ho => ?_)
  obtain ⟨a0, a1, a2, a3, a4, rfl, hone⟩ := htv
  have hg := Lx.occ_good (x := x) (most := most) (fun i hi m hm => by
    have h := hfit i m hm
    have h2 := h.le
    rw [ByteArray.size_extract] at h2
    exact ⟨Lx.matchesV_flen m hm, Lx.flen_pos hchk h.form.toFits, by omega⟩) ho
  have hm := Lx.occ_more (most := most) (fun j m hm => (hfit j m hm).form.few) ho
  exact add_put hm1 hm2 a0 a1 a2 a3 a4 hone hg.1 hg.2 hm.len hm.tne hm.lne (fun f hf => Nat.le_trans (hm.tfew f hf) (by omega)) (fun y hy f hf => Nat.le_trans (hm.lfew y hy f hf) (by omega))

def Lx.cutsN (x : Lx.Lexicon) (s : ByteArray) (most : Int) : Int := if Lx.speechV x s ≠ 0 then Lx.speechV x s else if Lx.withinB most 1 64 = false then 1 else 0
def Lx.cutsR (x : Lx.Lexicon) (s : ByteArray) (most : Int) : List Lx.Cut := if Lx.cutsN x s most = 0 then Lx.cutsP x s most.toNat else []
theorem CutsF_any (x : Lx.Lexicon) (s : ByteArray) (most : Int) (vx : Value) (w : World) (hr : RdL w w.heap.size vx x) (hs : s.size ≤ 1000) :
    Calls Tryz.prog 28 #[vx, .string s, .int .i64 most] w (RetVI w (fun w' v => RdG KCut w' (fun b => b < w'.heap.size) v (Lx.cutsR x s most)) (Lx.cutsN x s most)) := by
  by_cases hz : Lx.speechV x s = 0
  · cases hw : Lx.withinB most 1 64
    · have e1 : Lx.cutsN x s most = 1 := by unfold Lx.cutsN; rw [if_neg (by simp [hz]), if_pos hw]
      have e2 : Lx.cutsR x s most = [] := by unfold Lx.cutsR; rw [e1]; rfl
      rw [e1, e2]
      refine (Cuts_arg x s most (by simp only [maxLen]; omega) vx w hr hz hw).mono ?_
      rintro e w' ⟨v, rfl, h1, h2⟩
      exact ⟨v, rfl, by rw [h1]; exact RdG.nil _ _, h2⟩
    · have e1 : Lx.cutsN x s most = 0 := by unfold Lx.cutsN; rw [if_neg (by simp [hz]), if_neg (by simp [hw])]
      have e2 : Lx.cutsR x s most = Lx.cutsP x s most.toNat := by unfold Lx.cutsR; rw [if_pos e1]
      rw [e1, e2]
      have hm : 1 ≤ most ∧ most ≤ 64 := by simpa [Lx.withinB] using hw
      have h := Cuts_good x s most.toNat vx w hr hz (by omega) (by omega)
      rwa [show ((most.toNat : Nat) : Int) = most by omega] at h
  · have e1 : Lx.cutsN x s most = Lx.speechV x s := by unfold Lx.cutsN; rw [if_pos hz]
    have e2 : Lx.cutsR x s most = [] := by unfold Lx.cutsR; rw [e1, if_neg hz]
    rw [e1, e2]
    refine (Cuts_err x s most (by simp only [maxLen]; omega) vx w hr hz).mono ?_
    rintro e w' ⟨v, rfl, h1, h2⟩
    exact ⟨v, rfl, by rw [h1]; exact RdG.nil _ _, h2⟩
end Go.Proofs.YtpmnpnlfgfleeaaGreatDoor
namespace Lx
theorem putC_asc {most : Nat} {l : List Cut} {t : Cut} (h : Asc l) : Asc (putC most l t) := (insC_asc h).sublist (List.take_sublist _ _)
theorem putC_mem {most : Nat} {l : List Cut} {t y : Cut} (h : y ∈ putC most l t) : y = t ∨ y ∈ l := insC_mem.1 (List.mem_of_mem_take h)
theorem putC_len (most : Nat) (l : List Cut) (t : Cut) : (putC most l t).length ≤ most := by
  unfold putC
  rw [List.length_take]
  omega
/-- in order, not too long, each asq P says -/
structure Fine (most : Nat) (P : Cut → Prop) (l : List Cut) : Prop where
  asc : Asc l
  len : l.length ≤ most
  mem : ∀ y ∈ l, P y
theorem Fine.nil (most : Nat) (P : Cut → Prop) : Fine most P [] := ⟨List.Pairwise.nil, by simp, fun y hy => by cases hy⟩
theorem Fine.put {most : Nat} {P : Cut → Prop} {l : List Cut} {t : Cut} (h : Fine most P l) (ht : P t) : Fine most P (putC most l t) :=
  ⟨putC_asc h.asc, putC_len _ _ _, fun y hy => by
    rcases putC_mem hy with e | e
    · rw [e]; exact ht
    · exact h.mem y e⟩
theorem Fine.fold {most : Nat} {P : Cut → Prop} : ∀ (L : List Cut) {l : List Cut}, Fine most P l → (∀ y ∈ L, P y) → Fine most P (L.foldl (putC most) l)
  | [], _, h, _ => h
  | t :: r, _, h, hp => Fine.fold r (h.put (hp t (by simp))) (fun y hy => hp y (by simp [hy]))
section
variable (x : Lexicon) (most : Nat) (forms : Nat → Nat → List Form) (n k : Nat)
/-- what one end gives -/
def endC (t : Nat) : List Cut := (forms (n - (k + 1)) t).flatMap fun f => (rtabT x most forms n k t).map (pushC x f)
/-- b ends done -/
def lB (b : Nat) : List Cut := (((nxt n (n - (k + 1))).take b).flatMap (endC x most forms n k)).foldl (putC most) []
/-- and q forms of the next end -/
def lF (b q : Nat) : List Cut := (((forms (n - (k + 1)) (n - (k + 1) + 1 + b)).take q).flatMap fun f => (rtabT x most forms n k (n - (k + 1) + 1 + b)).map (pushC x f)).foldl (putC most) (lB x most forms n k b)
/-- and r cuts behind the next form f -/
def lC (b q : Nat) (f : Form) (r : Nat) : List Cut := (((rtabT x most forms n k (n - (k + 1) + 1 + b)).take r).map (pushC x f)).foldl (putC most) (lF x most forms n k b q)
end
variable {x : Lexicon} {most : Nat} {forms : Nat → Nat → List Form} {n k : Nat}
theorem lB_zero : lB x most forms n k 0 = [] := rfl
theorem lF_zero (b : Nat) : lF x most forms n k b 0 = lB x most forms n k b := rfl
theorem lC_zero (b q : Nat) (f : Form) : lC x most forms n k b q f 0 = lF x most forms n k b q := rfl
theorem lC_succ {b q r : Nat} {f : Form} {c : Cut} (h : (rtabT x most forms n k (n - (k + 1) + 1 + b))[r]? = some c) : lC x most forms n k b q f (r + 1) = putC most (lC x most forms n k b q f r) (pushC x f c) := by
  obtain ⟨hb, rfl⟩ := List.getElem?_eq_some_iff.1 h
  unfold lC
  rw [List.take_succ_eq_append_getElem hb, List.map_append, List.foldl_append]
  rfl
theorem lF_succ {b q : Nat} {f : Form} (h : (forms (n - (k + 1)) (n - (k + 1) + 1 + b))[q]? = some f) : lF x most forms n k b (q + 1) = lC x most forms n k b q f (rtabT x most forms n k (n - (k + 1) + 1 + b)).length := by
  obtain ⟨hb, rfl⟩ := List.getElem?_eq_some_iff.1 h
  unfold lF lC
  rw [List.take_succ_eq_append_getElem hb, List.flatMap_append, List.foldl_append, List.take_length]
  simp
  rfl
theorem nxt_at' {i b : Nat} (h : b < min (n - i) 24) : (nxt n i)[b]? = some (i + 1 + b) := by
  unfold nxt
  rw [List.getElem?_range' h]
  simp
theorem lB_succ {b : Nat} (h : b < min (n - (n - (k + 1))) 24) : lB x most forms n k (b + 1) = lF x most forms n k b (forms (n - (k + 1)) (n - (k + 1) + 1 + b)).length := by
  obtain ⟨hb, he⟩ := List.getElem?_eq_some_iff.1 (nxt_at' h)
  unfold lB lF
  rw [List.take_succ_eq_append_getElem hb, List.flatMap_append, List.foldl_append, List.take_length, he]
  simp [endC]
  rfl
theorem lB_none {b : Nat} (h : b < min (n - (n - (k + 1))) 24) (h0 : rtabT x most forms n k (n - (k + 1) + 1 + b) = []) : lB x most forms n k (b + 1) = lB x most forms n k b := by
  rw [lB_succ h]
  unfold lF
  rw [h0]
  have : ((forms (n - (k + 1)) (n - (k + 1) + 1 + b)).take (forms (n - (k + 1)) (n - (k + 1) + 1 + b)).length).flatMap (fun f => ([] : List Cut).map (pushC x f)) = [] := by
    rw [List.flatMap_eq_nil_iff]
    intro f _
    rfl
  rw [this]
  rfl
theorem lB_end {b : Nat} (h : min (n - (n - (k + 1))) 24 ≤ b) : lB x most forms n k b = rtabT x most forms n (k + 1) (n - (k + 1)) := by
  unfold lB
  rw [List.take_of_length_le (by rw [show (nxt n (n - (k + 1))).length = min (n - (n - (k + 1))) 24 by simp [nxt]]; exact h)]
  show _ = if n - (k + 1) = n - (k + 1) then _ else _
  rw [if_pos rfl]
  rfl
/-- every form of a cut is asq Q says -/
def AllQ (Q : Form → Prop) (c : Cut) : Prop := ∀ f ∈ c.1, Q f
theorem pushC_all {Q : Form → Prop} {f : Form} {c : Cut} (hf : Q f) (hc : AllQ Q c) : AllQ Q (pushC x f c) := fun g hg => by
  have hg' : g ∈ f :: c.1 := hg
  rcases List.mem_cons.1 hg' with e | e
  · rw [e]; exact hf
  · exact hc g e
theorem endC_all {Q : Form → Prop} (hQ : ∀ i t f, f ∈ forms i t → Q f) (ht : ∀ j, ∀ c ∈ rtabT x most forms n k j, AllQ Q c) (t : Nat) : ∀ c ∈ endC x most forms n k t, AllQ Q c := fun c hc => by
  unfold endC at hc
  rw [List.mem_flatMap] at hc
  obtain ⟨f, hf, hc⟩ := hc
  obtain ⟨c', hc', rfl⟩ := List.mem_map.1 hc
  exact pushC_all (hQ _ _ f hf) (ht t c' hc')
theorem rtab_fine {Q : Form → Prop} (hm : 1 ≤ most) (hQ : ∀ i t f, f ∈ forms i t → Q f) : ∀ k j, Fine most (AllQ Q) (rtabT x most forms n k j)
  | 0, j => by
    unfold rtabT
    split
    · exact ⟨List.pairwise_singleton _ _, by simpa using hm, fun y hy => by simp at hy; subst hy; intro f hf; cases hf⟩
    · exact Fine.nil _ _
  | k + 1, j => by
    unfold rtabT
    split
    · refine Fine.fold _ (Fine.nil _ _) fun y hy => ?_
      rw [List.mem_flatMap] at hy
      obtain ⟨t, _, hy⟩ := hy
      exact endC_all hQ (fun j => (rtab_fine hm hQ k j).mem) t y hy
    · exact rtab_fine hm hQ k j
theorem lB_fine {Q : Form → Prop} (hm : 1 ≤ most) (hQ : ∀ i t f, f ∈ forms i t → Q f) (b : Nat) : Fine most (AllQ Q) (lB x most forms n k b) := by
  unfold lB
  refine Fine.fold _ (Fine.nil _ _) fun y hy => ?_
  rw [List.mem_flatMap] at hy
  obtain ⟨t, _, hy⟩ := hy
  exact endC_all hQ (fun j => (rtab_fine hm hQ k j).mem) t y hy
theorem lF_fine {Q : Form → Prop} (hm : 1 ≤ most) (hQ : ∀ i t f, f ∈ forms i t → Q f) (b q : Nat) : Fine most (AllQ Q) (lF x most forms n k b q) := by
  unfold lF
  refine Fine.fold _ (lB_fine hm hQ b) fun y hy => ?_
  rw [List.mem_flatMap] at hy
  obtain ⟨f, hf, hy⟩ := hy
  obtain ⟨c', hc', rfl⟩ := List.mem_map.1 hy
  exact pushC_all (hQ _ _ f (List.mem_of_mem_take hf)) ((rtab_fine hm hQ k _).mem c' hc')
theorem lC_fine {Q : Form → Prop} (hm : 1 ≤ most) (hQ : ∀ i t f, f ∈ forms i t → Q f) (b q : Nat) (f : Form) (hf : Q f) (r : Nat) : Fine most (AllQ Q) (lC x most forms n k b q f r) := by
  unfold lC
  refine Fine.fold _ (lF_fine hm hQ b q) fun y hy => ?_
  obtain ⟨c', hc', rfl⟩ := List.mem_map.1 hy
  exact pushC_all hf ((rtab_fine hm hQ k _).mem c' (List.mem_of_mem_take hc'))
theorem fold_mem {M : List Cut} : ∀ (L : List Cut) {y : Cut}, y ∈ L.foldl (putC most) M → y ∈ L ∨ y ∈ M
  | [], _, h => .inr h
  | t :: r, y, h => by
    rcases fold_mem r h with e | e
    · exact .inl (by simp [e])
    · rcases putC_mem e with e | e
      · exact .inl (by simp [e])
      · exact .inr e
/-- how many forms, how heavy -/
theorem rtab_more (hw : ∀ i t f, f ∈ forms i t → 0 ≤ heavyV x f ∧ heavyV x f ≤ 5000) : ∀ k j, ∀ c ∈ rtabT x most forms n k j, c.1.length ≤ k ∧ 0 ≤ c.2 ∧ c.2 ≤ 5000 * (k : Int)
  | 0, j, c, h => by
    unfold rtabT at h
    split at h
    · simp at h; subst h; simp
    · simp at h
  | k + 1, j, c, h => by
    unfold rtabT at h
    split at h
    · rcases fold_mem _ h with h | h
      · rw [List.mem_flatMap] at h
        obtain ⟨t, _, h⟩ := h
        rw [List.mem_flatMap] at h
        obtain ⟨f, hf, h⟩ := h
        obtain ⟨c', hc', rfl⟩ := List.mem_map.1 h
        obtain ⟨h1, h2, h3⟩ := rtab_more hw k t c' hc'
        have h4 := hw _ _ f hf
        show (f :: c'.1).length ≤ k + 1 ∧ 0 ≤ heavyV x f + c'.2 ∧ heavyV x f + c'.2 ≤ 5000 * ((k + 1 : Nat) : Int)
        rw [List.length_cons]
        omega
      · cases h
    · have := rtab_more hw k j c h
      omega
end Lx
namespace Go.Proofs.YtpmnpnlfgfleeaaGreatDoor
open Go.RowKit

/-- the reference's forms between two places -/
def Lx.formsR (x : Lx.Lexicon) (s : ByteArray) (i t : Nat) : List Lx.Form := Lx.rwithV x (s.extract i t).data.toList
theorem Lx.formsR_with {x : Lx.Lexicon} {s : ByteArray} (h : Lx.checkV x = 0) {i t : Nat} (hi : i < t) (ht : t ≤ s.size) : Lx.formsR x s i t = Lx.withK (Lx.ats x s i) (t - i) := by
  have hs : (s.extract i s.size).size = s.size - i := by simp [ByteArray.size_extract]
  unfold Lx.formsR Lx.ats
  rw [Lx.with_law h (by rw [hs]; omega)]
  congr 1
  unfold Lx.part
  rw [List.drop_zero, Nat.sub_zero, Lib.extract_to_end]
  simp [ByteArray.data_extract]
theorem Lx.ats_fine {x : Lx.Lexicon} {s : ByteArray} (h : Lx.checkV x = 0) : ∀ i, i < s.size → ∀ m ∈ Lx.ats x s i, 1 ≤ m.long ∧ m.long ≤ s.size - i ∧ m.long ≤ 24 := fun i hi m hm => by
  have h1 := Lx.matchesV_fits h m hm
  have h2 := h1.le
  rw [ByteArray.size_extract] at h2
  exact ⟨h1.pos, by omega, Lx.matchesV_far h m hm⟩
theorem Lx.cuts_law {x : Lx.Lexicon} {s : ByteArray} {most : Nat} (h : Lx.checkV x = 0) : Lx.cutsP x s most = Lx.rtabT x most (Lx.formsR x s) s.size s.size 0 := by
  have e : Lx.cutsP x s most = (Lx.tabT x (Lx.putT most) (Lx.ats x s) s.size s.size 0).map Lx.cutOf := rfl
  rw [e]
  exact Lx.tab_law (Lx.ats_fine h) (fun i t hi ht => Lx.formsR_with h hi ht) _ (Nat.le_refl _) 0
end Go.Proofs.YtpmnpnlfgfleeaaGreatDoor
namespace Go.Proofs.YtpmnpnlfgfleeaaGreatDoor
open Go.RowKit

def Lx.rwithN (x : Lx.Lexicon) (t : List UInt8) (n : Nat) : List Lx.Form := (List.range n).flatMap (_root_.Lx.rwithE x t)
def Lx.rwithTo (x : Lx.Lexicon) (t : List UInt8) (i : Nat) (e : Lx.Entry) (n : Nat) : List Lx.Form := (List.range n).flatMap (_root_.Lx.rwithQ x t i e)
theorem Lx.rwithN_succ {x : Lx.Lexicon} {t : List UInt8} {n : Nat} {e : Lx.Entry} (he : x.entries[n]? = some e) : Lx.rwithN x t (n + 1) = Lx.rwithN x t n ++ Lx.rwithTo x t n e (x.endings.length + 1) := by
  unfold Lx.rwithN Lx.rwithTo
  rw [List.range_succ, List.flatMap_append]
  simp [_root_.Lx.rwithE, he]
theorem Lx.rwithTo_next {x : Lx.Lexicon} {t : List UInt8} {i : Nat} {e : Lx.Entry} {p : Int} (h : -1 ≤ p) : Lx.rwithTo x t i e (p + 1 + 1).toNat = Lx.rwithTo x t i e (p + 1).toNat ++ _root_.Lx.rwithQ x t i e (p + 1).toNat := by
  unfold Lx.rwithTo
  rw [show (p + 1 + 1).toNat = (p + 1).toNat + 1 by omega, List.range_succ, List.flatMap_append]
  simp
theorem Lx.rwithQ_skip {x : Lx.Lexicon} {t : List UInt8} {i : Nat} {e : Lx.Entry} {p : Int} (h : -1 ≤ p) (hs : Lx.skipP x e p = true) : _root_.Lx.rwithQ x t i e (p + 1).toNat = [] := by
  rw [_root_.Lx.rwithQ, Lx.skipP_eq x e h, if_pos hs]
theorem Lx.rwithQ_no {x : Lx.Lexicon} {t : List UInt8} {i : Nat} {e : Lx.Entry} {p : Int} (h : -1 ≤ p) (hs : Lx.skipP x e p = false) (hp : (Lx.stemV x ⟨(i : Int), p, []⟩).data.toList.isPrefixOf t = false) : _root_.Lx.rwithQ x t i e (p + 1).toNat = [] := by
  rw [_root_.Lx.rwithQ, Lx.skipP_eq x e h, if_neg (by simp [hs]), show (((p + 1).toNat : Nat) : Int) - 1 = p by omega, if_neg (by simp [hp])]
theorem Lx.rwithQ_yes {x : Lx.Lexicon} {t : List UInt8} {i : Nat} {e : Lx.Entry} {p : Int} (h : -1 ≤ p) (hs : Lx.skipP x e p = false) (hp : (Lx.stemV x ⟨(i : Int), p, []⟩).data.toList.isPrefixOf t = true) :
    _root_.Lx.rwithQ x t i e (p + 1).toNat = (Lx.tailsV x 3 [] 0 (t.drop (Lx.stemV x ⟨(i : Int), p, []⟩).size)).map fun c => ⟨(i : Int), p, c⟩ := by
  rw [_root_.Lx.rwithQ, Lx.skipP_eq x e h, if_neg (by simp [hs]), show (((p + 1).toNat : Nat) : Int) - 1 = p by omega, if_pos hp]

theorem stemV_size' {x : Lx.Lexicon} {f : Lx.Form} (h : Lx.checkV x = 0) : (Lx.stemV x f).size ≤ 12 := by
  obtain ⟨_, h1, h2, _⟩ := Lx.check_parts h
  unfold Lx.stemV
  split
  · decide
  · rename_i e he
    have a := (Lx.ok_entry (Lx.good_at h1 he)).2.1
    split
    · omega
    · split
      · rename_i g hg
        have b := (Lx.ok_ending (Lx.good_at h2 hg)).2.1
        rw [ByteArray.size_append]; omega
      · omega

theorem rdl_keep' {w w1 : World} {v : Value} {x : Lx.Lexicon} (hb : Below w.heap.size w w1) (h : RdL w w.heap.size v x) : RdL w1 w1.heap.size v x := (h.below hb).more hb.size
theorem tailsV_few (x : Lx.Lexicon) : ∀ (k : Nat) (begun : List Int) (first : Nat) (t : List UInt8), ∀ c ∈ Lx.tailsV x k begun first t, c.length ≤ begun.length + k
  | 0, begun, first, t, c, h => by
    unfold Lx.tailsV at h
    split at h
    · simp at h; subst h; omega
    · simp at h
  | k + 1, begun, first, t, c, h => by
    unfold Lx.tailsV at h
    split at h
    · simp at h; subst h; omega
    · rw [List.mem_flatMap] at h
      obtain ⟨i, _, h⟩ := h
      split at h
      · split at h
        · have := tailsV_few x k _ _ _ c h
          simp at this
          omega
        · simp at h
      · simp at h
theorem Lx.rwithQ_len (x : Lx.Lexicon) (t : List UInt8) (hn : x.clitics.length ≤ 10) (i : Nat) (e : Lx.Entry) (q : Nat) : (_root_.Lx.rwithQ x t i e q).length ≤ 1331 := by
  unfold _root_.Lx.rwithQ
  split
  · simp
  · split
    · rw [List.length_map]; exact Lx.tailsV_len x hn 3 _ _ _
    · simp
theorem Lx.rwithTo_len (x : Lx.Lexicon) (t : List UInt8) (hn : x.clitics.length ≤ 10) (i : Nat) (e : Lx.Entry) (n : Nat) : (Lx.rwithTo x t i e n).length ≤ n * 1331 := by
  have := Lx.flatMap_len (f := _root_.Lx.rwithQ x t i e) (B := 1331) (List.range n) (fun a _ => Lx.rwithQ_len x t hn i e a)
  rwa [List.length_range] at this
theorem Lx.rwithN_len (x : Lx.Lexicon) (t : List UInt8) (hn : x.clitics.length ≤ 10) (hm : x.endings.length ≤ 40) (n : Nat) : (Lx.rwithN x t n).length ≤ n * 54571 := by
  have := Lx.flatMap_len (f := _root_.Lx.rwithE x t) (B := 54571) (List.range n) (fun a _ => by
    unfold _root_.Lx.rwithE
    split
    · rename_i e he
      have h := Lx.rwithTo_len x t hn a e (x.endings.length + 1)
      have h2 : (x.endings.length + 1) * 1331 ≤ 41 * 1331 := Nat.mul_le_mul_right _ (by omega)
      exact Nat.le_trans h (by omega)
    · simp)
  rwa [List.length_range] at this
section
variable {α : Type} {K : RowK α}
theorem rdg_keep {w w1 : World} {B : Nat} {v : Value} {xs : List α} (hb : Below w.heap.size w w1) (h : RdG K w (fun b => b < w.heap.size ∧ B ≤ b) v xs) : RdG K w1 (fun b => b < w1.heap.size ∧ B ≤ b) v xs :=
  h.keep fun b hk => ⟨⟨Nat.lt_of_lt_of_le hk.1 hb.size, hk.2⟩, hb.block b hk.1⟩
/-- a list of the call's own that does not lean on one block -/
def OwnGx (K : RowK α) (e : TypeId) (w : World) (base bx : Nat) (v : Value) (xs : List α) : Prop :=
  ∃ cells, w.ownsRow base e K.size v xs.length cells ∧ grows K w (fun b => b < w.heap.size ∧ v.ownBlock ≠ some b ∧ base ≤ b ∧ b ≠ bx) cells xs
theorem OwnGx.of {e : TypeId} {w w' : World} {base bx : Nat} {v : Value} {xs : List α} (h : OwnG K e w base v xs) (hb : Below w.heap.size w w') (hx : w.heap.size ≤ bx) : OwnGx K e w' base bx v xs := by
  obtain ⟨cells, h1, h2⟩ := h
  exact ⟨cells, keep_own h1 hb, h2.keep (fun b hk => ⟨⟨Nat.lt_of_lt_of_le hk.1 hb.size, hk.2.1, hk.2.2, by have := hk.1; omega⟩, hb.block b hk.1⟩)⟩
theorem OwnGx.own {e : TypeId} {w : World} {base bx : Nat} {v : Value} {xs : List α} (h : OwnGx K e w base bx v xs) : OwnG K e w base v xs := by
  obtain ⟨cells, h1, h2⟩ := h
  exact ⟨cells, h1, h2.keep (fun b hk => ⟨⟨hk.1, hk.2.1, hk.2.2.1⟩, rfl⟩)⟩
theorem OwnGx.snoc {e : TypeId} {w w' : World} {base bx : Nat} {v v' : Value} {xs : List α} {a : α} {cells cs : List Value} (h2 : grows K w (fun b => b < w.heap.size ∧ v.ownBlock ≠ some b ∧ base ≤ b ∧ b ≠ bx) cells xs)
    (hm : K.rd w (fun b => b < w.heap.size ∧ v.ownBlock ≠ some b ∧ base ≤ b ∧ b ≠ bx) cs a) (hown : w'.ownsRow base e K.size v' (xs.length + 1) (cells ++ cs)) (hg : w.grownBy w' v.ownBlock)
    (hat : v'.ownBlock = v.ownBlock ∨ ∃ g, v'.ownBlock = some g ∧ w.heap.size ≤ g) : OwnGx K e w' base bx v' (xs ++ [a]) := by
  have hk : ∀ b, (b < w.heap.size ∧ v.ownBlock ≠ some b ∧ base ≤ b ∧ b ≠ bx) → (b < w'.heap.size ∧ v'.ownBlock ≠ some b ∧ base ≤ b ∧ b ≠ bx) ∧ w'.heap[b]? = w.heap[b]? := by
    intro b ⟨hb, hne, hbs⟩
    refine ⟨⟨Nat.lt_of_lt_of_le hb hg.size, ?_, hbs⟩, hg.block b hb (fun e => hne e.symm)⟩
    rcases hat with e | ⟨g, e, hge⟩
    · rw [e]; exact hne
    · rw [e]; intro q; cases q; omega
  exact ⟨_, by rw [List.length_append]; exact hown, (h2.snoc hm).keep hk⟩
end
structure RwR (W0 : World) (s st : ByteArray) (xv vo sv u17 u18 : Value) (bx bf j n : Nat) (p : Int) (ls : List (List Int)) (d : Array Bool) (t : Array Value) (wc : World) : Prop where
  bel : Below (W0).heap.size (W0) wc
  siz : t.size = 76
  k1 : t[1]? = some (.string s)
  k2 : t[2]? = some (.pointer (some ⟨bx, 0, none⟩))
  k5 : t[5]? = some (vo)
  k6 : t[6]? = some (.int .i64 (j : Int))
  k7 : t[7]? = some (.int .i64 p)
  k8 : t[8]? = some (.pointer (some ⟨bf, 0, none⟩))
  k9 : t[9]? = some (.string st)
  k0 : t[0]? = some (xv)
  k3 : t[3]? = some (undef)
  k4 : t[4]? = some (.slice none 0 0)
  k12 : t[12]? = some (.int .i64 (j : Int))
  k13 : t[13]? = some (.pointer (some ⟨bx, 0, none⟩))
  k14 : t[14]? = some (sv)
  k15 : t[15]? = some (.int .i64 (n : Int))
  k16 : t[16]? = some (.bool true)
  k17 : t[17]? = some (u17)
  k18 : t[18]? = some (u18)
  k75 : t[75]? = some (undef)
  p0 : dn d 0 → t[53]? = some (xv)
  p1 : dn d 1 → t[54]? = some (.string s)
  p2 : dn d 2 → t[55]? = some (.string st)
  p3 : dn d 3 → t[56]? = some (.int .i64 (st.size : Int))
  p4 : dn d 4 → t[57]? = some (.string (s.extract st.size s.size))
  p5 : dn d 5 → ∃ v, t[58]? = some v ∧ RdG KInts wc (fun b => b < wc.heap.size ∧ W0.heap.size ≤ b) v ls
  p6 : dn d 6 → ∃ v, t[10]? = some v ∧ RdG KInts wc (fun b => b < wc.heap.size ∧ W0.heap.size ≤ b) v ls
def RwI (W0 : World) (s st : ByteArray) (xv vo sv u17 u18 : Value) (bx bf j n : Nat) (p : Int) (ls : List (List Int)) (d : Array Bool) (a : Act) (wc : World) : Prop := ∃ t : Array Value, a = ⟨t, []⟩ ∧ RwR W0 s st xv vo sv u17 u18 bx bf j n p ls d t wc


end Go.Proofs.YtpmnpnlfgfleeaaGreatDoor
