/- ostraconref05.Cuts: the lists on the way: plain notions. The program's cuts are the reference's: plain law. -/
import Derived.Test.YtpmfjndbckblfaaDoorMgRankTab
import Derived.Test.YtpmfjndbckblfaaDoorMgCutsP
namespace Lx
theorem putC_asc {most : Nat} {l : List Cut} {t : Cut} (h : Asc l) : Asc (putC most l t) := (insC_asc h).sublist (List.take_sublist _ _)
theorem putC_mem {most : Nat} {l : List Cut} {t y : Cut} (h : y ∈ putC most l t) : y = t ∨ y ∈ l := insC_mem.1 (List.mem_of_mem_take h)
theorem putC_len (most : Nat) (l : List Cut) (t : Cut) : (putC most l t).length ≤ most := by
  unfold putC
  rw [List.length_take]
  omega
/-- in order, not too long, each asq P says -/
structure Fine (most : Nat) (P : Cut → Prop) (l : List Cut) : Prop where
  asc : Asc l
  len : l.length ≤ most
  mem : ∀ y ∈ l, P y
theorem Fine.nil (most : Nat) (P : Cut → Prop) : Fine most P [] := ⟨List.Pairwise.nil, by simp, fun y hy => by cases hy⟩
theorem Fine.put {most : Nat} {P : Cut → Prop} {l : List Cut} {t : Cut} (h : Fine most P l) (ht : P t) : Fine most P (putC most l t) :=
  ⟨putC_asc h.asc, putC_len _ _ _, fun y hy => by
    rcases putC_mem hy with e | e
    · rw [e]; exact ht
    · exact h.mem y e⟩
theorem Fine.fold {most : Nat} {P : Cut → Prop} : ∀ (L : List Cut) {l : List Cut}, Fine most P l → (∀ y ∈ L, P y) → Fine most P (L.foldl (putC most) l)
  | [], _, h, _ => h
  | t :: r, _, h, hp => Fine.fold r (h.put (hp t (by simp))) (fun y hy => hp y (by simp [hy]))
section
variable (x : Lexicon) (most : Nat) (forms : Nat → Nat → List Form) (n k : Nat)
/-- what one end gives -/
def endC (t : Nat) : List Cut := (forms (n - (k + 1)) t).flatMap fun f => (rtabT x most forms n k t).map (pushC x f)
/-- b ends done -/
def lB (b : Nat) : List Cut := (((nxt n (n - (k + 1))).take b).flatMap (endC x most forms n k)).foldl (putC most) []
/-- and q forms of the next end -/
def lF (b q : Nat) : List Cut := (((forms (n - (k + 1)) (n - (k + 1) + 1 + b)).take q).flatMap fun f => (rtabT x most forms n k (n - (k + 1) + 1 + b)).map (pushC x f)).foldl (putC most) (lB x most forms n k b)
/-- and r cuts behind the next form f -/
def lC (b q : Nat) (f : Form) (r : Nat) : List Cut := (((rtabT x most forms n k (n - (k + 1) + 1 + b)).take r).map (pushC x f)).foldl (putC most) (lF x most forms n k b q)
end
variable {x : Lexicon} {most : Nat} {forms : Nat → Nat → List Form} {n k : Nat}
theorem lB_zero : lB x most forms n k 0 = [] := rfl
theorem lF_zero (b : Nat) : lF x most forms n k b 0 = lB x most forms n k b := rfl
theorem lC_zero (b q : Nat) (f : Form) : lC x most forms n k b q f 0 = lF x most forms n k b q := rfl
theorem lC_succ {b q r : Nat} {f : Form} {c : Cut} (h : (rtabT x most forms n k (n - (k + 1) + 1 + b))[r]? = some c) : lC x most forms n k b q f (r + 1) = putC most (lC x most forms n k b q f r) (pushC x f c) := by
  obtain ⟨hb, rfl⟩ := List.getElem?_eq_some_iff.1 h
  unfold lC
  rw [List.take_succ_eq_append_getElem hb, List.map_append, List.foldl_append]
  rfl
theorem lF_succ {b q : Nat} {f : Form} (h : (forms (n - (k + 1)) (n - (k + 1) + 1 + b))[q]? = some f) : lF x most forms n k b (q + 1) = lC x most forms n k b q f (rtabT x most forms n k (n - (k + 1) + 1 + b)).length := by
  obtain ⟨hb, rfl⟩ := List.getElem?_eq_some_iff.1 h
  unfold lF lC
  rw [List.take_succ_eq_append_getElem hb, List.flatMap_append, List.foldl_append, List.take_length]
  simp
  rfl
theorem nxt_at' {i b : Nat} (h : b < min (n - i) 24) : (nxt n i)[b]? = some (i + 1 + b) := by
  unfold nxt
  rw [List.getElem?_range' h]
  simp
theorem lB_succ {b : Nat} (h : b < min (n - (n - (k + 1))) 24) : lB x most forms n k (b + 1) = lF x most forms n k b (forms (n - (k + 1)) (n - (k + 1) + 1 + b)).length := by
  obtain ⟨hb, he⟩ := List.getElem?_eq_some_iff.1 (nxt_at' h)
  unfold lB lF
  rw [List.take_succ_eq_append_getElem hb, List.flatMap_append, List.foldl_append, List.take_length, he]
  simp [endC]
  rfl
theorem lB_none {b : Nat} (h : b < min (n - (n - (k + 1))) 24) (h0 : rtabT x most forms n k (n - (k + 1) + 1 + b) = []) : lB x most forms n k (b + 1) = lB x most forms n k b := by
  rw [lB_succ h]
  unfold lF
  rw [h0]
  have : ((forms (n - (k + 1)) (n - (k + 1) + 1 + b)).take (forms (n - (k + 1)) (n - (k + 1) + 1 + b)).length).flatMap (fun f => ([] : List Cut).map (pushC x f)) = [] := by
    rw [List.flatMap_eq_nil_iff]
    intro f _
    rfl
  rw [this]
  rfl
theorem lB_end {b : Nat} (h : min (n - (n - (k + 1))) 24 ≤ b) : lB x most forms n k b = rtabT x most forms n (k + 1) (n - (k + 1)) := by
  unfold lB
  rw [List.take_of_length_le (by rw [show (nxt n (n - (k + 1))).length = min (n - (n - (k + 1))) 24 by simp [nxt]]; exact h)]
  show _ = if n - (k + 1) = n - (k + 1) then _ else _
  rw [if_pos rfl]
  rfl
/-- every form of a cut is asq Q says -/
def AllQ (Q : Form → Prop) (c : Cut) : Prop := ∀ f ∈ c.1, Q f
theorem pushC_all {Q : Form → Prop} {f : Form} {c : Cut} (hf : Q f) (hc : AllQ Q c) : AllQ Q (pushC x f c) := fun g hg => by
  have hg' : g ∈ f :: c.1 := hg
  rcases List.mem_cons.1 hg' with e | e
  · rw [e]; exact hf
  · exact hc g e
theorem endC_all {Q : Form → Prop} (hQ : ∀ i t f, f ∈ forms i t → Q f) (ht : ∀ j, ∀ c ∈ rtabT x most forms n k j, AllQ Q c) (t : Nat) : ∀ c ∈ endC x most forms n k t, AllQ Q c := fun c hc => by
  unfold endC at hc
  rw [List.mem_flatMap] at hc
  obtain ⟨f, hf, hc⟩ := hc
  obtain ⟨c', hc', rfl⟩ := List.mem_map.1 hc
  exact pushC_all (hQ _ _ f hf) (ht t c' hc')
theorem rtab_fine {Q : Form → Prop} (hm : 1 ≤ most) (hQ : ∀ i t f, f ∈ forms i t → Q f) : ∀ k j, Fine most (AllQ Q) (rtabT x most forms n k j)
  | 0, j => by
    unfold rtabT
    split
    · exact ⟨List.pairwise_singleton _ _, by simpa using hm, fun y hy => by simp at hy; subst hy; intro f hf; cases hf⟩
    · exact Fine.nil _ _
  | k + 1, j => by
    unfold rtabT
    split
    · refine Fine.fold _ (Fine.nil _ _) fun y hy => ?_
      rw [List.mem_flatMap] at hy
      obtain ⟨t, _, hy⟩ := hy
      exact endC_all hQ (fun j => (rtab_fine hm hQ k j).mem) t y hy
    · exact rtab_fine hm hQ k j
theorem lB_fine {Q : Form → Prop} (hm : 1 ≤ most) (hQ : ∀ i t f, f ∈ forms i t → Q f) (b : Nat) : Fine most (AllQ Q) (lB x most forms n k b) := by
  unfold lB
  refine Fine.fold _ (Fine.nil _ _) fun y hy => ?_
  rw [List.mem_flatMap] at hy
  obtain ⟨t, _, hy⟩ := hy
  exact endC_all hQ (fun j => (rtab_fine hm hQ k j).mem) t y hy
theorem lF_fine {Q : Form → Prop} (hm : 1 ≤ most) (hQ : ∀ i t f, f ∈ forms i t → Q f) (b q : Nat) : Fine most (AllQ Q) (lF x most forms n k b q) := by
  unfold lF
  refine Fine.fold _ (lB_fine hm hQ b) fun y hy => ?_
  rw [List.mem_flatMap] at hy
  obtain ⟨f, hf, hy⟩ := hy
  obtain ⟨c', hc', rfl⟩ := List.mem_map.1 hy
  exact pushC_all (hQ _ _ f (List.mem_of_mem_take hf)) ((rtab_fine hm hQ k _).mem c' hc')
theorem lC_fine {Q : Form → Prop} (hm : 1 ≤ most) (hQ : ∀ i t f, f ∈ forms i t → Q f) (b q : Nat) (f : Form) (hf : Q f) (r : Nat) : Fine most (AllQ Q) (lC x most forms n k b q f r) := by
  unfold lC
  refine Fine.fold _ (lF_fine hm hQ b q) fun y hy => ?_
  obtain ⟨c', hc', rfl⟩ := List.mem_map.1 hy
  exact pushC_all hf ((rtab_fine hm hQ k _).mem c' (List.mem_of_mem_take hc'))
theorem fold_mem {M : List Cut} : ∀ (L : List Cut) {y : Cut}, y ∈ L.foldl (putC most) M → y ∈ L ∨ y ∈ M
  | [], _, h => .inr h
  | t :: r, y, h => by
    rcases fold_mem r h with e | e
    · exact .inl (by simp [e])
    · rcases putC_mem e with e | e
      · exact .inl (by simp [e])
      · exact .inr e
/-- how many forms, how heavy -/
theorem rtab_more (hw : ∀ i t f, f ∈ forms i t → 0 ≤ heavyV x f ∧ heavyV x f ≤ 5000) : ∀ k j, ∀ c ∈ rtabT x most forms n k j, c.1.length ≤ k ∧ 0 ≤ c.2 ∧ c.2 ≤ 5000 * (k : Int)
  | 0, j, c, h => by
    unfold rtabT at h
    split at h
    · simp at h; subst h; simp
    · simp at h
  | k + 1, j, c, h => by
    unfold rtabT at h
    split at h
    · rcases fold_mem _ h with h | h
      · rw [List.mem_flatMap] at h
        obtain ⟨t, _, h⟩ := h
        rw [List.mem_flatMap] at h
        obtain ⟨f, hf, h⟩ := h
        obtain ⟨c', hc', rfl⟩ := List.mem_map.1 h
        obtain ⟨h1, h2, h3⟩ := rtab_more hw k t c' hc'
        have h4 := hw _ _ f hf
        show (f :: c'.1).length ≤ k + 1 ∧ 0 ≤ heavyV x f + c'.2 ∧ heavyV x f + c'.2 ≤ 5000 * ((k + 1 : Nat) : Int)
        rw [List.length_cons]
        omega
      · cases h
    · have := rtab_more hw k j c h
      omega
end Lx
namespace Go.Proofs.YtpmfjndbckblfaaDoor
open Go.RowKit

/-- the reference's forms between two places -/
def Lx.formsR (x : Lx.Lexicon) (s : ByteArray) (i t : Nat) : List Lx.Form := Lx.rwithV x (s.extract i t).data.toList
theorem Lx.formsR_with {x : Lx.Lexicon} {s : ByteArray} (h : Lx.checkV x = 0) {i t : Nat} (hi : i < t) (ht : t ≤ s.size) : Lx.formsR x s i t = Lx.withK (Lx.ats x s i) (t - i) := by
  have hs : (s.extract i s.size).size = s.size - i := by simp [ByteArray.size_extract]
  unfold Lx.formsR Lx.ats
  rw [Lx.with_law h (by rw [hs]; omega)]
  congr 1
  unfold Lx.part
  rw [List.drop_zero, Nat.sub_zero, Lib.extract_to_end]
  simp [ByteArray.data_extract]
theorem Lx.ats_fine {x : Lx.Lexicon} {s : ByteArray} (h : Lx.checkV x = 0) : ∀ i, i < s.size → ∀ m ∈ Lx.ats x s i, 1 ≤ m.long ∧ m.long ≤ s.size - i ∧ m.long ≤ 24 := fun i hi m hm => by
  have h1 := Lx.matchesV_fits h m hm
  have h2 := h1.le
  rw [ByteArray.size_extract] at h2
  exact ⟨h1.pos, by omega, Lx.matchesV_far h m hm⟩
theorem Lx.cuts_law {x : Lx.Lexicon} {s : ByteArray} {most : Nat} (h : Lx.checkV x = 0) : Lx.cutsP x s most = Lx.rtabT x most (Lx.formsR x s) s.size s.size 0 := by
  have e : Lx.cutsP x s most = (Lx.tabT x (Lx.putT most) (Lx.ats x s) s.size s.size 0).map Lx.cutOf := rfl
  rw [e]
  exact Lx.tab_law (Lx.ats_fine h) (fun i t hi ht => Lx.formsR_with h hi ht) _ (Nat.le_refl _) 0
end Go.Proofs.YtpmfjndbckblfaaDoor
