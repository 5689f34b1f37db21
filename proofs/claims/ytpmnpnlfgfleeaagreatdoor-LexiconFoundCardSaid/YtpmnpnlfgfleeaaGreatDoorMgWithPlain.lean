/- The order of cuts; the first of a sorted list: plain law. Forms with given sounds: plain notions. -/
import Derived.Test.YtpmnpnlfgfleeaaGreatDoorMgCutsPlain
import Derived.Test.YtpmnpnlfgfleeaaGreatDoorMgWeight
namespace Lx
theorem cmpL_neg : ∀ (asq bs : List Int), cmpL asq bs = -cmpL bs asq
  | [], [] => by simp [cmpL]
  | [], b :: bs => by simp [cmpL]
  | a :: asq, [] => by simp [cmpL]
  | a :: asq, b :: bs => by
    rw [cmpL, cmpL]
    by_cases h : a = b
    · rw [if_pos h, if_pos h.symm]; exact cmpL_neg asq bs
    · rw [if_neg h, if_neg (fun e => h e.symm)]; omega
theorem cmpF_neg (a b : Form) : cmpF a b = -cmpF b a := by
  unfold cmpF
  by_cases h : a.entry = b.entry
  · rw [if_pos h, if_pos h.symm]
    by_cases h2 : a.ending = b.ending
    · rw [if_pos h2, if_pos h2.symm]; exact cmpL_neg _ _
    · rw [if_neg h2, if_neg (fun e => h2 e.symm)]; omega
  · rw [if_neg h, if_neg (fun e => h e.symm)]; omega
theorem cmpL_trans : ∀ {asq bs cs : List Int}, cmpL asq bs < 0 → cmpL bs cs < 0 → cmpL asq cs < 0
  | [], [], cs, h, _ => by simp [cmpL] at h
  | [], b :: bs, [], _, h => by simp [cmpL] at h; omega
  | [], b :: bs, c :: cs, _, _ => by simp [cmpL] <;> omega
  | a :: asq, [], cs, h, _ => by (simp [cmpL] at h) <;> omega
  | a :: asq, b :: bs, [], _, h => by simp [cmpL] at h; omega
  | a :: asq, b :: bs, c :: cs, h1, h2 => by
    rw [cmpL] at h1 h2 ⊢
    by_cases e1 : a = b
    · rw [if_pos e1] at h1
      by_cases e2 : b = c
      · rw [if_pos e2] at h2
        rw [if_pos (e1.trans e2)]
        exact cmpL_trans h1 h2
      · rw [if_neg e2] at h2
        rw [if_neg (fun e => e2 (e1.symm.trans e)), e1]
        exact h2
    · rw [if_neg e1] at h1
      by_cases e2 : b = c
      · rw [if_neg (fun e => e1 (e.trans e2.symm)), ← e2]
        exact h1
      · rw [if_neg e2] at h2
        rw [if_neg (by omega)]
        omega
theorem cmpF_trans {a b c : Form} (h1 : cmpF a b < 0) (h2 : cmpF b c < 0) : cmpF a c < 0 := by
  unfold cmpF at *
  by_cases e1 : a.entry = b.entry
  · rw [if_pos e1] at h1
    by_cases e2 : b.entry = c.entry
    · rw [if_pos e2] at h2
      rw [if_pos (e1.trans e2)]
      by_cases g1 : a.ending = b.ending
      · rw [if_pos g1] at h1
        by_cases g2 : b.ending = c.ending
        · rw [if_pos g2] at h2
          rw [if_pos (g1.trans g2)]
          exact cmpL_trans h1 h2
        · rw [if_neg g2] at h2
          rw [if_neg (fun e => g2 (g1.symm.trans e)), g1]
          exact h2
      · rw [if_neg g1] at h1
        by_cases g2 : b.ending = c.ending
        · rw [if_neg (fun e => g1 (e.trans g2.symm)), ← g2]
          exact h1
        · rw [if_neg g2] at h2
          rw [if_neg (by omega)]
          omega
    · rw [if_neg e2] at h2
      rw [if_neg (fun e => e2 (e1.symm.trans e)), e1]
      exact h2
  · rw [if_neg e1] at h1
    by_cases e2 : b.entry = c.entry
    · rw [if_neg (fun e => e1 (e.trans e2.symm)), ← e2]
      exact h1
    · rw [if_neg e2] at h2
      rw [if_neg (by omega)]
      omega
/-- comes before: the forms, then fewer of them -/
def rbL : List Form → List Form → Bool
  | a :: asq, b :: bs => if cmpF a b = 0 then rbL asq bs else decide (cmpF a b < 0)
  | asq, bs => decide (asq.length < bs.length)
abbrev Cut := List Form × Int
def rb (c d : Cut) : Bool := if c.2 = d.2 then rbL c.1 d.1 else decide (c.2 < d.2)
theorem rbL_irrefl : ∀ asq, rbL asq asq = false
  | [] => rfl
  | a :: asq => by rw [rbL, if_pos (cmpF_zero.2 rfl)]; exact rbL_irrefl asq
theorem rbL_trans : ∀ {asq bs cs : List Form}, rbL asq bs = true → rbL bs cs = true → rbL asq cs = true
  | [], [], cs, h, _ => by simp [rbL] at h
  | [], b :: bs, [], _, h => by simp [rbL] at h
  | [], b :: bs, c :: cs, _, _ => by simp [rbL]
  | a :: asq, [], cs, h, _ => by simp [rbL] at h
  | a :: asq, b :: bs, [], _, h => by simp [rbL] at h
  | a :: asq, b :: bs, c :: cs, h1, h2 => by
    rw [rbL] at h1 h2 ⊢
    by_cases e1 : cmpF a b = 0
    · rw [if_pos e1] at h1
      have e1' := cmpF_zero.1 e1
      subst e1'
      by_cases e2 : cmpF a c = 0
      · rw [if_pos e2] at h2 ⊢
        exact rbL_trans h1 h2
      · rw [if_neg e2] at h2 ⊢
        exact h2
    · rw [if_neg e1] at h1
      by_cases e2 : cmpF b c = 0
      · have e2' := cmpF_zero.1 e2
        subst e2'
        rw [if_neg e1]
        exact h1
      · rw [if_neg e2] at h2
        have h3 := cmpF_trans (of_decide_eq_true h1) (of_decide_eq_true h2)
        rw [if_neg (by omega)]
        simpa using h3
theorem rbL_total : ∀ {asq bs : List Form}, rbL asq bs = false → rbL bs asq = false → asq = bs
  | [], [], _, _ => rfl
  | [], b :: bs, h, _ => by simp [rbL] at h
  | a :: asq, [], _, h => by simp [rbL] at h
  | a :: asq, b :: bs, h1, h2 => by
    rw [rbL] at h1 h2
    have hn := cmpF_neg a b
    by_cases e : cmpF a b = 0
    · rw [if_pos e] at h1
      rw [if_pos (by omega)] at h2
      rw [cmpF_zero.1 e, rbL_total h1 h2]
    · rw [if_neg e] at h1
      rw [if_neg (by omega)] at h2
      have := of_decide_eq_false h1
      have := of_decide_eq_false h2
      omega
theorem rb_irrefl (c : Cut) : rb c c = false := by unfold rb; rw [if_pos rfl]; exact rbL_irrefl _
theorem rb_trans {a b c : Cut} (h1 : rb a b = true) (h2 : rb b c = true) : rb a c = true := by
  unfold rb at *
  by_cases e1 : a.2 = b.2
  · rw [if_pos e1] at h1
    by_cases e2 : b.2 = c.2
    · rw [if_pos e2] at h2
      rw [if_pos (e1.trans e2)]
      exact rbL_trans h1 h2
    · rw [if_neg e2] at h2
      rw [if_neg (fun e => e2 (e1.symm.trans e)), e1]
      exact h2
  · rw [if_neg e1] at h1
    by_cases e2 : b.2 = c.2
    · rw [if_neg (fun e => e1 (e.trans e2.symm)), ← e2]
      exact h1
    · rw [if_neg e2] at h2
      have h3 := of_decide_eq_true h1
      have h4 := of_decide_eq_true h2
      rw [if_neg (by omega)]
      simp; omega
theorem rb_total {a b : Cut} (h1 : rb a b = false) (h2 : rb b a = false) : a = b := by
  unfold rb at *
  by_cases e : a.2 = b.2
  · rw [if_pos e] at h1
    rw [if_pos e.symm] at h2
    exact Prod.ext (rbL_total h1 h2) e
  · rw [if_neg e] at h1
    rw [if_neg (fun q => e q.symm)] at h2
    have := of_decide_eq_false h1
    have := of_decide_eq_false h2
    omega
theorem rb_asymm {a b : Cut} (h : rb a b = true) : rb b a = false := by
  cases hb : rb b a
  · rfl
  · have := rb_trans h hb
    rw [rb_irrefl] at this
    cases this
/-- one more into a list in order, behind those that are equal -/
def insC : List Cut → Cut → List Cut
  | [], t => [t]
  | y :: r, t => if rb t y then t :: y :: r else y :: insC r t
def putC (most : Nat) (l : List Cut) (t : Cut) : List Cut := (insC l t).take most
theorem insC_take : ∀ (k : Nat) (l : List Cut) (t : Cut), (insC (l.take k) t).take k = (insC l t).take k
  | 0, _, _ => by simp
  | k + 1, [], t => by simp
  | k + 1, y :: r, t => by
    rw [List.take_succ_cons, insC, insC]
    by_cases h : rb t y = true
    · rw [if_pos h, if_pos h, List.take_succ_cons, List.take_succ_cons]
      cases k with
      | zero => simp
      | succ k => rw [List.take_succ_cons, List.take_succ_cons, List.take_take]; simp
    · rw [if_neg h, if_neg h, List.take_succ_cons, List.take_succ_cons, insC_take k r t]
theorem foldl_putC (most : Nat) : ∀ (L : List Cut) (l : List Cut), L.foldl (putC most) (l.take most) = (L.foldl insC l).take most
  | [], _ => rfl
  | t :: r, l => by
    rw [List.foldl_cons, List.foldl_cons, ← foldl_putC most r (insC l t)]
    congr 1
    exact insC_take most l t
/-- in order -/
def Asc (l : List Cut) : Prop := l.Pairwise fun a b => rb b a = false
theorem insC_mem : ∀ {l : List Cut} {t y : Cut}, y ∈ insC l t ↔ y = t ∨ y ∈ l
  | [], t, y => by simp [insC]
  | z :: r, t, y => by
    unfold insC
    split
    · simp
    · rw [List.mem_cons, insC_mem, List.mem_cons]
      constructor
      · rintro (h | h | h)
        · exact .inr (.inl h)
        · exact .inl h
        · exact .inr (.inr h)
      · rintro (h | h | h)
        · exact .inr (.inl h)
        · exact .inl h
        · exact .inr (.inr h)
theorem insC_asc : ∀ {l : List Cut} {t : Cut}, Asc l → Asc (insC l t)
  | [], t, _ => List.pairwise_singleton _ _
  | z :: r, t, h => by
    unfold insC
    obtain ⟨h1, h2⟩ := List.pairwise_cons.1 h
    split
    · rename_i hz
      refine List.pairwise_cons.2 ⟨fun y hy => ?_, h⟩
      rcases List.mem_cons.1 hy with e | e
      · rw [e]; exact rb_asymm hz
      · cases hyt : rb y t
        · rfl
        · have := rb_trans hyt hz
          rw [h1 y e] at this
          cases this
    · rename_i hz
      refine List.pairwise_cons.2 ⟨fun y hy => ?_, insC_asc h2⟩
      rcases insC_mem.1 hy with e | e
      · rw [e]; simpa using hz
      · exact h1 y e
theorem foldl_insC_asc : ∀ (L : List Cut) {l : List Cut}, Asc l → Asc (L.foldl insC l)
  | [], _, h => h
  | _ :: r, _, h => foldl_insC_asc r (insC_asc h)
theorem insC_perm : ∀ (l : List Cut) (t : Cut), (insC l t).Perm (t :: l)
  | [], _ => .refl _
  | z :: r, t => by
    unfold insC
    split
    · exact .refl _
    · exact ((insC_perm r t).cons z).trans (.swap t z r)
theorem foldl_insC_perm : ∀ (L l : List Cut), (L.foldl insC l).Perm (L ++ l)
  | [], l => .refl _
  | t :: r, l => by
    rw [List.foldl_cons]
    refine (foldl_insC_perm r (insC l t)).trans ?_
    refine ((insC_perm l t).append_left r).trans ?_
    exact List.perm_middle
theorem asc_unique : ∀ {a b : List Cut}, Asc a → Asc b → a.Perm b → a = b
  | [], b, _, _, h => (List.nil_perm.1 h).symm
  | x :: a, [], _, _, h => by
    have := h.length_eq
    simp at this
  | x :: a, y :: b, ha, hb, h => by
    obtain ⟨ha1, ha2⟩ := List.pairwise_cons.1 ha
    obtain ⟨hb1, hb2⟩ := List.pairwise_cons.1 hb
    have e : x = y := by
      have hx : x ∈ y :: b := h.mem_iff.1 (by simp)
      have hy : y ∈ x :: a := h.mem_iff.2 (by simp)
      rcases List.mem_cons.1 hx with e | hx
      · exact e
      · rcases List.mem_cons.1 hy with e | hy
        · exact e.symm
        · exact rb_total (hb1 x hx) (ha1 y hy) |> fun e => e
    subst e
    rw [asc_unique ha2 hb2 (List.Perm.cons_inv h)]
/-- the order in which cuts are put in does not count -/
theorem put_law {most : Nat} {L M : List Cut} (h : L.Perm M) : L.foldl (putC most) [] = M.foldl (putC most) [] := by
  have e1 := foldl_putC most L []
  have e2 := foldl_putC most M []
  rw [List.take_nil] at e1 e2
  rw [e1, e2]
  congr 1
  refine asc_unique (foldl_insC_asc L List.Pairwise.nil) (foldl_insC_asc M List.Pairwise.nil) ?_
  refine (foldl_insC_perm L []).trans (.trans ?_ (foldl_insC_perm M []).symm)
  simpa using h
end Lx
namespace Lx
/-- the lists of clitics that go on from a list and whose texts are t, one after the other -/
def tailsV (x : Lexicon) : Nat → List Int → Nat → List UInt8 → List (List Int)
  | 0, begun, _, t => if t = [] then [begun] else []
  | k + 1, begun, first, t => if t = [] then [begun] else (List.range' first (x.clitics.length - first)).flatMap fun c => match x.clitics[c]? with
      | some g => if g.text.data.toList.isPrefixOf t then tailsV x k (begun ++ [(c : Int)]) (c + 1) (t.drop g.text.size) else []
      | none => []
def tailC (x : Lexicon) (k : Nat) (begun : List Int) (t : List UInt8) (c : Nat) : List (List Int) := match x.clitics[c]? with
  | some g => if g.text.data.toList.isPrefixOf t then tailsV x k (begun ++ [(c : Int)]) (c + 1) (t.drop g.text.size) else []
  | none => []
def tailsTo (x : Lexicon) (k : Nat) (begun : List Int) (t : List UInt8) (first j : Nat) : List (List Int) := (List.range' first (j - first)).flatMap (tailC x k begun t)
theorem tailsV_nil (x : Lexicon) (k : Nat) (begun : List Int) (first : Nat) : tailsV x k begun first [] = [begun] := by
  cases k <;> simp [tailsV]
theorem tailsV_zero {x : Lexicon} {begun : List Int} {first : Nat} {t : List UInt8} (h : t ≠ []) : tailsV x 0 begun first t = [] := by simp [tailsV, h]
theorem tailsV_succ {x : Lexicon} {k : Nat} {begun : List Int} {first : Nat} {t : List UInt8} (h : t ≠ []) : tailsV x (k + 1) begun first t = tailsTo x k begun t first x.clitics.length := by
  rw [tailsV, if_neg h]; rfl
theorem tailsTo_self (x : Lexicon) (k : Nat) (begun : List Int) (t : List UInt8) (first : Nat) : tailsTo x k begun t first first = [] := by simp [tailsTo]
theorem tailsTo_succ {x : Lexicon} {k : Nat} {begun : List Int} {t : List UInt8} {first j : Nat} (h : first ≤ j) : tailsTo x k begun t first (j + 1) = tailsTo x k begun t first j ++ tailC x k begun t j := by
  unfold tailsTo
  rw [show j + 1 - first = (j - first) + 1 by omega, List.range'_concat, List.flatMap_append]
  simp [show first + (j - first) = j by omega]
theorem tailsV_len (x : Lexicon) (hn : x.clitics.length ≤ 10) : ∀ (k : Nat) (begun : List Int) (first : Nat) (t : List UInt8), (tailsV x k begun first t).length ≤ 11 ^ k
  | 0, begun, first, t => by unfold tailsV; split <;> simp
  | k + 1, begun, first, t => by
    unfold tailsV
    have hp : 0 < 11 ^ k := Nat.pow_pos (by omega)
    split
    · simp only [List.length_singleton, Nat.pow_succ]; omega
    · have h := flatMap_len (B := 11 ^ k) (f := tailC x k begun t) (List.range' first (x.clitics.length - first)) (fun c _ => by
        unfold tailC
        split
        · split
          · exact tailsV_len x hn k _ _ _
          · simp
        · simp)
      rw [List.length_range'] at h
      have h1 : (x.clitics.length - first) * 11 ^ k ≤ 10 * 11 ^ k := Nat.mul_le_mul_right _ (by omega)
      rw [Nat.pow_succ]
      exact Nat.le_trans h (by omega)
theorem tailC_len (x : Lexicon) (hn : x.clitics.length ≤ 10) (k : Nat) (begun : List Int) (t : List UInt8) (c : Nat) : (tailC x k begun t c).length ≤ 11 ^ k := by
  unfold tailC
  split
  · split
    · exact tailsV_len x hn k _ _ _
    · simp
  · simp
theorem tailsTo_len (x : Lexicon) (hn : x.clitics.length ≤ 10) (k : Nat) (begun : List Int) (t : List UInt8) (first j : Nat) : (tailsTo x k begun t first j).length ≤ (j - first) * 11 ^ k := by
  have := flatMap_len (f := tailC x k begun t) (B := 11 ^ k) (List.range' first (j - first)) (fun c _ => tailC_len x hn k begun t c)
  rwa [List.length_range'] at this
end Lx
