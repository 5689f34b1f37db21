/- A row of cuts, cut by cut. -/
import Derived.Test.YtpmfjndbckblfaaDoorMgRBefore
import Derived.Test.YtpmfjndbckblfaaDoorMgRTails
namespace Go.Proofs.YtpmfjndbckblfaaDoor
open Go.RowKit

/-- the row at block g reads as these cuts -/
structure RowC (w : World) (base g cap : Nat) (M : List Lx.Cut) (cur : Array Value) : Prop where
  blk : w.heap[g]? = some (.cells cur 51 (0, 0))
  siz : cur.size = cap * 2
  len : M.length ≤ cap
  at_ : ∀ (j : Nat) (m : Lx.Cut), M[j]? = some m → ∃ f, cur[2 * j]? = some f ∧ cur[2 * j + 1]? = some (.int .i64 m.2) ∧ RdG KForm w (fun b => b < w.heap.size ∧ b ≠ g ∧ base ≤ b) f m.1
theorem grows_of {w : World} {ok : Nat → Prop} : ∀ (M : List Lx.Cut) (cells : List Value), cells.length = M.length * 2 → (∀ (j : Nat) (m : Lx.Cut), M[j]? = some m → ∃ f, cells[2 * j]? = some f ∧ cells[2 * j + 1]? = some (.int .i64 m.2) ∧ RdG KForm w ok f m.1) → grows KCut w ok cells M
  | [], cells, hl, _ => by
    have : cells = [] := List.eq_nil_of_length_eq_zero (by simpa using hl)
    subst this
    exact .nil
  | m :: r, cells, hl, h => by
    obtain ⟨f, h1, h2, h3⟩ := h 0 m rfl
    match cells, hl with
    | a :: b :: cs, hl =>
      simp at h1 h2
      subst h1
      subst h2
      have ih := grows_of (ok := ok) r cs (by simp at hl; omega) (fun j m' hj => by
        obtain ⟨f', e1, e2, e3⟩ := h (j + 1) m' (by simpa using hj)
        refine ⟨f', ?_, ?_, e3⟩
        · rw [show 2 * (j + 1) = (2 * j + 1) + 1 by omega] at e1
          simpa using e1
        · rw [show 2 * (j + 1) + 1 = (2 * j + 1 + 1) + 1 by omega] at e2
          simpa using e2)
      exact grows.cons (cs := [a, .int .i64 m.2]) ⟨a, rfl, h3⟩ ih
    | [], hl => simp at hl
    | [a], hl => simp at hl; omega
theorem rowC_own {w : World} {base g cap : Nat} {M : List Lx.Cut} {cur : Array Value} (h : RowC w base g cap M cur) (hb : base ≤ g) (hm : cap ≤ maxLen) : OwnG KCut 51 w base (.slice (some ⟨g, 0, none⟩) M.length cap) M := by
  have hlen := h.len
  have hsz := h.siz
  have hl : (cur.toList.take (M.length * 2)).length = M.length * 2 := by
    have e : cur.toList.length = cur.size := Array.length_toList
    rw [List.length_take, e, hsz]
    exact Nat.min_eq_left (Nat.mul_le_mul_right 2 hlen)
  refine ⟨cur.toList.take (M.length * 2), ⟨by rw [hl]; rfl, .inr ⟨g, cap, cur, rfl, hb, h.blk, h.len, hm, by rw [hsz]; rfl, rfl⟩⟩, ?_⟩
  refine (grows_of (ok := fun b => b < w.heap.size ∧ b ≠ g ∧ base ≤ b) M _ hl (fun j m hj => ?_)).keep (fun b hb' => ⟨⟨hb'.1, fun e => hb'.2.1 (by simpa [Value.ownBlock] using e.symm), hb'.2.2⟩, rfl⟩)
  have hjl := (List.getElem?_eq_some_iff.1 hj).1
  obtain ⟨f, e1, e2, e3⟩ := h.at_ j m hj
  refine ⟨f, ?_, ?_, e3⟩
  · rw [List.getElem?_take, if_pos (by omega), Array.getElem?_toList]; exact e1
  · rw [List.getElem?_take, if_pos (by omega), Array.getElem?_toList]; exact e2
theorem own_rowC {w : World} {base : Nat} {v : Value} {M : List Lx.Cut} (h : OwnG KCut 51 w base v M) (h0 : 0 < M.length) : ∃ g cap cur, v = .slice (some ⟨g, 0, none⟩) M.length cap ∧ base ≤ g ∧ g < w.heap.size ∧ cap ≤ maxLen ∧ RowC w base g cap M cur := by
  obtain ⟨cells, h1, h2⟩ := h
  rcases id h1.2 with ⟨_, e⟩ | ⟨g, cap, cur, rfl, hg, hh, hle, hm, hs, ht⟩
  · omega
  · refine ⟨g, cap, cur, rfl, hg, (h1.lt g rfl).2, hm, hh, hs, hle, fun j m hj => ?_⟩
    have hjl := (List.getElem?_eq_some_iff.1 hj).1
    obtain ⟨c, ⟨f, hc, hf⟩, e2⟩ := h2.at hj
    have e0 := e2 0 f (by rw [hc]; rfl)
    have e1 := e2 1 (.int .i64 m.2) (by rw [hc]; rfl)
    have hK : KCut.size = 2 := rfl
    rw [← ht, List.getElem?_take, Array.getElem?_toList] at e0 e1
    rw [if_pos (by rw [hK]; omega)] at e0 e1
    refine ⟨f, ?_, ?_, hf.keep fun b hb => ⟨⟨hb.1, fun e => hb.2.1 (by rw [e]; rfl), hb.2.2⟩, rfl⟩⟩
    · rw [hK, show j * 2 + 0 = 2 * j by omega] at e0; exact e0
    · rw [hK, show j * 2 + 1 = 2 * j + 1 by omega] at e1; exact e1
/-- two neighbours exchanged -/
theorem RowC.swap {w w' : World} {base g cap i : Nat} {M : List Lx.Cut} {cur : Array Value} {a b : Lx.Cut} {fa fb : Value} (h : RowC w base g cap M cur) (ha : M[i]? = some a) (hb : M[i + 1]? = some b) (ea : cur[2 * i]? = some fa) (eb : cur[2 * (i + 1)]? = some fb)
    (hw : w'.heap[g]? = some (.cells ((((cur.setIfInBounds (2 * (i + 1)) fa).setIfInBounds (2 * (i + 1) + 1) (.int .i64 a.2)).setIfInBounds (2 * i) fb).setIfInBounds (2 * i + 1) (.int .i64 b.2)) 51 (0, 0)))
    (hs : w.heap.size ≤ w'.heap.size) (hk : ∀ k, k < w.heap.size → k ≠ g → w'.heap[k]? = w.heap[k]?) :
    RowC w' base g cap (M.take i ++ b :: a :: M.drop (i + 2)) ((((cur.setIfInBounds (2 * (i + 1)) fa).setIfInBounds (2 * (i + 1) + 1) (.int .i64 a.2)).setIfInBounds (2 * i) fb).setIfInBounds (2 * i + 1) (.int .i64 b.2)) := by
  have hia := (List.getElem?_eq_some_iff.1 ha).1
  have hib := (List.getElem?_eq_some_iff.1 hb).1
  have hlen := h.len
  have hsz := h.siz
  have keep : ∀ {f : Value} {l : List Lx.Form}, RdG KForm w (fun b => b < w.heap.size ∧ b ≠ g ∧ base ≤ b) f l → RdG KForm w' (fun b => b < w'.heap.size ∧ b ≠ g ∧ base ≤ b) f l := fun hf => hf.keep fun k hk' => ⟨⟨by omega, hk'.2⟩, hk k hk'.1 hk'.2.1⟩
  have hML : (M.take i ++ b :: a :: M.drop (i + 2)).length = M.length := by
    rw [List.length_append, List.length_cons, List.length_cons, List.length_take, List.length_drop]; omega
  refine ⟨hw, by simpa using hsz, by rw [hML]; exact hlen, fun j m hj => ?_⟩
  obtain ⟨fa', a1, a2, a3⟩ := h.at_ i a ha
  obtain ⟨fb', b1, b2, b3⟩ := h.at_ (i + 1) b hb
  rw [ea] at a1
  rw [eb] at b1
  cases a1
  cases b1
  have hMj : (M.take i ++ b :: a :: M.drop (i + 2))[j]? = if j < i then M[j]? else if j = i then some b else if j = i + 1 then some a else M[j]? := by
    by_cases h1 : j < i
    · rw [if_pos h1, List.getElem?_append_left (by rw [List.length_take]; omega), List.getElem?_take, if_pos h1]
    · rw [if_neg h1, List.getElem?_append_right (by rw [List.length_take]; omega), List.length_take, Nat.min_eq_left (by omega)]
      by_cases h2 : j = i
      · rw [if_pos h2, h2, Nat.sub_self]; rfl
      · rw [if_neg h2]
        by_cases h3 : j = i + 1
        · rw [if_pos h3, h3, Nat.add_sub_cancel_left]; rfl
        · rw [if_neg h3, show j - i = (j - i - 2) + 1 + 1 by omega, List.getElem?_cons_succ, List.getElem?_cons_succ, List.getElem?_drop, show i + 2 + (j - i - 2) = j by omega]
  rw [hMj] at hj
  by_cases h2 : j = i
  · rw [if_neg (by omega), if_pos h2] at hj
    cases hj
    subst h2
    refine ⟨fb, ?_, ?_, keep b3⟩
    · rw [set_other (by omega), set_same (by simp; omega)]
    · rw [set_same (by simp; omega)]
  · by_cases h3 : j = i + 1
    · rw [if_neg (by omega), if_neg h2, if_pos h3] at hj
      cases hj
      subst h3
      refine ⟨fa, ?_, ?_, keep a3⟩
      · rw [set_other (by omega), set_other (by omega), set_other (by omega), set_same (by omega)]
      · rw [set_other (by omega), set_other (by omega), set_same (by simp; omega)]
    · have hj' : M[j]? = some m := by
        by_cases h1 : j < i
        · rwa [if_pos h1] at hj
        · rwa [if_neg h1, if_neg h2, if_neg h3] at hj
      obtain ⟨f, e1, e2, e3⟩ := h.at_ j m hj'
      refine ⟨f, ?_, ?_, keep e3⟩
      · rw [set_other (by omega), set_other (by omega), set_other (by omega), set_other (by omega)]; exact e1
      · rw [set_other (by omega), set_other (by omega), set_other (by omega), set_other (by omega)]; exact e2
end Go.Proofs.YtpmfjndbckblfaaDoor
