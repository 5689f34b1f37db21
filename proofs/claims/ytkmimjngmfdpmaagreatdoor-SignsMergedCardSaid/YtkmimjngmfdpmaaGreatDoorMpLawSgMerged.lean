/- SignsMerged: the law's walk. Made by gen_sglaw16.py. -/
import Derived.Test.YtkmimjngmfdpmaaGreatDoorMpSgGMerge
import Derived.Test.YtkmimjngmfdpmaaGreatDoorMpSgLFind
import Derived.Test.YtkmimjngmfdpmaaGreatDoorMpSgMergePlain
import Derived.Test.YtkmimjngmfdpmaaGreatDoorMpEqual
import Derived.Test.YtkmimjngmfdpmaaGreatDoorMpSgFind
import Derived.Test.YtkmimjngmfdpmaaGreatDoorMpSgTidyL
import Derived.Test.YtkmimjngmfdpmaaGreatDoorMpSgSame
import Derived.Test.YtkmimjngmfdpmaaGreatDoorMpSgWorks
namespace Go.Proofs.YtkmimjngmfdpmaaGreatDoor
open Go Go.RowKit
theorem r1Same_both (v v' : Value) (l : Sg.SList) (w : World) (ha : RdSL w w.heap.size v l) (hb : RdSL w w.heap.size v' l) : Calls Tryz.prog 23 #[v, v'] w (RetBB true w) := by
  refine (r1Same_any v v' l l w ha hb).mono ?_
  rintro e w' ⟨q, rfl, hq, hb⟩
  have : q = true := hq.2 ⟨rfl, rfl⟩
  subst this
  exact ⟨rfl, hb⟩
theorem Sg.want_next {w l : List Sg.Value} {k : Nat} {x : Sg.Value} (h : l[k]? = some x) : Sg.wantV w (l.take (k + 1)) = Sg.wantK (Sg.wantV w (l.take k)) x := by
  unfold Sg.wantV
  rw [List.take_add_one, h, List.foldl_append]
  rfl
theorem Sg.want_len (w : List Sg.Value) : ∀ l : List Sg.Value, (Sg.wantV w l).length ≤ w.length + l.length := by
  intro l
  induction l generalizing w with
  | nil => exact Nat.le_refl _
  | cons x l ih =>
    have h1 := ih (Sg.wantK w x)
    have h2 : (Sg.wantK w x).length ≤ w.length + 1 := by
      unfold Sg.wantK
      split
      · omega
      · simp
    show (Sg.wantV (Sg.wantK w x) l).length ≤ _
    rw [List.length_cons]
    omega
theorem Sg.use_len (L : List Sg.Value) (p : Int) : (Sg.useL L p).length ≤ L.length := List.length_filter_le _ _
theorem Sg.vals_len {a : Sg.SList} (h : Sg.checkV a = 0) (c : ByteArray) : (Sg.valsAt a.signs c).length ≤ 12 := by
  unfold Sg.valsAt
  cases hf : a.signs.find? (Sg.isC c) with
  | none => exact Nat.zero_le _
  | some t => exact (Sg.valid_le h (List.mem_of_find?_eq_some hf)).1
theorem Sg.find_split {a : Sg.SList} (h : Sg.checkV a = 0) (c : ByteArray) : (Sg.hasC a.signs c = false ∧ Sg.findV a c = (0, 3) ∧ Sg.valsAt a.signs c = []) ∨ ∃ (i : Nat) (t : Sg.Sign), a.signs[i]? = some t ∧ Sg.findV a c = ((i : Int), 0) ∧ Sg.valsAt a.signs c = t.values := by
  have hcd : Sg.codeIs c = Sg.isC c := by funext t; rfl
  cases hh : Sg.hasC a.signs c
  · left
    refine ⟨rfl, ?_, Sg.vals_not hh⟩
    unfold Sg.findV
    rw [if_neg (by simp [h]), hcd, idx_not hh]
    rfl
  · right
    obtain ⟨i, t, hi, hp, e⟩ := idx_at (p := Sg.isC c) (xs := a.signs) hh
    have hc : t.code = c := by simpa [Sg.isC] using hp
    refine ⟨i, t, hi, ?_, ?_⟩
    · unfold Sg.findV
      rw [if_neg (by simp [h]), hcd, e, if_neg (by omega)]
    · rw [← hc]
      exact Sg.vals_one (Sg.uniq_of h) (List.mem_of_getElem? hi)
theorem rds_keepV {w w' : World} {v : Value} {X : List Sg.Value} (hb : Below w.heap.size w w') (h : RdS w w.heap.size 4 encValue v X) : RdS w' w'.heap.size 4 encValue v X := (h.below hb).more hb.size
/-- two rows of values apart -/
def Apart (v u : Value) : Prop := ∀ g, v.ownBlock = some g → u.ownBlock ≠ some g
theorem no_str {w : World} {g o : Nat} {p : Int} {s : ByteArray} (hz : w.heap[g]? = some (.cells #[.int .i64 p, .slice none 0 0] 24 (0, 0))) : w.cell? ⟨g, o, none⟩ ≠ some (.string s) := by
  intro h
  simp only [World.cell?, hz] at h
  match o with
  | 0 => simp at h
  | 1 => simp at h
  | o + 2 => simp at h
theorem rdx_off {w : World} {ok : Nat → Prop} {g : Nat} {p : Int} {v : Value} {xs : List Sg.Value} (hz : w.heap[g]? = some (.cells #[.int .i64 p, .slice none 0 0] 24 (0, 0))) (h : RdX w ok 4 encValue v xs) : RdX w (fun b => ok b ∧ b ≠ g) 4 encValue v xs := by
  obtain ⟨A, c, hv, hl, hc, hh⟩ := h
  refine ⟨A, c, hv, hl, hc, fun h0 => ?_⟩
  obtain ⟨b, off, hA, hb, hcell⟩ := hh h0
  refine ⟨b, off, hA, ⟨hb, fun e => ?_⟩, hcell⟩
  subst e
  exact no_str hz (hcell 0 _ (List.getElem?_eq_getElem h0) 1 _ rfl)
theorem rdg_off {w : World} {ok : Nat → Prop} {g : Nat} {p : Int} {v : Value} {xs : List Sg.Sign} (hz : w.heap[g]? = some (.cells #[.int .i64 p, .slice none 0 0] 24 (0, 0))) (h : RdG KSign w ok v xs) : RdG KSign w (fun b => ok b ∧ b ≠ g) v xs := by
  obtain ⟨A, c, hv, hl, hc, hh⟩ := h
  refine ⟨A, c, hv, hl, hc, fun h0 => ?_⟩
  obtain ⟨b, off, hA, hb, hcell⟩ := hh h0
  refine ⟨b, off, hA, ⟨hb, fun e => ?_⟩, fun i a ha => ?_⟩
  · subst e
    obtain ⟨cs, ⟨u, rfl, -⟩, hc⟩ := hcell 0 _ (List.getElem?_eq_getElem h0)
    exact no_str hz (hc 0 _ rfl)
  · obtain ⟨cs, ⟨u, hu, hx⟩, hc⟩ := hcell i a ha
    exact ⟨cs, ⟨u, hu, rdx_off hz hx⟩, hc⟩
/-- a list's box is written: the list that it holds is as it was -/
theorem rdsl_box {w : World} {g : Nat} {p : Int} {v u0 u1 : Value} {l : Sg.SList} (hz : w.heap[g]? = some (.cells #[.int .i64 p, .slice none 0 0] 24 (0, 0))) (h : RdSL w w.heap.size v l) :
    RdSL ((w.setCell ⟨g, 0, none⟩ u0).setCell ⟨g, 1, none⟩ u1) ((w.setCell ⟨g, 0, none⟩ u0).setCell ⟨g, 1, none⟩ u1).heap.size v l := by
  obtain ⟨⟨u, rfl, hg⟩, hf⟩ := h
  refine ⟨⟨u, rfl, (rdg_off hz hg).keep fun b hb => ⟨by simp [World.setCell]; exact hb.1, ?_⟩⟩, hf⟩
  rw [Below.heap_setCell _ ⟨g, 1, none⟩ _ _ (by exact hb.2), Below.heap_setCell _ ⟨g, 0, none⟩ _ _ (by exact hb.2)]
theorem box_heap {w : World} {g : Nat} {p : Int} {u0 u1 : Value} (hz : w.heap[g]? = some (.cells #[.int .i64 p, .slice none 0 0] 24 (0, 0))) : ((w.setCell ⟨g, 0, none⟩ u0).setCell ⟨g, 1, none⟩ u1).heap[g]? = some (.cells #[u0, u1] 24 (0, 0)) := by
  rw [gset (gset hz u0) u1]
  rfl
structure LmfR (T0 : Array Value) (W0 : World) (a' b' ML : Sg.SList) (er : Int) (A0 A1 : Option Addr) (c0 c1 : Nat) (xb yb : Nat) (d : Array Bool) (t : Array Value) (wc : World) : Prop where
  bel : Below W0.heap.size W0 wc
  siz : t.size = 170
  kp : ∀ i, i ∉ ([5, 6, 37, 38, 39, 40, 41, 42, 43, 44] : List Nat) → t[i]? = T0[i]?
  k2 : t[2]? = some (.pointer (some ⟨xb, 0, none⟩))
  p0 : dn d 0 → t[38]? = some (.agg #[.int .i64 a'.periods, .slice A0 a'.signs.length c0])
  p2 : dn d 2 → t[40]? = some (.agg #[.int .i64 b'.periods, .slice A1 b'.signs.length c1])
  p5 : dn d 5 → ∃ v, t[37]? = some v ∧ ∃ y, v = .tuple #[y, .int .i64 er]
  p7 : dn d 7 → t[44]? = some (.int .i64 er)
  p10 : dn d 10 → t[6]? = some (.int .i64 er)
  l1 : dn d 1 → dn d 0
  l3 : dn d 3 → dn d 2
  l4 : dn d 4 → dn d 1 ∧ dn d 3
  l5 : dn d 5 → dn d 4
  l6 : dn d 6 → dn d 5
  l9 : dn d 9 → dn d 6 ∧ dn d 8
  c1 : dn d 1 → ¬ dn d 4 → ∃ v, t[39]? = some v ∧ RdSL wc wc.heap.size v a'
  c3 : dn d 3 → ¬ dn d 4 → ∃ v, t[41]? = some v ∧ RdSL wc wc.heap.size v b'
  c4 : dn d 4 → ¬ dn d 9 → ∃ v, t[42]? = some (.tuple #[v, .int .i64 er]) ∧ RdSL wc wc.heap.size v ML
  c5 : dn d 5 → ¬ dn d 9 → ∃ v, t[37]? = some (.tuple #[v, .int .i64 er]) ∧ RdSL wc wc.heap.size v ML
  c6 : dn d 6 → ¬ dn d 9 → ∃ v, t[43]? = some v ∧ RdSL wc wc.heap.size v ML
  c8 : dn d 8 → ¬ dn d 9 → ∃ g, t[5]? = some (.pointer (some ⟨g, 0, none⟩)) ∧ W0.heap.size ≤ g ∧ wc.heap[g]? = some (.cells #[.int .i64 0, .slice none 0 0] 24 (0, 0))
  c9 : dn d 9 → ∃ g A c, t[5]? = some (.pointer (some ⟨g, 0, none⟩)) ∧ W0.heap.size ≤ g ∧ wc.heap[g]? = some (.cells #[.int .i64 ML.periods, .slice A ML.signs.length c] 24 (0, 0)) ∧ RdSL wc wc.heap.size (.agg #[.int .i64 ML.periods, .slice A ML.signs.length c]) ML
def LmfI (T0 : Array Value) (W0 : World) (a' b' ML : Sg.SList) (er : Int) (A0 A1 : Option Addr) (c0 c1 : Nat) (xb yb : Nat) (d : Array Bool) (a : Act) (wc : World) : Prop := ∃ t : Array Value, a = ⟨t, []⟩ ∧ LmfR T0 W0 a' b' ML er A0 A1 c0 c1 xb yb d t wc
structure LmgR (T0 : Array Value) (W0 : World) (a' b' ML : Sg.SList) (er : Int) (A0 A1 : Option Addr) (c0 c1 : Nat) (xb yb : Nat) (d : Array Bool) (t : Array Value) (wc : World) : Prop where
  bel : Below W0.heap.size W0 wc
  siz : t.size = 170
  kp : ∀ i, i ∉ ([9, 10, 63, 64, 65, 66, 67, 68, 69, 70] : List Nat) → t[i]? = T0[i]?
  k2 : t[2]? = some (.pointer (some ⟨xb, 0, none⟩))
  k3 : t[3]? = some (.pointer (some ⟨yb, 0, none⟩))
  p0 : dn d 0 → t[64]? = some (.agg #[.int .i64 a'.periods, .slice A0 a'.signs.length c0])
  p2 : dn d 2 → t[66]? = some (.agg #[.int .i64 b'.periods, .slice A1 b'.signs.length c1])
  p5 : dn d 5 → ∃ v, t[63]? = some v ∧ ∃ y, v = .tuple #[y, .int .i64 er]
  p7 : dn d 7 → t[70]? = some (.int .i64 er)
  p10 : dn d 10 → t[10]? = some (.int .i64 er)
  l1 : dn d 1 → dn d 0
  l3 : dn d 3 → dn d 2
  l4 : dn d 4 → dn d 1 ∧ dn d 3
  l5 : dn d 5 → dn d 4
  l6 : dn d 6 → dn d 5
  l9 : dn d 9 → dn d 6 ∧ dn d 8
  c1 : dn d 1 → ¬ dn d 4 → ∃ v, t[65]? = some v ∧ RdSL wc wc.heap.size v a'
  c3 : dn d 3 → ¬ dn d 4 → ∃ v, t[67]? = some v ∧ RdSL wc wc.heap.size v b'
  c4 : dn d 4 → ¬ dn d 9 → ∃ v, t[68]? = some (.tuple #[v, .int .i64 er]) ∧ RdSL wc wc.heap.size v ML
  c5 : dn d 5 → ¬ dn d 9 → ∃ v, t[63]? = some (.tuple #[v, .int .i64 er]) ∧ RdSL wc wc.heap.size v ML
  c6 : dn d 6 → ¬ dn d 9 → ∃ v, t[69]? = some v ∧ RdSL wc wc.heap.size v ML
  c8 : dn d 8 → ¬ dn d 9 → ∃ g, t[9]? = some (.pointer (some ⟨g, 0, none⟩)) ∧ W0.heap.size ≤ g ∧ wc.heap[g]? = some (.cells #[.int .i64 0, .slice none 0 0] 24 (0, 0))
  c9 : dn d 9 → ∃ g A c, t[9]? = some (.pointer (some ⟨g, 0, none⟩)) ∧ W0.heap.size ≤ g ∧ wc.heap[g]? = some (.cells #[.int .i64 ML.periods, .slice A ML.signs.length c] 24 (0, 0)) ∧ RdSL wc wc.heap.size (.agg #[.int .i64 ML.periods, .slice A ML.signs.length c]) ML
def LmgI (T0 : Array Value) (W0 : World) (a' b' ML : Sg.SList) (er : Int) (A0 A1 : Option Addr) (c0 c1 : Nat) (xb yb : Nat) (d : Array Bool) (a : Act) (wc : World) : Prop := ∃ t : Array Value, a = ⟨t, []⟩ ∧ LmgR T0 W0 a' b' ML er A0 A1 c0 c1 xb yb d t wc
structure LmhR (T0 : Array Value) (W0 : World) (xb gb : Nat) (pa : Int) (A : Option Addr) (na c bm om nm dm j : Nat) (cd : ByteArray) (q1 q2 : Int) (d : Array Bool) (t : Array Value) (wc : World) : Prop where
  bel : Below W0.heap.size W0 wc
  siz : t.size = 170
  kp : ∀ i, i ∉ ([14, 15, 85, 86, 87, 88, 89, 90, 91, 92, 93, 94, 95] : List Nat) → t[i]? = T0[i]?
  k2 : t[2]? = some (.pointer (some ⟨xb, 0, none⟩))
  k9 : t[9]? = some (.pointer (some ⟨gb, 0, none⟩))
  k12 : t[12]? = some (.int .i64 (j : Nat))
  p0 : dn d 0 → t[86]? = some (.agg #[.int .i64 pa, .slice A na c])
  p1 : dn d 1 → t[87]? = some (.pointer (some ⟨gb, 1, none⟩))
  p2 : dn d 2 → t[88]? = some (.slice (some ⟨bm, om, none⟩) nm dm)
  p3 : dn d 3 → t[89]? = some (.int .i64 (j : Nat))
  p4 : dn d 4 → t[90]? = some (.pointer (some ⟨bm, om + j * 5, none⟩))
  p5 : dn d 5 → t[91]? = some (.pointer (some ⟨bm, om + j * 5, none⟩))
  p6 : dn d 6 → t[92]? = some (.string cd)
  p7 : dn d 7 → t[93]? = some (.tuple #[.int .i64 q1, .int .i64 q2])
  p8 : dn d 8 → t[85]? = some (.tuple #[.int .i64 q1, .int .i64 q2])
  p9 : dn d 9 → t[94]? = some (.int .i64 q1)
  p10 : dn d 10 → t[95]? = some (.int .i64 q2)
  p11 : dn d 11 → t[14]? = some (.int .i64 q1)
  p12 : dn d 12 → t[15]? = some (.int .i64 q2)
def LmhI (T0 : Array Value) (W0 : World) (xb gb : Nat) (pa : Int) (A : Option Addr) (na c bm om nm dm j : Nat) (cd : ByteArray) (q1 q2 : Int) (d : Array Bool) (a : Act) (wc : World) : Prop := ∃ t : Array Value, a = ⟨t, []⟩ ∧ LmhR T0 W0 xb gb pa A na c bm om nm dm j cd q1 q2 d t wc
structure LmiR (T0 : Array Value) (W0 : World) (xb gb : Nat) (pa : Int) (A : Option Addr) (na c bm om nm dm j : Nat) (cd : ByteArray) (q1 q2 : Int) (d : Array Bool) (t : Array Value) (wc : World) : Prop where
  bel : Below W0.heap.size W0 wc
  siz : t.size = 170
  kp : ∀ i, i ∉ ([16, 17, 96, 97, 98, 99, 100, 101, 102, 103, 104, 105, 106] : List Nat) → t[i]? = T0[i]?
  k3 : t[3]? = some (.pointer (some ⟨xb, 0, none⟩))
  k9 : t[9]? = some (.pointer (some ⟨gb, 0, none⟩))
  k12 : t[12]? = some (.int .i64 (j : Nat))
  p0 : dn d 0 → t[97]? = some (.agg #[.int .i64 pa, .slice A na c])
  p1 : dn d 1 → t[98]? = some (.pointer (some ⟨gb, 1, none⟩))
  p2 : dn d 2 → t[99]? = some (.slice (some ⟨bm, om, none⟩) nm dm)
  p3 : dn d 3 → t[100]? = some (.int .i64 (j : Nat))
  p4 : dn d 4 → t[101]? = some (.pointer (some ⟨bm, om + j * 5, none⟩))
  p5 : dn d 5 → t[102]? = some (.pointer (some ⟨bm, om + j * 5, none⟩))
  p6 : dn d 6 → t[103]? = some (.string cd)
  p7 : dn d 7 → t[104]? = some (.tuple #[.int .i64 q1, .int .i64 q2])
  p8 : dn d 8 → t[96]? = some (.tuple #[.int .i64 q1, .int .i64 q2])
  p9 : dn d 9 → t[105]? = some (.int .i64 q1)
  p10 : dn d 10 → t[106]? = some (.int .i64 q2)
  p11 : dn d 11 → t[16]? = some (.int .i64 q1)
  p12 : dn d 12 → t[17]? = some (.int .i64 q2)
def LmiI (T0 : Array Value) (W0 : World) (xb gb : Nat) (pa : Int) (A : Option Addr) (na c bm om nm dm j : Nat) (cd : ByteArray) (q1 q2 : Int) (d : Array Bool) (a : Act) (wc : World) : Prop := ∃ t : Array Value, a = ⟨t, []⟩ ∧ LmiR T0 W0 xb gb pa A na c bm om nm dm j cd q1 q2 d t wc
structure LmjR (T0 : Array Value) (W0 : World) (bl ol nl cl k : Nat) (AW : Option Addr) (nW cW : Nat) (x : Sg.Value) (X : List Sg.Value) (q : Bool) (d : Array Bool) (t : Array Value) (wc : World) : Prop where
  bel : Below W0.heap.size W0 wc
  siz : t.size = 170
  kp : ∀ i, i ∉ ([131, 132, 133, 134, 135, 136, 137, 138, 139, 140, 141, 142, 143] : List Nat) → t[i]? = T0[i]?
  k18 : t[18]? = some (.slice (some ⟨bl, ol, none⟩) nl cl)
  k19 : t[19]? = some (.int .i64 (k : Nat))
  k13 : t[13]? = some (.slice AW nW cW)
  p0 : dn d 0 → t[131]? = some (.slice (some ⟨bl, ol, none⟩) nl cl)
  p1 : dn d 1 → t[132]? = some (.int .i64 (k : Nat))
  p2 : dn d 2 → t[133]? = some (.int .i64 (k : Nat))
  p3 : dn d 3 → t[134]? = some (.int .i64 ((k : Int) + 1))
  p4 : dn d 4 → t[135]? = some (.slice (some ⟨bl, ol + k * 4, none⟩) 1 (cl - k))
  p5 : dn d 5 → t[136]? = some (.slice AW nW cW)
  p6 : dn d 6 → t[137]? = some (.slice (some ⟨bl, ol, none⟩) nl cl)
  p7 : dn d 7 → t[138]? = some (.int .i64 (k : Nat))
  p8 : dn d 8 → t[139]? = some (.pointer (some ⟨bl, ol + k * 4, none⟩))
  p9 : dn d 9 → t[140]? = some (.agg #[.int .i64 x.kind, .string x.text, .int .i64 x.lo, .int .i64 x.hi])
  p10 : dn d 10 → ∃ v, t[141]? = some v ∧ RdS wc wc.heap.size 4 encValue v (Sg.findN X x)
  p11 : dn d 11 → t[142]? = some (.bool q)
  p12 : dn d 12 → t[143]? = some (.bool (!q))
def LmjI (T0 : Array Value) (W0 : World) (bl ol nl cl k : Nat) (AW : Option Addr) (nW cW : Nat) (x : Sg.Value) (X : List Sg.Value) (q : Bool) (d : Array Bool) (a : Act) (wc : World) : Prop := ∃ t : Array Value, a = ⟨t, []⟩ ∧ LmjR T0 W0 bl ol nl cl k AW nW cW x X q d t wc
set_option maxRecDepth 100000 in
set_option maxHeartbeats 16000000 in
theorem SignsMerged_any (v v' : Value) (a b : Sg.SList) (w : World) (hr : RdSL w w.heap.size v a) (hr' : RdSL w w.heap.size v' b) (hg : Glob w) (ht : GTab w) : Calls Tryz.prog 15 #[v, v'] w (RetBB true w) := by
  have HRA := Lib.hid fun (W : World) (hW : Below w.heap.size w W) => hr.on hW
  have HRB := Lib.hid fun (W : World) (hW : Below w.heap.size w W) => hr'.on hW
  have HWK := Lib.hid fun (W : World) (hW : Below w.heap.size w W) => works1_any W (hg.below hW) (ht.below hW)
  obtain ⟨⟨u, rfl, hgl⟩, hf⟩ := hr
  obtain ⟨⟨u', rfl, hgl'⟩, hf'⟩ := hr'
  obtain ⟨A0, c0, rfl⟩ := hgl.form
  obtain ⟨A1, c1, rfl⟩ := hgl'.form
  have HGA := Lib.hid hgl
  have HGB := Lib.hid hgl'
  obtain ⟨W1, hW1⟩ : ∃ W1, W1 = (w.alloc (.cells #[.int .i64 a.periods, .slice A0 a.signs.length c0] 24)).alloc (.cells #[.int .i64 b.periods, .slice A1 b.signs.length c1] 24) := ⟨_, rfl⟩
  have hb1 : Below w.heap.size w W1 := by rw [hW1]; exact ((Below.refl _ _).alloc (Nat.le_refl _) _).alloc (by simp) _
  have hX : W1.heap[w.heap.size]? = some (.cells #[.int .i64 a.periods, .slice A0 a.signs.length c0] 24 (0, 0)) := by rw [hW1]; exact start_fst w _ _
  have hY : W1.heap[w.heap.size + 1]? = some (.cells #[.int .i64 b.periods, .slice A1 b.signs.length c1] 24 (0, 0)) := by rw [hW1]; exact start_res' w _ _
  have hs1 : w.heap.size + 1 < W1.heap.size := (Array.getElem?_eq_some_iff.1 hY).1
  have CX : Hid (∀ W, Below W1.heap.size W1 W → W.cell? ⟨w.heap.size, 0, none⟩ = some (.int .i64 a.periods) ∧ W.cell? ⟨w.heap.size, 1, none⟩ = some (.slice A0 a.signs.length c0) ∧ W.cell? ⟨w.heap.size + 1, 0, none⟩ = some (.int .i64 b.periods) ∧ W.cell? ⟨w.heap.size + 1, 1, none⟩ = some (.slice A1 b.signs.length c1)) := Lib.hid fun W hW => by
    have p := (hW.block _ (by omega)).trans hX
    have p' := (hW.block _ hs1).trans hY
    exact ⟨by simp [World.cell?, p], by simp [World.cell?, p], by simp [World.cell?, p'], by simp [World.cell?, p']⟩
  obtain ⟨x0, x1, x2, x3⟩ := CX.out W1 (Below.refl _ _)
  have HB1 := Lib.hid hb1
  have HW1 := Lib.hid hW1
  have HL1 := Lib.hid (l1Large_any _ a W1 (HRA.out W1 hb1))
  have HL2 := Lib.hid fun (W : World) (hW : Below w.heap.size w W) => l1Large_any _ b W (HRB.out W hW)
  have HC1 := Lib.hid fun (W : World) (hW : Below w.heap.size w W) => r1Check_any _ a W (HRA.out W hW)
  have HC2 := Lib.hid fun (W : World) (hW : Below w.heap.size w W) => r1Check_any _ b W (HRB.out W hW)
  obtain ⟨la, hla⟩ : ∃ x, x = Sg.largeV a := ⟨_, rfl⟩
  obtain ⟨lb, hlb⟩ : ∃ x, x = Sg.largeV b := ⟨_, rfl⟩
  obtain ⟨ca, hca⟩ : ∃ x, x = Sg.checkV a := ⟨_, rfl⟩
  obtain ⟨cb, hcb⟩ : ∃ x, x = Sg.checkV b := ⟨_, rfl⟩
  rw [← hla] at HL1
  rw [← hlb] at HL2
  rw [← hca] at HC1
  rw [← hcb] at HC2
  have HLA := Lib.hid hla
  have HLB := Lib.hid hlb
  have HCA0 := Lib.hid hca
  have HCB0 := Lib.hid hcb
  clear hgl hf hgl' hf' hW1 hb1 hX hY hg ht hla hlb hca hcb
  go_enter Tryz.func15, Tryz.ntmps15
  go_upto_region 1 with fail
  rw [← HW1.out]
  go_wp2_with fail
  refine HL1.out.mono ?_
  rintro e wa ⟨rfl, hb⟩
  have HBa := Lib.hid (HB1.out.trans (hb.mono (by omega)))
  have H1a := Lib.hid hb
  clear hb x0 x1 x2 x3
  cases la
  case true =>
    go_wp2_with fail
    refine (HWK.out _ HBa.out).mono ?_
    rintro e wz ⟨rfl, hbz⟩
    have HBZ := Lib.hid (HBa.out.trans (hbz.mono HBa.out.size))
    clear hbz
    go_wp2_with fail
    go_ret
    exact ⟨rfl, HBZ.out⟩
  obtain ⟨x0, x1, x2, x3⟩ := CX.out wa H1a.out
  go_wp2_with fail
  refine (HL2.out wa HBa.out).mono ?_
  rintro e wb ⟨rfl, hb⟩
  have HBb := Lib.hid (HBa.out.trans (hb.mono HBa.out.size))
  have H1b := Lib.hid (H1a.out.trans (hb.mono H1a.out.size))
  clear hb x0 x1 x2 x3
  cases lb
  case true =>
    go_wp2_with fail
    refine (HWK.out _ HBb.out).mono ?_
    rintro e wz ⟨rfl, hbz⟩
    have HBZ := Lib.hid (HBb.out.trans (hbz.mono HBb.out.size))
    clear hbz
    go_wp2_with fail
    go_ret
    exact ⟨rfl, HBZ.out⟩
  obtain ⟨x0, x1, x2, x3⟩ := CX.out wb H1b.out
  go_wp2_with fail
  refine (HC1.out wb HBb.out).mono ?_
  rintro e wc ⟨rfl, hb⟩
  have HBc := Lib.hid (HBb.out.trans (hb.mono HBb.out.size))
  have H1c := Lib.hid (H1b.out.trans (hb.mono H1b.out.size))
  clear hb x0 x1 x2 x3
  by_cases h0 : ca = 0
  case neg =>
    have n0 : (ca == 0) = false := by rw [beq_eq_false_iff_ne]; exact h0
    have n1 : (ca != 0) = true := by rw [bne, n0]; rfl
    go_wp2_with fail
    refine (HWK.out _ HBc.out).mono ?_
    rintro e wz ⟨rfl, hbz⟩
    have HBZ := Lib.hid (HBc.out.trans (hbz.mono HBc.out.size))
    clear hbz
    go_wp2_with fail
    go_ret
    exact ⟨rfl, HBZ.out⟩
  subst h0
  obtain ⟨x0, x1, x2, x3⟩ := CX.out wc H1c.out
  go_wp2_with fail
  refine (HC2.out wc HBc.out).mono ?_
  rintro e wk ⟨rfl, hb⟩
  have HBk := Lib.hid (HBc.out.trans (hb.mono HBc.out.size))
  have H1k := Lib.hid (H1c.out.trans (hb.mono H1c.out.size))
  clear hb x0 x1 x2 x3
  by_cases h0 : cb = 0
  case neg =>
    have n0 : (cb == 0) = false := by rw [beq_eq_false_iff_ne]; exact h0
    have n1 : (cb != 0) = true := by rw [bne, n0]; rfl
    go_wp2_with fail
    refine (HWK.out _ HBk.out).mono ?_
    rintro e wz ⟨rfl, hbz⟩
    have HBZ := Lib.hid (HBk.out.trans (hbz.mono HBk.out.size))
    clear hbz
    go_wp2_with fail
    go_ret
    exact ⟨rfl, HBZ.out⟩
  subst h0
  have HCA : Hid (Sg.checkV a = 0) := Lib.hid HCA0.out.symm
  have HCB : Hid (Sg.checkV b = 0) := Lib.hid HCB0.out.symm
  have hlg := HLA.out
  unfold Sg.largeV at hlg
  have HSA := Lib.hid (Sg.big_small (Bool.or_eq_false_iff.1 hlg.symm).1).1
  clear hlg
  have hlg := HLB.out
  unfold Sg.largeV at hlg
  have HSB := Lib.hid (Sg.big_small (Bool.or_eq_false_iff.1 hlg.symm).1).1
  clear hlg HL1 HL2 HC1 HC2 HLA HLB HCA0 HCB0
  obtain ⟨TL, hTL⟩ : ∃ L, L = Sg.tidyR a := ⟨_, rfl⟩
  have hms := Sg.merge_self HCA.out
  have HMGa : Hid (∀ W, Below wk.heap.size wk W → ∀ y y', RdSL W W.heap.size y a → RdSL W W.heap.size y' a → Calls Tryz.prog 48 #[y, y'] W (RetListE TL 0 W)) := Lib.hid fun W _ y y' hy hy' => by
    have := gMerge_any y y' a a W hy hy'
    rwa [hms.1, hms.2, ← hTL] at this
  have HTD : Hid (∀ W y, RdSL W W.heap.size y a → Calls Tryz.prog 42 #[y] W (RetListE TL 0 W)) := Lib.hid fun W y hy => by
    have := gTidy_any y a W hy
    rwa [← hTL, HCA.out] at this
  have HBX := Lib.hid fun (W : World) (hW : Below wk.heap.size wk W) => HBk.out.trans (hW.mono HBk.out.size)
  have HCPAa := Lib.hid fun (W : World) (hW : Below wk.heap.size wk W) => r1Copy_any _ a W (HRA.out W (HBX.out W hW)) HSA.out
  have HCPBa := HCPAa
  have CLa : Hid (∀ W, Below wk.heap.size wk W → W.cell? ⟨w.heap.size, 0, none⟩ = some (.int .i64 a.periods) ∧ W.cell? ⟨w.heap.size, 1, none⟩ = some (.slice A0 a.signs.length c0) ∧ W.cell? ⟨w.heap.size, 0, none⟩ = some (.int .i64 a.periods) ∧ W.cell? ⟨w.heap.size, 1, none⟩ = some (.slice A0 a.signs.length c0)) := Lib.hid fun W hW => by
    obtain ⟨y0, y1, -, -⟩ := CX.out W (H1k.out.trans (hW.mono H1k.out.size))
    exact ⟨y0, y1, y0, y1⟩
  clear hTL hms
  go_upto_region 3 with fail
  refine wp_region_inv2T (fun T0 => LmfI T0 wk a a TL 0 A0 A0 c0 c0 w.heap.size w.heap.size) (by kernel_rfl) (by kernel_rfl) ?g0a ?gstepa ?genda
  case g0a =>
    have hno : ∀ j, ¬ dn (Array.replicate 11 false) j := by
      intro j; unfold dn; by_cases hj : j < 11 <;> simp [Array.getD, hj]
    have na : ∀ {j : Nat} {Z : Prop}, dn (Array.replicate 11 false) j → Z := fun hj => absurd hj (hno _)
    exact ⟨_, rfl, { bel := (Below.refl _ _).drew, siz := rfl, kp := fun _ _ => rfl, k2 := rfl, p0 := na, p2 := na, p5 := fun hj => absurd hj (hno _), p7 := na, p10 := na, l1 := fun hj => absurd hj (hno _), l3 := fun hj => absurd hj (hno _), l4 := fun hj => absurd hj (hno _), l5 := fun hj => absurd hj (hno _), l6 := fun hj => absurd hj (hno _), l9 := fun hj => absurd hj (hno _), c1 := fun hj => absurd hj (hno _), c3 := fun hj => absurd hj (hno _), c4 := fun hj => absurd hj (hno _), c5 := fun hj => absurd hj (hno _), c6 := fun hj => absurd hj (hno _), c8 := fun hj => absurd hj (hno _), c9 := fun hj => absurd hj (hno _) }⟩
  case gstepa =>
    intro T0 d a wc i hd hI hi
    obtain ⟨hlt, hnd, hpre⟩ := mem_ready hi
    have hd' : d.size = 11 := hd
    have hin : i < 11 := hlt
    clear hi hd hlt
    obtain ⟨t, rfl, h⟩ := hI
    have hcs : i = 0 ∨ i = 1 ∨ i = 2 ∨ i = 3 ∨ i = 4 ∨ i = 5 ∨ i = 6 ∨ i = 7 ∨ i = 8 ∨ i = 9 ∨ i = 10 := by omega
    rcases hcs with rfl | rfl | rfl | rfl | rfl | rfl | rfl | rfl | rfl | rfl | rfl
    · have hi : 0 < d.size := by omega
      have q2 := h.k2
      obtain ⟨m0, m1, m2, m3⟩ := CLa.out wc h.bel
      refine wpOp_plain rfl rfl ?_
      go_simp
      exact ⟨_, rfl, { bel := h.bel, siz := (by simpa using h.siz), kp := rk h.kp, k2 := rs h.k2, l1 := fun hj => absurd (h.l1 (dn_of hi hj (by decide))) (not_dn hi hnd), l3 := fun hj => dn_up (h.l3 (dn_of hi hj (by decide))), l4 := fun hj => (fun q => ⟨dn_up q.1, dn_up q.2⟩) (h.l4 (dn_of hi hj (by decide))), l5 := fun hj => dn_up (h.l5 (dn_of hi hj (by decide))), l6 := fun hj => dn_up (h.l6 (dn_of hi hj (by decide))), l9 := fun hj => (fun q => ⟨dn_up q.1, dn_up q.2⟩) (h.l9 (dn_of hi hj (by decide))), c1 := fun hj hk => by obtain ⟨v, e, r⟩ := h.c1 (dn_of hi hj (by decide)) (fun q => hk (dn_up q)); exact ⟨v, (set_other (by decide)).trans e, r⟩, c3 := fun hj hk => by obtain ⟨v, e, r⟩ := h.c3 (dn_of hi hj (by decide)) (fun q => hk (dn_up q)); exact ⟨v, (set_other (by decide)).trans e, r⟩, c4 := fun hj hk => by obtain ⟨v, e, r⟩ := h.c4 (dn_of hi hj (by decide)) (fun q => hk (dn_up q)); exact ⟨v, (set_other (by decide)).trans e, r⟩, c5 := fun hj hk => by obtain ⟨v, e, r⟩ := h.c5 (dn_of hi hj (by decide)) (fun q => hk (dn_up q)); exact ⟨v, (set_other (by decide)).trans e, r⟩, c6 := fun hj hk => by obtain ⟨v, e, r⟩ := h.c6 (dn_of hi hj (by decide)) (fun q => hk (dn_up q)); exact ⟨v, (set_other (by decide)).trans e, r⟩, c8 := fun hj hk => by obtain ⟨g, e, hg, hz⟩ := h.c8 (dn_of hi hj (by decide)) (fun q => hk (dn_up q)); exact ⟨g, (set_other (by decide)).trans e, hg, hz⟩, c9 := fun hj => absurd (h.l1 (h.l4 (h.l5 (h.l6 (h.l9 (dn_of hi hj (by decide))).1))).1) (not_dn hi hnd), p0 := fun _ => set_same (by have := h.siz; omega), p2 := rp hi h.p2, p5 := rc hi h.p5 (fun v h2 => h2), p7 := rp hi h.p7, p10 := rp hi h.p10 }⟩
    · have hi : 1 < d.size := by omega
      have d0 : dn d 0 := hpre _ rfl ⟨0, .data⟩ (by simp) rfl
      have e0 := h.p0 d0
      refine wpOp_plain rfl rfl ?_
      go_simp
      refine (HCPAa.out wc h.bel).mono ?_
      rintro e1 w1 ⟨y1, rfl, hq1, hb⟩
      exact ⟨_, rfl, { bel := h.bel.trans (hb.mono h.bel.size), siz := (by simpa using h.siz), kp := rk h.kp, k2 := rs h.k2, l1 := fun _ => dn_up (hpre _ rfl ⟨0, .data⟩ (by simp) rfl), l3 := fun hj => dn_up (h.l3 (dn_of hi hj (by decide))), l4 := fun hj => absurd (h.l4 (dn_of hi hj (by decide))).1 (not_dn hi hnd), l5 := fun hj => dn_up (h.l5 (dn_of hi hj (by decide))), l6 := fun hj => dn_up (h.l6 (dn_of hi hj (by decide))), l9 := fun hj => (fun q => ⟨dn_up q.1, dn_up q.2⟩) (h.l9 (dn_of hi hj (by decide))), c1 := fun _ _ => ⟨_, set_same (by have := h.siz; omega), hq1⟩, c3 := fun hj hk => by obtain ⟨v, e, r⟩ := h.c3 (dn_of hi hj (by decide)) (fun q => hk (dn_up q)); exact ⟨v, (set_other (by decide)).trans e, r.on hb⟩, c4 := fun hj hk => by obtain ⟨v, e, r⟩ := h.c4 (dn_of hi hj (by decide)) (fun q => hk (dn_up q)); exact ⟨v, (set_other (by decide)).trans e, r.on hb⟩, c5 := fun hj hk => by obtain ⟨v, e, r⟩ := h.c5 (dn_of hi hj (by decide)) (fun q => hk (dn_up q)); exact ⟨v, (set_other (by decide)).trans e, r.on hb⟩, c6 := fun hj hk => by obtain ⟨v, e, r⟩ := h.c6 (dn_of hi hj (by decide)) (fun q => hk (dn_up q)); exact ⟨v, (set_other (by decide)).trans e, r.on hb⟩, c8 := fun hj hk => by obtain ⟨g, e, hg, hz⟩ := h.c8 (dn_of hi hj (by decide)) (fun q => hk (dn_up q)); exact ⟨g, (set_other (by decide)).trans e, hg, (hb.block g (Array.getElem?_eq_some_iff.1 hz).1).trans hz⟩, c9 := fun hj => absurd ((h.l4 (h.l5 (h.l6 (h.l9 (dn_of hi hj (by decide))).1))).1) (not_dn hi hnd), p0 := rp hi h.p0, p2 := rp hi h.p2, p5 := rc hi h.p5 (fun v h2 => h2), p7 := rp hi h.p7, p10 := rp hi h.p10 }⟩
    · have hi : 2 < d.size := by omega
      have q2 := h.k2
      obtain ⟨m0, m1, m2, m3⟩ := CLa.out wc h.bel
      refine wpOp_plain rfl rfl ?_
      go_simp
      exact ⟨_, rfl, { bel := h.bel, siz := (by simpa using h.siz), kp := rk h.kp, k2 := rs h.k2, l1 := fun hj => dn_up (h.l1 (dn_of hi hj (by decide))), l3 := fun hj => absurd (h.l3 (dn_of hi hj (by decide))) (not_dn hi hnd), l4 := fun hj => (fun q => ⟨dn_up q.1, dn_up q.2⟩) (h.l4 (dn_of hi hj (by decide))), l5 := fun hj => dn_up (h.l5 (dn_of hi hj (by decide))), l6 := fun hj => dn_up (h.l6 (dn_of hi hj (by decide))), l9 := fun hj => (fun q => ⟨dn_up q.1, dn_up q.2⟩) (h.l9 (dn_of hi hj (by decide))), c1 := fun hj hk => by obtain ⟨v, e, r⟩ := h.c1 (dn_of hi hj (by decide)) (fun q => hk (dn_up q)); exact ⟨v, (set_other (by decide)).trans e, r⟩, c3 := fun hj hk => by obtain ⟨v, e, r⟩ := h.c3 (dn_of hi hj (by decide)) (fun q => hk (dn_up q)); exact ⟨v, (set_other (by decide)).trans e, r⟩, c4 := fun hj hk => by obtain ⟨v, e, r⟩ := h.c4 (dn_of hi hj (by decide)) (fun q => hk (dn_up q)); exact ⟨v, (set_other (by decide)).trans e, r⟩, c5 := fun hj hk => by obtain ⟨v, e, r⟩ := h.c5 (dn_of hi hj (by decide)) (fun q => hk (dn_up q)); exact ⟨v, (set_other (by decide)).trans e, r⟩, c6 := fun hj hk => by obtain ⟨v, e, r⟩ := h.c6 (dn_of hi hj (by decide)) (fun q => hk (dn_up q)); exact ⟨v, (set_other (by decide)).trans e, r⟩, c8 := fun hj hk => by obtain ⟨g, e, hg, hz⟩ := h.c8 (dn_of hi hj (by decide)) (fun q => hk (dn_up q)); exact ⟨g, (set_other (by decide)).trans e, hg, hz⟩, c9 := fun hj => absurd (h.l3 (h.l4 (h.l5 (h.l6 (h.l9 (dn_of hi hj (by decide))).1))).2) (not_dn hi hnd), p0 := rp hi h.p0, p2 := fun _ => set_same (by have := h.siz; omega), p5 := rc hi h.p5 (fun v h2 => h2), p7 := rp hi h.p7, p10 := rp hi h.p10 }⟩
    · have hi : 3 < d.size := by omega
      have d2 : dn d 2 := hpre _ rfl ⟨2, .data⟩ (by simp) rfl
      have e2 := h.p2 d2
      refine wpOp_plain rfl rfl ?_
      go_simp
      refine (HCPBa.out wc h.bel).mono ?_
      rintro e1 w1 ⟨y1, rfl, hq1, hb⟩
      exact ⟨_, rfl, { bel := h.bel.trans (hb.mono h.bel.size), siz := (by simpa using h.siz), kp := rk h.kp, k2 := rs h.k2, l1 := fun hj => dn_up (h.l1 (dn_of hi hj (by decide))), l3 := fun _ => dn_up (hpre _ rfl ⟨2, .data⟩ (by simp) rfl), l4 := fun hj => absurd (h.l4 (dn_of hi hj (by decide))).2 (not_dn hi hnd), l5 := fun hj => dn_up (h.l5 (dn_of hi hj (by decide))), l6 := fun hj => dn_up (h.l6 (dn_of hi hj (by decide))), l9 := fun hj => (fun q => ⟨dn_up q.1, dn_up q.2⟩) (h.l9 (dn_of hi hj (by decide))), c1 := fun hj hk => by obtain ⟨v, e, r⟩ := h.c1 (dn_of hi hj (by decide)) (fun q => hk (dn_up q)); exact ⟨v, (set_other (by decide)).trans e, r.on hb⟩, c3 := fun _ _ => ⟨_, set_same (by have := h.siz; omega), hq1⟩, c4 := fun hj hk => by obtain ⟨v, e, r⟩ := h.c4 (dn_of hi hj (by decide)) (fun q => hk (dn_up q)); exact ⟨v, (set_other (by decide)).trans e, r.on hb⟩, c5 := fun hj hk => by obtain ⟨v, e, r⟩ := h.c5 (dn_of hi hj (by decide)) (fun q => hk (dn_up q)); exact ⟨v, (set_other (by decide)).trans e, r.on hb⟩, c6 := fun hj hk => by obtain ⟨v, e, r⟩ := h.c6 (dn_of hi hj (by decide)) (fun q => hk (dn_up q)); exact ⟨v, (set_other (by decide)).trans e, r.on hb⟩, c8 := fun hj hk => by obtain ⟨g, e, hg, hz⟩ := h.c8 (dn_of hi hj (by decide)) (fun q => hk (dn_up q)); exact ⟨g, (set_other (by decide)).trans e, hg, (hb.block g (Array.getElem?_eq_some_iff.1 hz).1).trans hz⟩, c9 := fun hj => absurd ((h.l4 (h.l5 (h.l6 (h.l9 (dn_of hi hj (by decide))).1))).2) (not_dn hi hnd), p0 := rp hi h.p0, p2 := rp hi h.p2, p5 := rc hi h.p5 (fun v h2 => h2), p7 := rp hi h.p7, p10 := rp hi h.p10 }⟩
    · have hi : 4 < d.size := by omega
      have hn4 := not_dn hi hnd
      have d1 : dn d 1 := hpre _ rfl ⟨1, .data⟩ (by simp) rfl
      have d3 : dn d 3 := hpre _ rfl ⟨3, .data⟩ (by simp) rfl
      obtain ⟨v1, e1, r1⟩ := h.c1 d1 hn4
      obtain ⟨v3, e3, r3⟩ := h.c3 d3 hn4
      refine wpOp_plain rfl rfl ?_
      go_simp
      refine (HMGa.out wc h.bel v1 v3 r1 r3).mono ?_
      rintro e1 w1 ⟨y1, rfl, hq1, hb⟩
      exact ⟨_, rfl, { bel := h.bel.trans (hb.mono h.bel.size), siz := (by simpa using h.siz), kp := rk h.kp, k2 := rs h.k2, l1 := fun hj => dn_up (h.l1 (dn_of hi hj (by decide))), l3 := fun hj => dn_up (h.l3 (dn_of hi hj (by decide))), l4 := fun _ => ⟨dn_up (hpre _ rfl ⟨1, .data⟩ (by simp) rfl), dn_up (hpre _ rfl ⟨3, .data⟩ (by simp) rfl)⟩, l5 := fun hj => absurd (h.l5 (dn_of hi hj (by decide))) (not_dn hi hnd), l6 := fun hj => dn_up (h.l6 (dn_of hi hj (by decide))), l9 := fun hj => (fun q => ⟨dn_up q.1, dn_up q.2⟩) (h.l9 (dn_of hi hj (by decide))), c1 := fun _ hk => absurd (dn_self hi) hk, c3 := fun _ hk => absurd (dn_self hi) hk, c4 := fun _ _ => ⟨_, set_same (by have := h.siz; omega), hq1⟩, c5 := fun hj hk => by obtain ⟨v, e, r⟩ := h.c5 (dn_of hi hj (by decide)) (fun q => hk (dn_up q)); exact ⟨v, (set_other (by decide)).trans e, r.on hb⟩, c6 := fun hj hk => by obtain ⟨v, e, r⟩ := h.c6 (dn_of hi hj (by decide)) (fun q => hk (dn_up q)); exact ⟨v, (set_other (by decide)).trans e, r.on hb⟩, c8 := fun hj hk => by obtain ⟨g, e, hg, hz⟩ := h.c8 (dn_of hi hj (by decide)) (fun q => hk (dn_up q)); exact ⟨g, (set_other (by decide)).trans e, hg, (hb.block g (Array.getElem?_eq_some_iff.1 hz).1).trans hz⟩, c9 := fun hj => absurd (h.l5 (h.l6 (h.l9 (dn_of hi hj (by decide))).1)) (not_dn hi hnd), p0 := rp hi h.p0, p2 := rp hi h.p2, p5 := rc hi h.p5 (fun v h2 => h2), p7 := rp hi h.p7, p10 := rp hi h.p10 }⟩
    · have hi : 5 < d.size := by omega
      have d4 : dn d 4 := hpre _ rfl ⟨4, .data⟩ (by simp) rfl
      have hn9 : ¬ dn d 9 := fun q => not_dn hi hnd (h.l6 (h.l9 q).1)
      obtain ⟨v4, e4, r4⟩ := h.c4 d4 hn9
      refine wpOp_plain rfl rfl ?_
      go_simp
      exact ⟨_, rfl, { bel := h.bel, siz := (by simpa using h.siz), kp := rk h.kp, k2 := rs h.k2, l1 := fun hj => dn_up (h.l1 (dn_of hi hj (by decide))), l3 := fun hj => dn_up (h.l3 (dn_of hi hj (by decide))), l4 := fun hj => (fun q => ⟨dn_up q.1, dn_up q.2⟩) (h.l4 (dn_of hi hj (by decide))), l5 := fun _ => dn_up (hpre _ rfl ⟨4, .data⟩ (by simp) rfl), l6 := fun hj => absurd (h.l6 (dn_of hi hj (by decide))) (not_dn hi hnd), l9 := fun hj => (fun q => ⟨dn_up q.1, dn_up q.2⟩) (h.l9 (dn_of hi hj (by decide))), c1 := fun hj hk => by obtain ⟨v, e, r⟩ := h.c1 (dn_of hi hj (by decide)) (fun q => hk (dn_up q)); exact ⟨v, (set_other (by decide)).trans e, r⟩, c3 := fun hj hk => by obtain ⟨v, e, r⟩ := h.c3 (dn_of hi hj (by decide)) (fun q => hk (dn_up q)); exact ⟨v, (set_other (by decide)).trans e, r⟩, c4 := fun hj hk => by obtain ⟨v, e, r⟩ := h.c4 (dn_of hi hj (by decide)) (fun q => hk (dn_up q)); exact ⟨v, (set_other (by decide)).trans e, r⟩, c5 := fun _ _ => ⟨v4, set_same (by have := h.siz; omega), r4⟩, c6 := fun hj hk => by obtain ⟨v, e, r⟩ := h.c6 (dn_of hi hj (by decide)) (fun q => hk (dn_up q)); exact ⟨v, (set_other (by decide)).trans e, r⟩, c8 := fun hj hk => by obtain ⟨g, e, hg, hz⟩ := h.c8 (dn_of hi hj (by decide)) (fun q => hk (dn_up q)); exact ⟨g, (set_other (by decide)).trans e, hg, hz⟩, c9 := fun hj => absurd (h.l6 (h.l9 (dn_of hi hj (by decide))).1) (not_dn hi hnd), p0 := rp hi h.p0, p2 := rp hi h.p2, p5 := fun _ => ⟨_, set_same (by have := h.siz; omega), ⟨_, rfl⟩⟩, p7 := rp hi h.p7, p10 := rp hi h.p10 }⟩
    · have hi : 6 < d.size := by omega
      have d5 : dn d 5 := hpre _ rfl ⟨5, .data⟩ (by simp) rfl
      have hn9 : ¬ dn d 9 := fun q => not_dn hi hnd (h.l9 q).1
      obtain ⟨v5, e5, r5⟩ := h.c5 d5 hn9
      refine wpOp_plain rfl rfl ?_
      go_simp
      exact ⟨_, rfl, { bel := h.bel, siz := (by simpa using h.siz), kp := rk h.kp, k2 := rs h.k2, l1 := fun hj => dn_up (h.l1 (dn_of hi hj (by decide))), l3 := fun hj => dn_up (h.l3 (dn_of hi hj (by decide))), l4 := fun hj => (fun q => ⟨dn_up q.1, dn_up q.2⟩) (h.l4 (dn_of hi hj (by decide))), l5 := fun hj => dn_up (h.l5 (dn_of hi hj (by decide))), l6 := fun _ => dn_up (hpre _ rfl ⟨5, .data⟩ (by simp) rfl), l9 := fun hj => absurd (h.l9 (dn_of hi hj (by decide))).1 (not_dn hi hnd), c1 := fun hj hk => by obtain ⟨v, e, r⟩ := h.c1 (dn_of hi hj (by decide)) (fun q => hk (dn_up q)); exact ⟨v, (set_other (by decide)).trans e, r⟩, c3 := fun hj hk => by obtain ⟨v, e, r⟩ := h.c3 (dn_of hi hj (by decide)) (fun q => hk (dn_up q)); exact ⟨v, (set_other (by decide)).trans e, r⟩, c4 := fun hj hk => by obtain ⟨v, e, r⟩ := h.c4 (dn_of hi hj (by decide)) (fun q => hk (dn_up q)); exact ⟨v, (set_other (by decide)).trans e, r⟩, c5 := fun hj hk => by obtain ⟨v, e, r⟩ := h.c5 (dn_of hi hj (by decide)) (fun q => hk (dn_up q)); exact ⟨v, (set_other (by decide)).trans e, r⟩, c6 := fun _ _ => ⟨v5, set_same (by have := h.siz; omega), r5⟩, c8 := fun hj hk => by obtain ⟨g, e, hg, hz⟩ := h.c8 (dn_of hi hj (by decide)) (fun q => hk (dn_up q)); exact ⟨g, (set_other (by decide)).trans e, hg, hz⟩, c9 := fun hj => absurd ((h.l9 (dn_of hi hj (by decide))).1) (not_dn hi hnd), p0 := rp hi h.p0, p2 := rp hi h.p2, p5 := rc hi h.p5 (fun v h2 => h2), p7 := rp hi h.p7, p10 := rp hi h.p10 }⟩
    · have hi : 7 < d.size := by omega
      obtain ⟨v5, e5, r5⟩ := h.p5 (hpre _ rfl ⟨5, .data⟩ (by simp) rfl)
      obtain ⟨y5, rfl⟩ := r5
      refine wpOp_plain rfl rfl ?_
      go_simp
      exact ⟨_, rfl, { bel := h.bel, siz := (by simpa using h.siz), kp := rk h.kp, k2 := rs h.k2, l1 := fun hj => dn_up (h.l1 (dn_of hi hj (by decide))), l3 := fun hj => dn_up (h.l3 (dn_of hi hj (by decide))), l4 := fun hj => (fun q => ⟨dn_up q.1, dn_up q.2⟩) (h.l4 (dn_of hi hj (by decide))), l5 := fun hj => dn_up (h.l5 (dn_of hi hj (by decide))), l6 := fun hj => dn_up (h.l6 (dn_of hi hj (by decide))), l9 := fun hj => (fun q => ⟨dn_up q.1, dn_up q.2⟩) (h.l9 (dn_of hi hj (by decide))), c1 := fun hj hk => by obtain ⟨v, e, r⟩ := h.c1 (dn_of hi hj (by decide)) (fun q => hk (dn_up q)); exact ⟨v, (set_other (by decide)).trans e, r⟩, c3 := fun hj hk => by obtain ⟨v, e, r⟩ := h.c3 (dn_of hi hj (by decide)) (fun q => hk (dn_up q)); exact ⟨v, (set_other (by decide)).trans e, r⟩, c4 := fun hj hk => by obtain ⟨v, e, r⟩ := h.c4 (dn_of hi hj (by decide)) (fun q => hk (dn_up q)); exact ⟨v, (set_other (by decide)).trans e, r⟩, c5 := fun hj hk => by obtain ⟨v, e, r⟩ := h.c5 (dn_of hi hj (by decide)) (fun q => hk (dn_up q)); exact ⟨v, (set_other (by decide)).trans e, r⟩, c6 := fun hj hk => by obtain ⟨v, e, r⟩ := h.c6 (dn_of hi hj (by decide)) (fun q => hk (dn_up q)); exact ⟨v, (set_other (by decide)).trans e, r⟩, c8 := fun hj hk => by obtain ⟨g, e, hg, hz⟩ := h.c8 (dn_of hi hj (by decide)) (fun q => hk (dn_up q)); exact ⟨g, (set_other (by decide)).trans e, hg, hz⟩, c9 := fun hj => by obtain ⟨g, A, c, e, hg, hz, hr⟩ := h.c9 (dn_of hi hj (by decide)); exact ⟨g, A, c, (set_other (by decide)).trans e, hg, hz, hr⟩, p0 := rp hi h.p0, p2 := rp hi h.p2, p5 := rc hi h.p5 (fun v h2 => h2), p7 := fun _ => set_same (by have := h.siz; omega), p10 := rp hi h.p10 }⟩
    · have hi : 8 < d.size := by omega
      have hn9 : ¬ dn d 9 := fun q => not_dn hi hnd (h.l9 q).2
      have hb : Below wc.heap.size wc (wc.alloc (.cells #[.int .i64 0, .slice none 0 0] 24)) := (Below.refl _ _).alloc (Nat.le_refl _) _
      refine wpOp_plain rfl rfl ?_
      go_simp
      exact ⟨_, rfl, { bel := h.bel.trans (hb.mono h.bel.size), siz := (by simpa using h.siz), kp := rk h.kp, k2 := rs h.k2, l1 := fun hj => dn_up (h.l1 (dn_of hi hj (by decide))), l3 := fun hj => dn_up (h.l3 (dn_of hi hj (by decide))), l4 := fun hj => (fun q => ⟨dn_up q.1, dn_up q.2⟩) (h.l4 (dn_of hi hj (by decide))), l5 := fun hj => dn_up (h.l5 (dn_of hi hj (by decide))), l6 := fun hj => dn_up (h.l6 (dn_of hi hj (by decide))), l9 := fun hj => absurd (h.l9 (dn_of hi hj (by decide))).2 (not_dn hi hnd), c1 := fun hj hk => by obtain ⟨v, e, r⟩ := h.c1 (dn_of hi hj (by decide)) (fun q => hk (dn_up q)); exact ⟨v, (set_other (by decide)).trans e, r.on hb⟩, c3 := fun hj hk => by obtain ⟨v, e, r⟩ := h.c3 (dn_of hi hj (by decide)) (fun q => hk (dn_up q)); exact ⟨v, (set_other (by decide)).trans e, r.on hb⟩, c4 := fun hj hk => by obtain ⟨v, e, r⟩ := h.c4 (dn_of hi hj (by decide)) (fun q => hk (dn_up q)); exact ⟨v, (set_other (by decide)).trans e, r.on hb⟩, c5 := fun hj hk => by obtain ⟨v, e, r⟩ := h.c5 (dn_of hi hj (by decide)) (fun q => hk (dn_up q)); exact ⟨v, (set_other (by decide)).trans e, r.on hb⟩, c6 := fun hj hk => by obtain ⟨v, e, r⟩ := h.c6 (dn_of hi hj (by decide)) (fun q => hk (dn_up q)); exact ⟨v, (set_other (by decide)).trans e, r.on hb⟩, c8 := fun _ _ => ⟨wc.heap.size, set_same (by have := h.siz; omega), h.bel.size, heap_alloc_new _ _⟩, c9 := fun hj => absurd ((h.l9 (dn_of hi hj (by decide))).2) (not_dn hi hnd), p0 := rp hi h.p0, p2 := rp hi h.p2, p5 := rc hi h.p5 (fun v h2 => h2), p7 := rp hi h.p7, p10 := rp hi h.p10 }⟩
    · have hi : 9 < d.size := by omega
      have hn9 := not_dn hi hnd
      have d6 : dn d 6 := hpre _ rfl ⟨6, .data⟩ (by simp) rfl
      have d8 : dn d 8 := hpre _ rfl ⟨8, .data⟩ (by simp) rfl
      obtain ⟨v6, e6, r6⟩ := h.c6 d6 hn9
      obtain ⟨g, e8, hg8, hz8⟩ := h.c8 d8 hn9
      have R6 := r6
      obtain ⟨⟨u6, rfl, hg6⟩, -⟩ := r6
      obtain ⟨A6, c6, rfl⟩ := hg6.form
      have z0 : wc.cell? ⟨g, 0, none⟩ = some (.int .i64 0) := by simp [World.cell?, hz8]
      have z1 : wc.cell? ⟨g, 1, none⟩ = some (.slice none 0 0) := by simp [World.cell?, hz8]
      have y0 : wc.frozen? ⟨g, 0, none⟩ = false := by simp [World.frozen?, hz8]
      have y1 : wc.frozen? ⟨g, 1, none⟩ = false := by simp [World.frozen?, hz8]
      clear hg6
      refine wpOp_plain rfl rfl ?_
      go_simp
      exact ⟨_, rfl, { bel := (h.bel.setCell (p := ⟨g, 0, none⟩) hg8 _).setCell (p := ⟨g, 1, none⟩) hg8 _, siz := h.siz, kp := h.kp, k2 := h.k2, l1 := fun hj => dn_up (h.l1 (dn_of hi hj (by decide))), l3 := fun hj => dn_up (h.l3 (dn_of hi hj (by decide))), l4 := fun hj => (fun q => ⟨dn_up q.1, dn_up q.2⟩) (h.l4 (dn_of hi hj (by decide))), l5 := fun hj => dn_up (h.l5 (dn_of hi hj (by decide))), l6 := fun hj => dn_up (h.l6 (dn_of hi hj (by decide))), l9 := fun _ => ⟨dn_up (hpre _ rfl ⟨6, .data⟩ (by simp) rfl), dn_up (hpre _ rfl ⟨8, .data⟩ (by simp) rfl)⟩, c1 := fun _ hk => absurd (dn_up (h.l5 (h.l6 d6))) hk, c3 := fun _ hk => absurd (dn_up (h.l5 (h.l6 d6))) hk, c4 := fun _ hk => absurd (dn_self hi) hk, c5 := fun _ hk => absurd (dn_self hi) hk, c6 := fun _ hk => absurd (dn_self hi) hk, c8 := fun _ hk => absurd (dn_self hi) hk, c9 := fun _ => ⟨g, A6, c6, e8, hg8, box_heap hz8, rdsl_box hz8 R6⟩, p0 := rn hi h.p0, p2 := rn hi h.p2, p5 := rcn hi h.p5 (fun v h2 => h2), p7 := rn hi h.p7, p10 := rn hi h.p10 }⟩
    · have hi : 10 < d.size := by omega
      have e7 := h.p7 (hpre _ rfl ⟨7, .data⟩ (by simp) rfl)
      refine wpOp_plain rfl rfl ?_
      go_simp
      exact ⟨_, rfl, { bel := h.bel, siz := (by simpa using h.siz), kp := rk h.kp, k2 := rs h.k2, l1 := fun hj => dn_up (h.l1 (dn_of hi hj (by decide))), l3 := fun hj => dn_up (h.l3 (dn_of hi hj (by decide))), l4 := fun hj => (fun q => ⟨dn_up q.1, dn_up q.2⟩) (h.l4 (dn_of hi hj (by decide))), l5 := fun hj => dn_up (h.l5 (dn_of hi hj (by decide))), l6 := fun hj => dn_up (h.l6 (dn_of hi hj (by decide))), l9 := fun hj => (fun q => ⟨dn_up q.1, dn_up q.2⟩) (h.l9 (dn_of hi hj (by decide))), c1 := fun hj hk => by obtain ⟨v, e, r⟩ := h.c1 (dn_of hi hj (by decide)) (fun q => hk (dn_up q)); exact ⟨v, (set_other (by decide)).trans e, r⟩, c3 := fun hj hk => by obtain ⟨v, e, r⟩ := h.c3 (dn_of hi hj (by decide)) (fun q => hk (dn_up q)); exact ⟨v, (set_other (by decide)).trans e, r⟩, c4 := fun hj hk => by obtain ⟨v, e, r⟩ := h.c4 (dn_of hi hj (by decide)) (fun q => hk (dn_up q)); exact ⟨v, (set_other (by decide)).trans e, r⟩, c5 := fun hj hk => by obtain ⟨v, e, r⟩ := h.c5 (dn_of hi hj (by decide)) (fun q => hk (dn_up q)); exact ⟨v, (set_other (by decide)).trans e, r⟩, c6 := fun hj hk => by obtain ⟨v, e, r⟩ := h.c6 (dn_of hi hj (by decide)) (fun q => hk (dn_up q)); exact ⟨v, (set_other (by decide)).trans e, r⟩, c8 := fun hj hk => by obtain ⟨g, e, hg, hz⟩ := h.c8 (dn_of hi hj (by decide)) (fun q => hk (dn_up q)); exact ⟨g, (set_other (by decide)).trans e, hg, hz⟩, c9 := fun hj => by obtain ⟨g, A, c, e, hg, hz, hr⟩ := h.c9 (dn_of hi hj (by decide)); exact ⟨g, A, c, (set_other (by decide)).trans e, hg, hz, hr⟩, p0 := rp hi h.p0, p2 := rp hi h.p2, p5 := rc hi h.p5 (fun v h2 => h2), p7 := rp hi h.p7, p10 := fun _ => set_same (by have := h.siz; omega) }⟩
  case genda =>
    intro d a wc hd hI hall
    obtain ⟨t, rfl, h⟩ := hI
    have hdn : ∀ j, j < 11 → dn d j := fun j hj => dn_all hd hall hj
    have hd : ∀ j, (_ : j < 11 := by decide) → dn d j := fun j hj => hdn j hj
    obtain ⟨t5, x5⟩ : ∃ v, t[5]? = some v := ⟨_, Array.getElem?_eq_getElem (by have := h.siz; omega)⟩
    obtain ⟨v5, e5, r5⟩ := h.p5 (hd 5)
    obtain ⟨t39, x39⟩ : ∃ v, t[39]? = some v := ⟨_, Array.getElem?_eq_getElem (by have := h.siz; omega)⟩
    obtain ⟨t41, x41⟩ : ∃ v, t[41]? = some v := ⟨_, Array.getElem?_eq_getElem (by have := h.siz; omega)⟩
    obtain ⟨t42, x42⟩ : ∃ v, t[42]? = some v := ⟨_, Array.getElem?_eq_getElem (by have := h.siz; omega)⟩
    obtain ⟨t43, x43⟩ : ∃ v, t[43]? = some v := ⟨_, Array.getElem?_eq_getElem (by have := h.siz; omega)⟩
    obtain ⟨ga, Ga, cga, e5, hg5, hz5, hr5⟩ := h.c9 (hd 9)
    obtain rfl : t5 = .pointer (some ⟨ga, 0, none⟩) := by rw [x5] at e5; simpa using e5
    clear e5
    have hfe := frame_eq [(5, _), (6, _), (37, v5), (38, _), (39, _), (40, _), (41, _), (42, _), (43, _), (44, _)] (h.siz.trans rfl) h.kp rfl ⟨x5, h.p10 (hd 10), e5, h.p0 (hd 0), x39, h.p2 (hd 2), x41, x42, x43, h.p7 (hd 7), trivial⟩
    simp only [List.foldl_cons, List.foldl_nil, List.setIfInBounds_toArray, List.set_cons_succ, List.set_cons_zero] at hfe
    have hbc := h.bel
    subst hfe
    clear h hdn hd hall
    rename World => w3
    have HB3 : Hid (Below w.heap.size w w3) := Lib.hid (HBX.out w3 hbc)
    have H3 : Hid (Below W1.heap.size W1 w3) := Lib.hid (H1k.out.trans (hbc.mono H1k.out.size))
    have HZG := Lib.hid hz5
    have HRG := Lib.hid hr5
    clear hbc hg5 hz5 hr5 CLa HCPAa HCPBa HMGa HBX x39 x41 x42 x43 x5 e5 r5
    obtain ⟨x0, x1, x2, x3⟩ := CX.out w3 H3.out
    go_wp2_with fail
    refine (r1Copy_any _ a w3 (HRA.out w3 HB3.out) HSA.out).mono ?_
    rintro e wd ⟨vc, rfl, hrd, hbd⟩
    have HRD := Lib.hid hrd
    have HD := Lib.hid hbd
    clear hrd hbd x0 x1 x2 x3
    go_wp2_with fail
    refine (HTD.out wd vc HRD.out).mono ?_
    rintro e u4 ⟨y4, rfl, hr4, hu4⟩
    have HU4 := Lib.hid (HD.out.trans (hu4.mono HD.out.size))
    have HRY := Lib.hid hr4
    obtain ⟨⟨z4, rfl, hg4⟩, -⟩ := hr4
    obtain ⟨A4, c4, rfl⟩ := hg4.form
    obtain ⟨w4, hw4⟩ : ∃ W, W = u4.alloc (.cells #[.int .i64 TL.periods, .slice A4 TL.signs.length c4] 24) := ⟨_, rfl⟩
    obtain ⟨b4, hb4⟩ : ∃ b, b = u4.heap.size := ⟨_, rfl⟩
    have hbw4 : Below u4.heap.size u4 w4 := by rw [hw4]; exact (Below.refl _ _).alloc (Nat.le_refl _) _
    have hhw4 : w4.heap[b4]? = some (.cells #[.int .i64 TL.periods, .slice A4 TL.signs.length c4] 24 (0, 0)) := by rw [hw4, hb4]; exact heap_alloc_new _ _
    have HD4 := Lib.hid (HU4.out.trans (hbw4.mono HU4.out.size))
    have hz4' := (HD4.out.block ga (Array.getElem?_eq_some_iff.1 HZG.out).1).trans HZG.out
    have p0 : w4.cell? ⟨b4, 0, none⟩ = some (.int .i64 TL.periods) := by simp [World.cell?, hhw4]
    have p1 : w4.cell? ⟨b4, 1, none⟩ = some (.slice A4 TL.signs.length c4) := by simp [World.cell?, hhw4]
    have p2 : w4.cell? ⟨ga, 0, none⟩ = some (.int .i64 TL.periods) := by simp [World.cell?, hz4']
    have p3 : w4.cell? ⟨ga, 1, none⟩ = some (.slice Ga TL.signs.length cga) := by simp [World.cell?, hz4']
    have HB4 := Lib.hid (HB3.out.trans (HD4.out.mono HB3.out.size))
    have H4 := Lib.hid (H3.out.trans (HD4.out.mono H3.out.size))
    have HS4 := Lib.hid (r1Same_both _ _ TL w4 (HRG.out.on HD4.out) (HRY.out.on hbw4))
    have HW4 := Lib.hid hw4
    have HBB := Lib.hid hb4
    clear hu4 hg4 hw4 hb4 hbw4 hhw4 hz4'
    go_upto_region 5 with fail
    rw [← HW4.out, ← HBB.out]
    go_wp2_with fail
    refine HS4.out.mono ?_
    rintro e ws ⟨rfl, hb8⟩
    have HBs := Lib.hid (HB4.out.trans (hb8.mono HB4.out.size))
    have H1s := Lib.hid (H4.out.trans (hb8.mono H4.out.size))
    clear hb8 p0 p1 p2 p3 HZG HRG HS4 HW4 HBB HRY HTD HRD HD HU4 HD4
    obtain ⟨ML, hML⟩ : ∃ L, L = Sg.mergeL a b := ⟨_, rfl⟩
    obtain ⟨er, her⟩ : ∃ e, e = Sg.mergeE a b := ⟨_, rfl⟩
    have HMGb : Hid (∀ W, Below ws.heap.size ws W → ∀ y y', RdSL W W.heap.size y a → RdSL W W.heap.size y' b → Calls Tryz.prog 48 #[y, y'] W (RetListE ML er W)) := Lib.hid fun W _ y y' hy hy' => by
      have := gMerge_any y y' a b W hy hy'
      rwa [← hML, ← her] at this
    have HMLE := Lib.hid hML
    have HERE := Lib.hid her
    have HBX := Lib.hid fun (W : World) (hW : Below ws.heap.size ws W) => HBs.out.trans (hW.mono HBs.out.size)
    have HCPAb := Lib.hid fun (W : World) (hW : Below ws.heap.size ws W) => r1Copy_any _ a W (HRA.out W (HBX.out W hW)) HSA.out
    have HCPBb := Lib.hid fun (W : World) (hW : Below ws.heap.size ws W) => r1Copy_any _ b W (HRB.out W (HBX.out W hW)) HSB.out
    obtain ⟨yb, hyb⟩ : ∃ yb, yb = w.heap.size + 1 := ⟨_, rfl⟩
    have HYB := Lib.hid hyb
    have CLb := Lib.hid fun (W : World) (hW : Below ws.heap.size ws W) => CX.out W (H1s.out.trans (hW.mono H1s.out.size))
    rw [← hyb] at CLb CX
    clear hML her hyb
    go_upto_region 7 with fail
    rw [← HYB.out]
    refine wp_region_inv2T (fun T0 => LmgI T0 ws a b ML er A0 A1 c0 c1 w.heap.size yb) (by kernel_rfl) (by kernel_rfl) ?g0b ?gstepb ?gendb
    case g0b =>
      have hno : ∀ j, ¬ dn (Array.replicate 11 false) j := by
        intro j; unfold dn; by_cases hj : j < 11 <;> simp [Array.getD, hj]
      have na : ∀ {j : Nat} {Z : Prop}, dn (Array.replicate 11 false) j → Z := fun hj => absurd hj (hno _)
      exact ⟨_, rfl, { bel := (Below.refl _ _).drew, siz := rfl, kp := fun _ _ => rfl, k2 := rfl, k3 := rfl, p0 := na, p2 := na, p5 := fun hj => absurd hj (hno _), p7 := na, p10 := na, l1 := fun hj => absurd hj (hno _), l3 := fun hj => absurd hj (hno _), l4 := fun hj => absurd hj (hno _), l5 := fun hj => absurd hj (hno _), l6 := fun hj => absurd hj (hno _), l9 := fun hj => absurd hj (hno _), c1 := fun hj => absurd hj (hno _), c3 := fun hj => absurd hj (hno _), c4 := fun hj => absurd hj (hno _), c5 := fun hj => absurd hj (hno _), c6 := fun hj => absurd hj (hno _), c8 := fun hj => absurd hj (hno _), c9 := fun hj => absurd hj (hno _) }⟩
    case gstepb =>
      intro T0 d a wc i hd hI hi
      obtain ⟨hlt, hnd, hpre⟩ := mem_ready hi
      have hd' : d.size = 11 := hd
      have hin : i < 11 := hlt
      clear hi hd hlt
      obtain ⟨t, rfl, h⟩ := hI
      have hcs : i = 0 ∨ i = 1 ∨ i = 2 ∨ i = 3 ∨ i = 4 ∨ i = 5 ∨ i = 6 ∨ i = 7 ∨ i = 8 ∨ i = 9 ∨ i = 10 := by omega
      rcases hcs with rfl | rfl | rfl | rfl | rfl | rfl | rfl | rfl | rfl | rfl | rfl
      · have hi : 0 < d.size := by omega
        have q2 := h.k2
        obtain ⟨m0, m1, m2, m3⟩ := CLb.out wc h.bel
        refine wpOp_plain rfl rfl ?_
        go_simp
        exact ⟨_, rfl, { bel := h.bel, siz := (by simpa using h.siz), kp := rk h.kp, k2 := rs h.k2, k3 := rs h.k3, l1 := fun hj => absurd (h.l1 (dn_of hi hj (by decide))) (not_dn hi hnd), l3 := fun hj => dn_up (h.l3 (dn_of hi hj (by decide))), l4 := fun hj => (fun q => ⟨dn_up q.1, dn_up q.2⟩) (h.l4 (dn_of hi hj (by decide))), l5 := fun hj => dn_up (h.l5 (dn_of hi hj (by decide))), l6 := fun hj => dn_up (h.l6 (dn_of hi hj (by decide))), l9 := fun hj => (fun q => ⟨dn_up q.1, dn_up q.2⟩) (h.l9 (dn_of hi hj (by decide))), c1 := fun hj hk => by obtain ⟨v, e, r⟩ := h.c1 (dn_of hi hj (by decide)) (fun q => hk (dn_up q)); exact ⟨v, (set_other (by decide)).trans e, r⟩, c3 := fun hj hk => by obtain ⟨v, e, r⟩ := h.c3 (dn_of hi hj (by decide)) (fun q => hk (dn_up q)); exact ⟨v, (set_other (by decide)).trans e, r⟩, c4 := fun hj hk => by obtain ⟨v, e, r⟩ := h.c4 (dn_of hi hj (by decide)) (fun q => hk (dn_up q)); exact ⟨v, (set_other (by decide)).trans e, r⟩, c5 := fun hj hk => by obtain ⟨v, e, r⟩ := h.c5 (dn_of hi hj (by decide)) (fun q => hk (dn_up q)); exact ⟨v, (set_other (by decide)).trans e, r⟩, c6 := fun hj hk => by obtain ⟨v, e, r⟩ := h.c6 (dn_of hi hj (by decide)) (fun q => hk (dn_up q)); exact ⟨v, (set_other (by decide)).trans e, r⟩, c8 := fun hj hk => by obtain ⟨g, e, hg, hz⟩ := h.c8 (dn_of hi hj (by decide)) (fun q => hk (dn_up q)); exact ⟨g, (set_other (by decide)).trans e, hg, hz⟩, c9 := fun hj => absurd (h.l1 (h.l4 (h.l5 (h.l6 (h.l9 (dn_of hi hj (by decide))).1))).1) (not_dn hi hnd), p0 := fun _ => set_same (by have := h.siz; omega), p2 := rp hi h.p2, p5 := rc hi h.p5 (fun v h2 => h2), p7 := rp hi h.p7, p10 := rp hi h.p10 }⟩
      · have hi : 1 < d.size := by omega
        have d0 : dn d 0 := hpre _ rfl ⟨0, .data⟩ (by simp) rfl
        have e0 := h.p0 d0
        refine wpOp_plain rfl rfl ?_
        go_simp
        refine (HCPAb.out wc h.bel).mono ?_
        rintro e1 w1 ⟨y1, rfl, hq1, hb⟩
        exact ⟨_, rfl, { bel := h.bel.trans (hb.mono h.bel.size), siz := (by simpa using h.siz), kp := rk h.kp, k2 := rs h.k2, k3 := rs h.k3, l1 := fun _ => dn_up (hpre _ rfl ⟨0, .data⟩ (by simp) rfl), l3 := fun hj => dn_up (h.l3 (dn_of hi hj (by decide))), l4 := fun hj => absurd (h.l4 (dn_of hi hj (by decide))).1 (not_dn hi hnd), l5 := fun hj => dn_up (h.l5 (dn_of hi hj (by decide))), l6 := fun hj => dn_up (h.l6 (dn_of hi hj (by decide))), l9 := fun hj => (fun q => ⟨dn_up q.1, dn_up q.2⟩) (h.l9 (dn_of hi hj (by decide))), c1 := fun _ _ => ⟨_, set_same (by have := h.siz; omega), hq1⟩, c3 := fun hj hk => by obtain ⟨v, e, r⟩ := h.c3 (dn_of hi hj (by decide)) (fun q => hk (dn_up q)); exact ⟨v, (set_other (by decide)).trans e, r.on hb⟩, c4 := fun hj hk => by obtain ⟨v, e, r⟩ := h.c4 (dn_of hi hj (by decide)) (fun q => hk (dn_up q)); exact ⟨v, (set_other (by decide)).trans e, r.on hb⟩, c5 := fun hj hk => by obtain ⟨v, e, r⟩ := h.c5 (dn_of hi hj (by decide)) (fun q => hk (dn_up q)); exact ⟨v, (set_other (by decide)).trans e, r.on hb⟩, c6 := fun hj hk => by obtain ⟨v, e, r⟩ := h.c6 (dn_of hi hj (by decide)) (fun q => hk (dn_up q)); exact ⟨v, (set_other (by decide)).trans e, r.on hb⟩, c8 := fun hj hk => by obtain ⟨g, e, hg, hz⟩ := h.c8 (dn_of hi hj (by decide)) (fun q => hk (dn_up q)); exact ⟨g, (set_other (by decide)).trans e, hg, (hb.block g (Array.getElem?_eq_some_iff.1 hz).1).trans hz⟩, c9 := fun hj => absurd ((h.l4 (h.l5 (h.l6 (h.l9 (dn_of hi hj (by decide))).1))).1) (not_dn hi hnd), p0 := rp hi h.p0, p2 := rp hi h.p2, p5 := rc hi h.p5 (fun v h2 => h2), p7 := rp hi h.p7, p10 := rp hi h.p10 }⟩
      · have hi : 2 < d.size := by omega
        have q3 := h.k3
        obtain ⟨m0, m1, m2, m3⟩ := CLb.out wc h.bel
        refine wpOp_plain rfl rfl ?_
        go_simp
        exact ⟨_, rfl, { bel := h.bel, siz := (by simpa using h.siz), kp := rk h.kp, k2 := rs h.k2, k3 := rs h.k3, l1 := fun hj => dn_up (h.l1 (dn_of hi hj (by decide))), l3 := fun hj => absurd (h.l3 (dn_of hi hj (by decide))) (not_dn hi hnd), l4 := fun hj => (fun q => ⟨dn_up q.1, dn_up q.2⟩) (h.l4 (dn_of hi hj (by decide))), l5 := fun hj => dn_up (h.l5 (dn_of hi hj (by decide))), l6 := fun hj => dn_up (h.l6 (dn_of hi hj (by decide))), l9 := fun hj => (fun q => ⟨dn_up q.1, dn_up q.2⟩) (h.l9 (dn_of hi hj (by decide))), c1 := fun hj hk => by obtain ⟨v, e, r⟩ := h.c1 (dn_of hi hj (by decide)) (fun q => hk (dn_up q)); exact ⟨v, (set_other (by decide)).trans e, r⟩, c3 := fun hj hk => by obtain ⟨v, e, r⟩ := h.c3 (dn_of hi hj (by decide)) (fun q => hk (dn_up q)); exact ⟨v, (set_other (by decide)).trans e, r⟩, c4 := fun hj hk => by obtain ⟨v, e, r⟩ := h.c4 (dn_of hi hj (by decide)) (fun q => hk (dn_up q)); exact ⟨v, (set_other (by decide)).trans e, r⟩, c5 := fun hj hk => by obtain ⟨v, e, r⟩ := h.c5 (dn_of hi hj (by decide)) (fun q => hk (dn_up q)); exact ⟨v, (set_other (by decide)).trans e, r⟩, c6 := fun hj hk => by obtain ⟨v, e, r⟩ := h.c6 (dn_of hi hj (by decide)) (fun q => hk (dn_up q)); exact ⟨v, (set_other (by decide)).trans e, r⟩, c8 := fun hj hk => by obtain ⟨g, e, hg, hz⟩ := h.c8 (dn_of hi hj (by decide)) (fun q => hk (dn_up q)); exact ⟨g, (set_other (by decide)).trans e, hg, hz⟩, c9 := fun hj => absurd (h.l3 (h.l4 (h.l5 (h.l6 (h.l9 (dn_of hi hj (by decide))).1))).2) (not_dn hi hnd), p0 := rp hi h.p0, p2 := fun _ => set_same (by have := h.siz; omega), p5 := rc hi h.p5 (fun v h2 => h2), p7 := rp hi h.p7, p10 := rp hi h.p10 }⟩
      · have hi : 3 < d.size := by omega
        have d2 : dn d 2 := hpre _ rfl ⟨2, .data⟩ (by simp) rfl
        have e2 := h.p2 d2
        refine wpOp_plain rfl rfl ?_
        go_simp
        refine (HCPBb.out wc h.bel).mono ?_
        rintro e1 w1 ⟨y1, rfl, hq1, hb⟩
        exact ⟨_, rfl, { bel := h.bel.trans (hb.mono h.bel.size), siz := (by simpa using h.siz), kp := rk h.kp, k2 := rs h.k2, k3 := rs h.k3, l1 := fun hj => dn_up (h.l1 (dn_of hi hj (by decide))), l3 := fun _ => dn_up (hpre _ rfl ⟨2, .data⟩ (by simp) rfl), l4 := fun hj => absurd (h.l4 (dn_of hi hj (by decide))).2 (not_dn hi hnd), l5 := fun hj => dn_up (h.l5 (dn_of hi hj (by decide))), l6 := fun hj => dn_up (h.l6 (dn_of hi hj (by decide))), l9 := fun hj => (fun q => ⟨dn_up q.1, dn_up q.2⟩) (h.l9 (dn_of hi hj (by decide))), c1 := fun hj hk => by obtain ⟨v, e, r⟩ := h.c1 (dn_of hi hj (by decide)) (fun q => hk (dn_up q)); exact ⟨v, (set_other (by decide)).trans e, r.on hb⟩, c3 := fun _ _ => ⟨_, set_same (by have := h.siz; omega), hq1⟩, c4 := fun hj hk => by obtain ⟨v, e, r⟩ := h.c4 (dn_of hi hj (by decide)) (fun q => hk (dn_up q)); exact ⟨v, (set_other (by decide)).trans e, r.on hb⟩, c5 := fun hj hk => by obtain ⟨v, e, r⟩ := h.c5 (dn_of hi hj (by decide)) (fun q => hk (dn_up q)); exact ⟨v, (set_other (by decide)).trans e, r.on hb⟩, c6 := fun hj hk => by obtain ⟨v, e, r⟩ := h.c6 (dn_of hi hj (by decide)) (fun q => hk (dn_up q)); exact ⟨v, (set_other (by decide)).trans e, r.on hb⟩, c8 := fun hj hk => by obtain ⟨g, e, hg, hz⟩ := h.c8 (dn_of hi hj (by decide)) (fun q => hk (dn_up q)); exact ⟨g, (set_other (by decide)).trans e, hg, (hb.block g (Array.getElem?_eq_some_iff.1 hz).1).trans hz⟩, c9 := fun hj => absurd ((h.l4 (h.l5 (h.l6 (h.l9 (dn_of hi hj (by decide))).1))).2) (not_dn hi hnd), p0 := rp hi h.p0, p2 := rp hi h.p2, p5 := rc hi h.p5 (fun v h2 => h2), p7 := rp hi h.p7, p10 := rp hi h.p10 }⟩
      · have hi : 4 < d.size := by omega
        have hn4 := not_dn hi hnd
        have d1 : dn d 1 := hpre _ rfl ⟨1, .data⟩ (by simp) rfl
        have d3 : dn d 3 := hpre _ rfl ⟨3, .data⟩ (by simp) rfl
        obtain ⟨v1, e1, r1⟩ := h.c1 d1 hn4
        obtain ⟨v3, e3, r3⟩ := h.c3 d3 hn4
        refine wpOp_plain rfl rfl ?_
        go_simp
        refine (HMGb.out wc h.bel v1 v3 r1 r3).mono ?_
        rintro e1 w1 ⟨y1, rfl, hq1, hb⟩
        exact ⟨_, rfl, { bel := h.bel.trans (hb.mono h.bel.size), siz := (by simpa using h.siz), kp := rk h.kp, k2 := rs h.k2, k3 := rs h.k3, l1 := fun hj => dn_up (h.l1 (dn_of hi hj (by decide))), l3 := fun hj => dn_up (h.l3 (dn_of hi hj (by decide))), l4 := fun _ => ⟨dn_up (hpre _ rfl ⟨1, .data⟩ (by simp) rfl), dn_up (hpre _ rfl ⟨3, .data⟩ (by simp) rfl)⟩, l5 := fun hj => absurd (h.l5 (dn_of hi hj (by decide))) (not_dn hi hnd), l6 := fun hj => dn_up (h.l6 (dn_of hi hj (by decide))), l9 := fun hj => (fun q => ⟨dn_up q.1, dn_up q.2⟩) (h.l9 (dn_of hi hj (by decide))), c1 := fun _ hk => absurd (dn_self hi) hk, c3 := fun _ hk => absurd (dn_self hi) hk, c4 := fun _ _ => ⟨_, set_same (by have := h.siz; omega), hq1⟩, c5 := fun hj hk => by obtain ⟨v, e, r⟩ := h.c5 (dn_of hi hj (by decide)) (fun q => hk (dn_up q)); exact ⟨v, (set_other (by decide)).trans e, r.on hb⟩, c6 := fun hj hk => by obtain ⟨v, e, r⟩ := h.c6 (dn_of hi hj (by decide)) (fun q => hk (dn_up q)); exact ⟨v, (set_other (by decide)).trans e, r.on hb⟩, c8 := fun hj hk => by obtain ⟨g, e, hg, hz⟩ := h.c8 (dn_of hi hj (by decide)) (fun q => hk (dn_up q)); exact ⟨g, (set_other (by decide)).trans e, hg, (hb.block g (Array.getElem?_eq_some_iff.1 hz).1).trans hz⟩, c9 := fun hj => absurd (h.l5 (h.l6 (h.l9 (dn_of hi hj (by decide))).1)) (not_dn hi hnd), p0 := rp hi h.p0, p2 := rp hi h.p2, p5 := rc hi h.p5 (fun v h2 => h2), p7 := rp hi h.p7, p10 := rp hi h.p10 }⟩
      · have hi : 5 < d.size := by omega
        have d4 : dn d 4 := hpre _ rfl ⟨4, .data⟩ (by simp) rfl
        have hn9 : ¬ dn d 9 := fun q => not_dn hi hnd (h.l6 (h.l9 q).1)
        obtain ⟨v4, e4, r4⟩ := h.c4 d4 hn9
        refine wpOp_plain rfl rfl ?_
        go_simp
        exact ⟨_, rfl, { bel := h.bel, siz := (by simpa using h.siz), kp := rk h.kp, k2 := rs h.k2, k3 := rs h.k3, l1 := fun hj => dn_up (h.l1 (dn_of hi hj (by decide))), l3 := fun hj => dn_up (h.l3 (dn_of hi hj (by decide))), l4 := fun hj => (fun q => ⟨dn_up q.1, dn_up q.2⟩) (h.l4 (dn_of hi hj (by decide))), l5 := fun _ => dn_up (hpre _ rfl ⟨4, .data⟩ (by simp) rfl), l6 := fun hj => absurd (h.l6 (dn_of hi hj (by decide))) (not_dn hi hnd), l9 := fun hj => (fun q => ⟨dn_up q.1, dn_up q.2⟩) (h.l9 (dn_of hi hj (by decide))), c1 := fun hj hk => by obtain ⟨v, e, r⟩ := h.c1 (dn_of hi hj (by decide)) (fun q => hk (dn_up q)); exact ⟨v, (set_other (by decide)).trans e, r⟩, c3 := fun hj hk => by obtain ⟨v, e, r⟩ := h.c3 (dn_of hi hj (by decide)) (fun q => hk (dn_up q)); exact ⟨v, (set_other (by decide)).trans e, r⟩, c4 := fun hj hk => by obtain ⟨v, e, r⟩ := h.c4 (dn_of hi hj (by decide)) (fun q => hk (dn_up q)); exact ⟨v, (set_other (by decide)).trans e, r⟩, c5 := fun _ _ => ⟨v4, set_same (by have := h.siz; omega), r4⟩, c6 := fun hj hk => by obtain ⟨v, e, r⟩ := h.c6 (dn_of hi hj (by decide)) (fun q => hk (dn_up q)); exact ⟨v, (set_other (by decide)).trans e, r⟩, c8 := fun hj hk => by obtain ⟨g, e, hg, hz⟩ := h.c8 (dn_of hi hj (by decide)) (fun q => hk (dn_up q)); exact ⟨g, (set_other (by decide)).trans e, hg, hz⟩, c9 := fun hj => absurd (h.l6 (h.l9 (dn_of hi hj (by decide))).1) (not_dn hi hnd), p0 := rp hi h.p0, p2 := rp hi h.p2, p5 := fun _ => ⟨_, set_same (by have := h.siz; omega), ⟨_, rfl⟩⟩, p7 := rp hi h.p7, p10 := rp hi h.p10 }⟩
      · have hi : 6 < d.size := by omega
        have d5 : dn d 5 := hpre _ rfl ⟨5, .data⟩ (by simp) rfl
        have hn9 : ¬ dn d 9 := fun q => not_dn hi hnd (h.l9 q).1
        obtain ⟨v5, e5, r5⟩ := h.c5 d5 hn9
        refine wpOp_plain rfl rfl ?_
        go_simp
        exact ⟨_, rfl, { bel := h.bel, siz := (by simpa using h.siz), kp := rk h.kp, k2 := rs h.k2, k3 := rs h.k3, l1 := fun hj => dn_up (h.l1 (dn_of hi hj (by decide))), l3 := fun hj => dn_up (h.l3 (dn_of hi hj (by decide))), l4 := fun hj => (fun q => ⟨dn_up q.1, dn_up q.2⟩) (h.l4 (dn_of hi hj (by decide))), l5 := fun hj => dn_up (h.l5 (dn_of hi hj (by decide))), l6 := fun _ => dn_up (hpre _ rfl ⟨5, .data⟩ (by simp) rfl), l9 := fun hj => absurd (h.l9 (dn_of hi hj (by decide))).1 (not_dn hi hnd), c1 := fun hj hk => by obtain ⟨v, e, r⟩ := h.c1 (dn_of hi hj (by decide)) (fun q => hk (dn_up q)); exact ⟨v, (set_other (by decide)).trans e, r⟩, c3 := fun hj hk => by obtain ⟨v, e, r⟩ := h.c3 (dn_of hi hj (by decide)) (fun q => hk (dn_up q)); exact ⟨v, (set_other (by decide)).trans e, r⟩, c4 := fun hj hk => by obtain ⟨v, e, r⟩ := h.c4 (dn_of hi hj (by decide)) (fun q => hk (dn_up q)); exact ⟨v, (set_other (by decide)).trans e, r⟩, c5 := fun hj hk => by obtain ⟨v, e, r⟩ := h.c5 (dn_of hi hj (by decide)) (fun q => hk (dn_up q)); exact ⟨v, (set_other (by decide)).trans e, r⟩, c6 := fun _ _ => ⟨v5, set_same (by have := h.siz; omega), r5⟩, c8 := fun hj hk => by obtain ⟨g, e, hg, hz⟩ := h.c8 (dn_of hi hj (by decide)) (fun q => hk (dn_up q)); exact ⟨g, (set_other (by decide)).trans e, hg, hz⟩, c9 := fun hj => absurd ((h.l9 (dn_of hi hj (by decide))).1) (not_dn hi hnd), p0 := rp hi h.p0, p2 := rp hi h.p2, p5 := rc hi h.p5 (fun v h2 => h2), p7 := rp hi h.p7, p10 := rp hi h.p10 }⟩
      · have hi : 7 < d.size := by omega
        obtain ⟨v5, e5, r5⟩ := h.p5 (hpre _ rfl ⟨5, .data⟩ (by simp) rfl)
        obtain ⟨y5, rfl⟩ := r5
        refine wpOp_plain rfl rfl ?_
        go_simp
        exact ⟨_, rfl, { bel := h.bel, siz := (by simpa using h.siz), kp := rk h.kp, k2 := rs h.k2, k3 := rs h.k3, l1 := fun hj => dn_up (h.l1 (dn_of hi hj (by decide))), l3 := fun hj => dn_up (h.l3 (dn_of hi hj (by decide))), l4 := fun hj => (fun q => ⟨dn_up q.1, dn_up q.2⟩) (h.l4 (dn_of hi hj (by decide))), l5 := fun hj => dn_up (h.l5 (dn_of hi hj (by decide))), l6 := fun hj => dn_up (h.l6 (dn_of hi hj (by decide))), l9 := fun hj => (fun q => ⟨dn_up q.1, dn_up q.2⟩) (h.l9 (dn_of hi hj (by decide))), c1 := fun hj hk => by obtain ⟨v, e, r⟩ := h.c1 (dn_of hi hj (by decide)) (fun q => hk (dn_up q)); exact ⟨v, (set_other (by decide)).trans e, r⟩, c3 := fun hj hk => by obtain ⟨v, e, r⟩ := h.c3 (dn_of hi hj (by decide)) (fun q => hk (dn_up q)); exact ⟨v, (set_other (by decide)).trans e, r⟩, c4 := fun hj hk => by obtain ⟨v, e, r⟩ := h.c4 (dn_of hi hj (by decide)) (fun q => hk (dn_up q)); exact ⟨v, (set_other (by decide)).trans e, r⟩, c5 := fun hj hk => by obtain ⟨v, e, r⟩ := h.c5 (dn_of hi hj (by decide)) (fun q => hk (dn_up q)); exact ⟨v, (set_other (by decide)).trans e, r⟩, c6 := fun hj hk => by obtain ⟨v, e, r⟩ := h.c6 (dn_of hi hj (by decide)) (fun q => hk (dn_up q)); exact ⟨v, (set_other (by decide)).trans e, r⟩, c8 := fun hj hk => by obtain ⟨g, e, hg, hz⟩ := h.c8 (dn_of hi hj (by decide)) (fun q => hk (dn_up q)); exact ⟨g, (set_other (by decide)).trans e, hg, hz⟩, c9 := fun hj => by obtain ⟨g, A, c, e, hg, hz, hr⟩ := h.c9 (dn_of hi hj (by decide)); exact ⟨g, A, c, (set_other (by decide)).trans e, hg, hz, hr⟩, p0 := rp hi h.p0, p2 := rp hi h.p2, p5 := rc hi h.p5 (fun v h2 => h2), p7 := fun _ => set_same (by have := h.siz; omega), p10 := rp hi h.p10 }⟩
      · have hi : 8 < d.size := by omega
        have hn9 : ¬ dn d 9 := fun q => not_dn hi hnd (h.l9 q).2
        have hb : Below wc.heap.size wc (wc.alloc (.cells #[.int .i64 0, .slice none 0 0] 24)) := (Below.refl _ _).alloc (Nat.le_refl _) _
        refine wpOp_plain rfl rfl ?_
        go_simp
        exact ⟨_, rfl, { bel := h.bel.trans (hb.mono h.bel.size), siz := (by simpa using h.siz), kp := rk h.kp, k2 := rs h.k2, k3 := rs h.k3, l1 := fun hj => dn_up (h.l1 (dn_of hi hj (by decide))), l3 := fun hj => dn_up (h.l3 (dn_of hi hj (by decide))), l4 := fun hj => (fun q => ⟨dn_up q.1, dn_up q.2⟩) (h.l4 (dn_of hi hj (by decide))), l5 := fun hj => dn_up (h.l5 (dn_of hi hj (by decide))), l6 := fun hj => dn_up (h.l6 (dn_of hi hj (by decide))), l9 := fun hj => absurd (h.l9 (dn_of hi hj (by decide))).2 (not_dn hi hnd), c1 := fun hj hk => by obtain ⟨v, e, r⟩ := h.c1 (dn_of hi hj (by decide)) (fun q => hk (dn_up q)); exact ⟨v, (set_other (by decide)).trans e, r.on hb⟩, c3 := fun hj hk => by obtain ⟨v, e, r⟩ := h.c3 (dn_of hi hj (by decide)) (fun q => hk (dn_up q)); exact ⟨v, (set_other (by decide)).trans e, r.on hb⟩, c4 := fun hj hk => by obtain ⟨v, e, r⟩ := h.c4 (dn_of hi hj (by decide)) (fun q => hk (dn_up q)); exact ⟨v, (set_other (by decide)).trans e, r.on hb⟩, c5 := fun hj hk => by obtain ⟨v, e, r⟩ := h.c5 (dn_of hi hj (by decide)) (fun q => hk (dn_up q)); exact ⟨v, (set_other (by decide)).trans e, r.on hb⟩, c6 := fun hj hk => by obtain ⟨v, e, r⟩ := h.c6 (dn_of hi hj (by decide)) (fun q => hk (dn_up q)); exact ⟨v, (set_other (by decide)).trans e, r.on hb⟩, c8 := fun _ _ => ⟨wc.heap.size, set_same (by have := h.siz; omega), h.bel.size, heap_alloc_new _ _⟩, c9 := fun hj => absurd ((h.l9 (dn_of hi hj (by decide))).2) (not_dn hi hnd), p0 := rp hi h.p0, p2 := rp hi h.p2, p5 := rc hi h.p5 (fun v h2 => h2), p7 := rp hi h.p7, p10 := rp hi h.p10 }⟩
      · have hi : 9 < d.size := by omega
        have hn9 := not_dn hi hnd
        have d6 : dn d 6 := hpre _ rfl ⟨6, .data⟩ (by simp) rfl
        have d8 : dn d 8 := hpre _ rfl ⟨8, .data⟩ (by simp) rfl
        obtain ⟨v6, e6, r6⟩ := h.c6 d6 hn9
        obtain ⟨g, e8, hg8, hz8⟩ := h.c8 d8 hn9
        have R6 := r6
        obtain ⟨⟨u6, rfl, hg6⟩, -⟩ := r6
        obtain ⟨A6, c6, rfl⟩ := hg6.form
        have z0 : wc.cell? ⟨g, 0, none⟩ = some (.int .i64 0) := by simp [World.cell?, hz8]
        have z1 : wc.cell? ⟨g, 1, none⟩ = some (.slice none 0 0) := by simp [World.cell?, hz8]
        have y0 : wc.frozen? ⟨g, 0, none⟩ = false := by simp [World.frozen?, hz8]
        have y1 : wc.frozen? ⟨g, 1, none⟩ = false := by simp [World.frozen?, hz8]
        clear hg6
        refine wpOp_plain rfl rfl ?_
        go_simp
        exact ⟨_, rfl, { bel := (h.bel.setCell (p := ⟨g, 0, none⟩) hg8 _).setCell (p := ⟨g, 1, none⟩) hg8 _, siz := h.siz, kp := h.kp, k2 := h.k2, k3 := h.k3, l1 := fun hj => dn_up (h.l1 (dn_of hi hj (by decide))), l3 := fun hj => dn_up (h.l3 (dn_of hi hj (by decide))), l4 := fun hj => (fun q => ⟨dn_up q.1, dn_up q.2⟩) (h.l4 (dn_of hi hj (by decide))), l5 := fun hj => dn_up (h.l5 (dn_of hi hj (by decide))), l6 := fun hj => dn_up (h.l6 (dn_of hi hj (by decide))), l9 := fun _ => ⟨dn_up (hpre _ rfl ⟨6, .data⟩ (by simp) rfl), dn_up (hpre _ rfl ⟨8, .data⟩ (by simp) rfl)⟩, c1 := fun _ hk => absurd (dn_up (h.l5 (h.l6 d6))) hk, c3 := fun _ hk => absurd (dn_up (h.l5 (h.l6 d6))) hk, c4 := fun _ hk => absurd (dn_self hi) hk, c5 := fun _ hk => absurd (dn_self hi) hk, c6 := fun _ hk => absurd (dn_self hi) hk, c8 := fun _ hk => absurd (dn_self hi) hk, c9 := fun _ => ⟨g, A6, c6, e8, hg8, box_heap hz8, rdsl_box hz8 R6⟩, p0 := rn hi h.p0, p2 := rn hi h.p2, p5 := rcn hi h.p5 (fun v h2 => h2), p7 := rn hi h.p7, p10 := rn hi h.p10 }⟩
      · have hi : 10 < d.size := by omega
        have e7 := h.p7 (hpre _ rfl ⟨7, .data⟩ (by simp) rfl)
        refine wpOp_plain rfl rfl ?_
        go_simp
        exact ⟨_, rfl, { bel := h.bel, siz := (by simpa using h.siz), kp := rk h.kp, k2 := rs h.k2, k3 := rs h.k3, l1 := fun hj => dn_up (h.l1 (dn_of hi hj (by decide))), l3 := fun hj => dn_up (h.l3 (dn_of hi hj (by decide))), l4 := fun hj => (fun q => ⟨dn_up q.1, dn_up q.2⟩) (h.l4 (dn_of hi hj (by decide))), l5 := fun hj => dn_up (h.l5 (dn_of hi hj (by decide))), l6 := fun hj => dn_up (h.l6 (dn_of hi hj (by decide))), l9 := fun hj => (fun q => ⟨dn_up q.1, dn_up q.2⟩) (h.l9 (dn_of hi hj (by decide))), c1 := fun hj hk => by obtain ⟨v, e, r⟩ := h.c1 (dn_of hi hj (by decide)) (fun q => hk (dn_up q)); exact ⟨v, (set_other (by decide)).trans e, r⟩, c3 := fun hj hk => by obtain ⟨v, e, r⟩ := h.c3 (dn_of hi hj (by decide)) (fun q => hk (dn_up q)); exact ⟨v, (set_other (by decide)).trans e, r⟩, c4 := fun hj hk => by obtain ⟨v, e, r⟩ := h.c4 (dn_of hi hj (by decide)) (fun q => hk (dn_up q)); exact ⟨v, (set_other (by decide)).trans e, r⟩, c5 := fun hj hk => by obtain ⟨v, e, r⟩ := h.c5 (dn_of hi hj (by decide)) (fun q => hk (dn_up q)); exact ⟨v, (set_other (by decide)).trans e, r⟩, c6 := fun hj hk => by obtain ⟨v, e, r⟩ := h.c6 (dn_of hi hj (by decide)) (fun q => hk (dn_up q)); exact ⟨v, (set_other (by decide)).trans e, r⟩, c8 := fun hj hk => by obtain ⟨g, e, hg, hz⟩ := h.c8 (dn_of hi hj (by decide)) (fun q => hk (dn_up q)); exact ⟨g, (set_other (by decide)).trans e, hg, hz⟩, c9 := fun hj => by obtain ⟨g, A, c, e, hg, hz, hr⟩ := h.c9 (dn_of hi hj (by decide)); exact ⟨g, A, c, (set_other (by decide)).trans e, hg, hz, hr⟩, p0 := rp hi h.p0, p2 := rp hi h.p2, p5 := rc hi h.p5 (fun v h2 => h2), p7 := rp hi h.p7, p10 := fun _ => set_same (by have := h.siz; omega) }⟩
    case gendb =>
      intro d a wc hd hI hall
      obtain ⟨t, rfl, h⟩ := hI
      have hdn : ∀ j, j < 11 → dn d j := fun j hj => dn_all hd hall hj
      have hd : ∀ j, (_ : j < 11 := by decide) → dn d j := fun j hj => hdn j hj
      obtain ⟨t9, x9⟩ : ∃ v, t[9]? = some v := ⟨_, Array.getElem?_eq_getElem (by have := h.siz; omega)⟩
      obtain ⟨v5, e5, r5⟩ := h.p5 (hd 5)
      obtain ⟨t65, x65⟩ : ∃ v, t[65]? = some v := ⟨_, Array.getElem?_eq_getElem (by have := h.siz; omega)⟩
      obtain ⟨t67, x67⟩ : ∃ v, t[67]? = some v := ⟨_, Array.getElem?_eq_getElem (by have := h.siz; omega)⟩
      obtain ⟨t68, x68⟩ : ∃ v, t[68]? = some v := ⟨_, Array.getElem?_eq_getElem (by have := h.siz; omega)⟩
      obtain ⟨t69, x69⟩ : ∃ v, t[69]? = some v := ⟨_, Array.getElem?_eq_getElem (by have := h.siz; omega)⟩
      obtain ⟨gb, Gb, cgb, e5, hg5, hz5, hr5⟩ := h.c9 (hd 9)
      obtain rfl : t9 = .pointer (some ⟨gb, 0, none⟩) := by rw [x9] at e5; simpa using e5
      clear e5
      have hfe := frame_eq [(9, _), (10, _), (63, v5), (64, _), (65, _), (66, _), (67, _), (68, _), (69, _), (70, _)] (h.siz.trans rfl) h.kp rfl ⟨x9, h.p10 (hd 10), e5, h.p0 (hd 0), x65, h.p2 (hd 2), x67, x68, x69, h.p7 (hd 7), trivial⟩
      simp only [List.foldl_cons, List.foldl_nil, List.setIfInBounds_toArray, List.set_cons_succ, List.set_cons_zero] at hfe
      have hbc := h.bel
      subst hfe
      clear h hdn hd hall
      rename World => wm
      have HBm : Hid (Below w.heap.size w wm) := Lib.hid (HBX.out wm hbc)
      have H1m : Hid (Below W1.heap.size W1 wm) := Lib.hid (H1s.out.trans (hbc.mono H1s.out.size))
      have HZG := Lib.hid hz5
      have HRG := Lib.hid hr5
      have hgm : gb < wm.heap.size := (Array.getElem?_eq_some_iff.1 hz5).1
      have CB0 : Hid (∀ W, Below wm.heap.size wm W → W.cell? ⟨gb, 1, none⟩ = some (.slice Gb ML.signs.length cgb)) := Lib.hid fun W hW => by
        have p := (hW.block gb hgm).trans HZG.out
        simp [World.cell?, p]
      clear hbc hg5 hz5 hr5 CLb HCPAb HCPBb HMGb HBX x65 x67 x68 x69 x9 e5 r5
      by_cases h0 : er = 0
      case neg =>
        have n0 : (er == 0) = false := by rw [beq_eq_false_iff_ne]; exact h0
        go_wp2_with fail
        refine (HWK.out _ HBm.out).mono ?_
        rintro e wz ⟨rfl, hbz⟩
        have HBZ := Lib.hid (HBm.out.trans (hbz.mono HBm.out.size))
        clear hbz
        go_wp2_with fail
        go_ret
        exact ⟨rfl, HBZ.out⟩
      subst h0
      have HMM : Hid (ML = Sg.mergedL a b) := Lib.hid (by rw [HMLE.out]; unfold Sg.mergeL; rw [if_pos HERE.out.symm])
      have hgk := HRG.out.ex
      obtain ⟨um, hum, hgm2⟩ := hgk
      have hum2 : um = .slice Gb ML.signs.length cgb := by injection hum with e1; injection e1 with e2; simp at e2; exact e2.symm
      rw [hum2] at hgm2
      have HGM := Lib.hid hgm2
      have hmn : ML.signs.length ≤ 400 := by
        rw [HMM.out]
        show ((Sg.uniteL a.signs b.signs).map Sg.tidyS).length ≤ 400
        have h1 := Sg.unite_len (a := a.signs) (b := b.signs) b.signs.length
        rw [List.take_length] at h1
        have h2 := (Sg.check_sign HCA.out).2.1
        have h3 := (Sg.check_sign HCB.out).2.1
        rw [List.length_map]
        omega
      have HMV : Hid (∀ s ∈ ML.signs, s.values.length ≤ 1000) := Lib.hid fun s hs => by
        rw [HMM.out] at hs
        rw [(Sg.merged_at HCA.out HCB.out hs).1]
        have h1 := Sg.vals_len HCA.out s.code
        have h2 := Sg.vals_len HCB.out s.code
        have h3 := Sg.tidied_len (L := Sg.valsAt a.signs s.code ++ Sg.valsAt b.signs s.code) (fun x hx => by
          rcases List.mem_append.1 hx with hx | hx
          · obtain ⟨t, ht, hxt⟩ := Sg.vals_mem hx
            exact (Sg.valid_le HCA.out ht).2 x hxt
          · obtain ⟨t, ht, hxt⟩ := Sg.vals_mem hx
            exact (Sg.valid_le HCB.out ht).2 x hxt)
        rw [List.length_append] at h3
        omega
      clear hum hum2 hgm2 HRG HZG HMLE HERE
      go_wp2_with fail
      go_loopg [11] 9 (fun g i wr => ∃ k : Nat, k ≤ 9 ∧ g = 9 - k ∧ i = .int .i64 ((k : Int) + 1) ∧ Below wm.heap.size wm wr)
      case atStart => exact ⟨0, Nat.zero_le _, rfl, rfl, Below.refl _ _⟩
      case round =>
        obtain ⟨kp, hkp, rfl, rfl, hbp⟩ := hrel
        rename World => wp
        have HBP := Lib.hid hbp
        clear hbp
        by_cases hp9 : kp < 9
        · have hpI : (kp : Int) + 1 ≤ 9 := by omega
          obtain ⟨pp, hpp⟩ : ∃ p : Int, p = (kp : Int) + 1 := ⟨_, rfl⟩
          have HPP := Lib.hid hpp
          go_wp2_with fail
          go_loopg [12] ML.signs.length (fun g i wr => ∃ j : Nat, j ≤ ML.signs.length ∧ g = ML.signs.length - j ∧ i = .int .i64 (j : Nat) ∧ Below wm.heap.size wm wr)
          case atStart => exact ⟨0, Nat.zero_le _, rfl, rfl, HBP.out⟩
          case round =>
            obtain ⟨j, hj, rfl, rfl, hbj⟩ := hrel
            rename World => wj
            have HBJ := Lib.hid hbj
            have HJW : Hid (Below w.heap.size w wj) := Lib.hid (HBm.out.trans (hbj.mono HBm.out.size))
            have HJ1 : Hid (Below W1.heap.size W1 wj) := Lib.hid (H1m.out.trans (hbj.mono H1m.out.size))
            have m2 := CB0.out wj hbj
            clear hbj hpp
            by_cases hjl : j < ML.signs.length
            · obtain ⟨bm, om, hGb, hbm, hcell⟩ := HGM.out.five (by omega)
              subst hGb
              obtain ⟨s, hs⟩ : ∃ s, ML.signs[j]? = some s := ⟨_, List.getElem?_eq_getElem hjl⟩
              obtain ⟨us, hrs, g0, g1, g2, g3, g4⟩ := hcell j s hs
              obtain ⟨As, cs, rfl, -, -⟩ := rds_form hrs.rds
              have HRS := Lib.hid hrs
              have CFB : Hid (∀ W, Below wj.heap.size wj W → W.cell? ⟨gb, 1, none⟩ = some (.slice (some ⟨bm, om, none⟩) ML.signs.length cgb)) := Lib.hid fun W hW => CB0.out W (HBJ.out.trans (hW.mono HBJ.out.size))
              have CFS : Hid (∀ W, Below wj.heap.size wj W → W.cell? ⟨bm, om + j * 5, none⟩ = some (.string s.code) ∧ W.cell? ⟨bm, om + j * 5 + 1, none⟩ = some (.int .i64 s.wide) ∧ W.cell? ⟨bm, om + j * 5 + 2, none⟩ = some (.int .i64 s.high) ∧ W.cell? ⟨bm, om + j * 5 + 3, none⟩ = some (.bool s.even) ∧ W.cell? ⟨bm, om + j * 5 + 4, none⟩ = some (.slice As s.values.length cs)) := Lib.hid fun W hW => by
                have hW' := HBJ.out.trans (hW.mono HBJ.out.size)
                exact ⟨(hW'.cell (p := ⟨bm, om + j * 5, none⟩) hbm).trans g0, (hW'.cell (p := ⟨bm, om + j * 5 + 1, none⟩) hbm).trans g1, (hW'.cell (p := ⟨bm, om + j * 5 + 2, none⟩) hbm).trans g2, (hW'.cell (p := ⟨bm, om + j * 5 + 3, none⟩) hbm).trans g3, (hW'.cell (p := ⟨bm, om + j * 5 + 4, none⟩) hbm).trans g4⟩
              have CFC : Hid (∀ W, Below wj.heap.size wj W → W.cell? ⟨bm, om + j * 5, none⟩ = some (.string s.code)) := Lib.hid fun W hW => (CFS.out W hW).1
              have hmem : s ∈ (Sg.mergedL a b).signs := by rw [← HMM.out]; exact List.mem_of_getElem? hs
              have HLAW := Lib.hid (Sg.merged_law HCA.out HCB.out hmem pp)
              have HSVL := Lib.hid (HMV.out s (List.mem_of_getElem? hs))
              have HHAS := Lib.hid (Sg.merged_at HCA.out HCB.out hmem).2
              have HFA := Lib.hid (Sg.find_split HCA.out s.code)
              have HFB := Lib.hid (Sg.find_split HCB.out s.code)
              have HVA := Lib.hid (Sg.vals_len HCA.out s.code)
              have HVB := Lib.hid (Sg.vals_len HCB.out s.code)
              have hj0 : (0 : Int) ≤ (j : Int) := by omega
              have hjJ : (j : Int) < (ML.signs.length : Int) := by omega
              obtain ⟨VA, hVA⟩ : ∃ L, L = Sg.valsAt a.signs s.code := ⟨_, rfl⟩
              obtain ⟨VB, hVB⟩ : ∃ L, L = Sg.valsAt b.signs s.code := ⟨_, rfl⟩
              obtain ⟨qa1, qa2, hqa⟩ : ∃ x y, (x, y) = Sg.findV a s.code := ⟨(Sg.findV a s.code).1, (Sg.findV a s.code).2, rfl⟩
              obtain ⟨qb1, qb2, hqb⟩ : ∃ x y, (x, y) = Sg.findV b s.code := ⟨(Sg.findV b s.code).1, (Sg.findV b s.code).2, rfl⟩
              rw [← hVA] at HLAW HFA HVA
              rw [← hVB] at HLAW HFB HVB
              rw [← hqa] at HFA
              rw [← hqb] at HFB
              have HFDc : Hid (∀ W, Below wj.heap.size wj W → Calls Tryz.prog 25 #[.agg #[.int .i64 a.periods, .slice A0 a.signs.length c0], .string s.code] W (RetIxE (qa1, qa2) W)) := Lib.hid fun W hW => by
                rw [hqa]
                exact r1Find_any _ a s.code W (HRA.out W (HJW.out.trans (hW.mono HJW.out.size)))
              have CFc : Hid (∀ W, Below wj.heap.size wj W → W.cell? ⟨w.heap.size, 0, none⟩ = some (.int .i64 a.periods) ∧ W.cell? ⟨w.heap.size, 1, none⟩ = some (.slice A0 a.signs.length c0)) := Lib.hid fun W hW => by
                obtain ⟨y0, y1, -, -⟩ := CX.out W (HJ1.out.trans (hW.mono HJ1.out.size))
                exact ⟨y0, y1⟩
              obtain ⟨W0, hW0⟩ : ∃ W0, W0 = wj := ⟨_, rfl⟩
              have H0W : Hid (Below wj.heap.size wj wj) := Lib.hid (Below.refl _ _)
              have HQB := Lib.hid hqb
              clear hcell hs g0 g1 g2 g3 g4 hrs hmem hVA hVB hqa hqb hbm hW0
              go_upto_region 17 with fail
              clear m2
              refine wp_region_inv2T (fun T0 => LmhI T0 wj w.heap.size gb a.periods A0 a.signs.length c0 bm om ML.signs.length cgb j s.code qa1 qa2) (by kernel_rfl) (by kernel_rfl) ?g0c ?gstepc ?gendc
              case g0c =>
                have hno : ∀ j, ¬ dn (Array.replicate 13 false) j := by
                  intro j; unfold dn; by_cases hj : j < 13 <;> simp [Array.getD, hj]
                have na : ∀ {j : Nat} {Z : Prop}, dn (Array.replicate 13 false) j → Z := fun hj => absurd hj (hno _)
                exact ⟨_, rfl, { bel := (Below.refl _ _).drew, siz := rfl, kp := fun _ _ => rfl, k2 := rfl, k9 := rfl, k12 := rfl, p0 := na, p1 := na, p2 := na, p3 := na, p4 := na, p5 := na, p6 := na, p7 := na, p8 := na, p9 := na, p10 := na, p11 := na, p12 := na }⟩
              case gstepc =>
                intro T0 d a wc i hd hI hi
                obtain ⟨hlt, hnd, hpre⟩ := mem_ready hi
                have hd' : d.size = 13 := hd
                have hin : i < 13 := hlt
                clear hi hd hlt
                obtain ⟨t, rfl, h⟩ := hI
                have hcs : i = 0 ∨ i = 1 ∨ i = 2 ∨ i = 3 ∨ i = 4 ∨ i = 5 ∨ i = 6 ∨ i = 7 ∨ i = 8 ∨ i = 9 ∨ i = 10 ∨ i = 11 ∨ i = 12 := by omega
                rcases hcs with rfl | rfl | rfl | rfl | rfl | rfl | rfl | rfl | rfl | rfl | rfl | rfl | rfl
                · have hi : 0 < d.size := by omega
                  have q2 := h.k2
                  obtain ⟨m0, m1⟩ := CFc.out wc h.bel
                  go_light
                  refine wpOp_plain rfl rfl ?_
                  go_simp
                  exact ⟨_, rfl, { bel := h.bel, siz := (by simpa using h.siz), kp := rk h.kp, k2 := rs h.k2, k9 := rs h.k9, k12 := rs h.k12, p0 := fun _ => set_same (by have := h.siz; omega), p1 := rp hi h.p1, p2 := rp hi h.p2, p3 := rp hi h.p3, p4 := rp hi h.p4, p5 := rp hi h.p5, p6 := rp hi h.p6, p7 := rp hi h.p7, p8 := rp hi h.p8, p9 := rp hi h.p9, p10 := rp hi h.p10, p11 := rp hi h.p11, p12 := rp hi h.p12 }⟩
                · have hi : 1 < d.size := by omega
                  have q9 := h.k9
                  go_light
                  refine wpOp_plain rfl rfl ?_
                  go_simp
                  exact ⟨_, rfl, { bel := h.bel, siz := (by simpa using h.siz), kp := rk h.kp, k2 := rs h.k2, k9 := rs h.k9, k12 := rs h.k12, p0 := rp hi h.p0, p1 := fun _ => set_same (by have := h.siz; omega), p2 := rp hi h.p2, p3 := rp hi h.p3, p4 := rp hi h.p4, p5 := rp hi h.p5, p6 := rp hi h.p6, p7 := rp hi h.p7, p8 := rp hi h.p8, p9 := rp hi h.p9, p10 := rp hi h.p10, p11 := rp hi h.p11, p12 := rp hi h.p12 }⟩
                · have hi : 2 < d.size := by omega
                  have e1 := h.p1 (hpre _ rfl ⟨1, .data⟩ (by simp) rfl)
                  have m2 := CFB.out wc (H0W.out.trans (h.bel.mono H0W.out.size))
                  go_light
                  refine wpOp_plain rfl rfl ?_
                  go_simp
                  exact ⟨_, rfl, { bel := h.bel, siz := (by simpa using h.siz), kp := rk h.kp, k2 := rs h.k2, k9 := rs h.k9, k12 := rs h.k12, p0 := rp hi h.p0, p1 := rp hi h.p1, p2 := fun _ => set_same (by have := h.siz; omega), p3 := rp hi h.p3, p4 := rp hi h.p4, p5 := rp hi h.p5, p6 := rp hi h.p6, p7 := rp hi h.p7, p8 := rp hi h.p8, p9 := rp hi h.p9, p10 := rp hi h.p10, p11 := rp hi h.p11, p12 := rp hi h.p12 }⟩
                · have hi : 3 < d.size := by omega
                  have q12 := h.k12
                  go_light
                  refine wpOp_plain rfl rfl ?_
                  go_simp
                  exact ⟨_, rfl, { bel := h.bel, siz := (by simpa using h.siz), kp := rk h.kp, k2 := rs h.k2, k9 := rs h.k9, k12 := rs h.k12, p0 := rp hi h.p0, p1 := rp hi h.p1, p2 := rp hi h.p2, p3 := fun _ => set_same (by have := h.siz; omega), p4 := rp hi h.p4, p5 := rp hi h.p5, p6 := rp hi h.p6, p7 := rp hi h.p7, p8 := rp hi h.p8, p9 := rp hi h.p9, p10 := rp hi h.p10, p11 := rp hi h.p11, p12 := rp hi h.p12 }⟩
                · have hi : 4 < d.size := by omega
                  have e2 := h.p2 (hpre _ rfl ⟨2, .data⟩ (by simp) rfl)
                  have e3 := h.p3 (hpre _ rfl ⟨3, .data⟩ (by simp) rfl)
                  go_light
                  refine wpOp_plain rfl rfl ?_
                  go_simp
                  exact ⟨_, rfl, { bel := h.bel, siz := (by simpa using h.siz), kp := rk h.kp, k2 := rs h.k2, k9 := rs h.k9, k12 := rs h.k12, p0 := rp hi h.p0, p1 := rp hi h.p1, p2 := rp hi h.p2, p3 := rp hi h.p3, p4 := fun _ => set_same (by have := h.siz; omega), p5 := rp hi h.p5, p6 := rp hi h.p6, p7 := rp hi h.p7, p8 := rp hi h.p8, p9 := rp hi h.p9, p10 := rp hi h.p10, p11 := rp hi h.p11, p12 := rp hi h.p12 }⟩
                · have hi : 5 < d.size := by omega
                  have e4 := h.p4 (hpre _ rfl ⟨4, .data⟩ (by simp) rfl)
                  go_light
                  refine wpOp_plain rfl rfl ?_
                  go_simp
                  exact ⟨_, rfl, { bel := h.bel, siz := (by simpa using h.siz), kp := rk h.kp, k2 := rs h.k2, k9 := rs h.k9, k12 := rs h.k12, p0 := rp hi h.p0, p1 := rp hi h.p1, p2 := rp hi h.p2, p3 := rp hi h.p3, p4 := rp hi h.p4, p5 := fun _ => set_same (by have := h.siz; omega), p6 := rp hi h.p6, p7 := rp hi h.p7, p8 := rp hi h.p8, p9 := rp hi h.p9, p10 := rp hi h.p10, p11 := rp hi h.p11, p12 := rp hi h.p12 }⟩
                · have hi : 6 < d.size := by omega
                  have e5 := h.p5 (hpre _ rfl ⟨5, .data⟩ (by simp) rfl)
                  have m3 := CFC.out wc (H0W.out.trans (h.bel.mono H0W.out.size))
                  go_light
                  refine wpOp_plain rfl rfl ?_
                  go_simp
                  exact ⟨_, rfl, { bel := h.bel, siz := (by simpa using h.siz), kp := rk h.kp, k2 := rs h.k2, k9 := rs h.k9, k12 := rs h.k12, p0 := rp hi h.p0, p1 := rp hi h.p1, p2 := rp hi h.p2, p3 := rp hi h.p3, p4 := rp hi h.p4, p5 := rp hi h.p5, p6 := fun _ => set_same (by have := h.siz; omega), p7 := rp hi h.p7, p8 := rp hi h.p8, p9 := rp hi h.p9, p10 := rp hi h.p10, p11 := rp hi h.p11, p12 := rp hi h.p12 }⟩
                · have hi : 7 < d.size := by omega
                  have e0 := h.p0 (hpre _ rfl ⟨0, .data⟩ (by simp) rfl)
                  have e6 := h.p6 (hpre _ rfl ⟨6, .data⟩ (by simp) rfl)
                  go_light
                  refine wpOp_plain rfl rfl ?_
                  go_simp
                  refine (HFDc.out wc h.bel).mono ?_
                  rintro e1 w1 ⟨rfl, hb⟩
                  exact ⟨_, rfl, { bel := h.bel.trans (hb.mono h.bel.size), siz := (by simpa using h.siz), kp := rk h.kp, k2 := rs h.k2, k9 := rs h.k9, k12 := rs h.k12, p0 := rp hi h.p0, p1 := rp hi h.p1, p2 := rp hi h.p2, p3 := rp hi h.p3, p4 := rp hi h.p4, p5 := rp hi h.p5, p6 := rp hi h.p6, p7 := fun _ => set_same (by have := h.siz; omega), p8 := rp hi h.p8, p9 := rp hi h.p9, p10 := rp hi h.p10, p11 := rp hi h.p11, p12 := rp hi h.p12 }⟩
                · have hi : 8 < d.size := by omega
                  have e7 := h.p7 (hpre _ rfl ⟨7, .data⟩ (by simp) rfl)
                  go_light
                  refine wpOp_plain rfl rfl ?_
                  go_simp
                  exact ⟨_, rfl, { bel := h.bel, siz := (by simpa using h.siz), kp := rk h.kp, k2 := rs h.k2, k9 := rs h.k9, k12 := rs h.k12, p0 := rp hi h.p0, p1 := rp hi h.p1, p2 := rp hi h.p2, p3 := rp hi h.p3, p4 := rp hi h.p4, p5 := rp hi h.p5, p6 := rp hi h.p6, p7 := rp hi h.p7, p8 := fun _ => set_same (by have := h.siz; omega), p9 := rp hi h.p9, p10 := rp hi h.p10, p11 := rp hi h.p11, p12 := rp hi h.p12 }⟩
                · have hi : 9 < d.size := by omega
                  have e8 := h.p8 (hpre _ rfl ⟨8, .data⟩ (by simp) rfl)
                  go_light
                  refine wpOp_plain rfl rfl ?_
                  go_simp
                  exact ⟨_, rfl, { bel := h.bel, siz := (by simpa using h.siz), kp := rk h.kp, k2 := rs h.k2, k9 := rs h.k9, k12 := rs h.k12, p0 := rp hi h.p0, p1 := rp hi h.p1, p2 := rp hi h.p2, p3 := rp hi h.p3, p4 := rp hi h.p4, p5 := rp hi h.p5, p6 := rp hi h.p6, p7 := rp hi h.p7, p8 := rp hi h.p8, p9 := fun _ => set_same (by have := h.siz; omega), p10 := rp hi h.p10, p11 := rp hi h.p11, p12 := rp hi h.p12 }⟩
                · have hi : 10 < d.size := by omega
                  have e8 := h.p8 (hpre _ rfl ⟨8, .data⟩ (by simp) rfl)
                  go_light
                  refine wpOp_plain rfl rfl ?_
                  go_simp
                  exact ⟨_, rfl, { bel := h.bel, siz := (by simpa using h.siz), kp := rk h.kp, k2 := rs h.k2, k9 := rs h.k9, k12 := rs h.k12, p0 := rp hi h.p0, p1 := rp hi h.p1, p2 := rp hi h.p2, p3 := rp hi h.p3, p4 := rp hi h.p4, p5 := rp hi h.p5, p6 := rp hi h.p6, p7 := rp hi h.p7, p8 := rp hi h.p8, p9 := rp hi h.p9, p10 := fun _ => set_same (by have := h.siz; omega), p11 := rp hi h.p11, p12 := rp hi h.p12 }⟩
                · have hi : 11 < d.size := by omega
                  have e9 := h.p9 (hpre _ rfl ⟨9, .data⟩ (by simp) rfl)
                  go_light
                  refine wpOp_plain rfl rfl ?_
                  go_simp
                  exact ⟨_, rfl, { bel := h.bel, siz := (by simpa using h.siz), kp := rk h.kp, k2 := rs h.k2, k9 := rs h.k9, k12 := rs h.k12, p0 := rp hi h.p0, p1 := rp hi h.p1, p2 := rp hi h.p2, p3 := rp hi h.p3, p4 := rp hi h.p4, p5 := rp hi h.p5, p6 := rp hi h.p6, p7 := rp hi h.p7, p8 := rp hi h.p8, p9 := rp hi h.p9, p10 := rp hi h.p10, p11 := fun _ => set_same (by have := h.siz; omega), p12 := rp hi h.p12 }⟩
                · have hi : 12 < d.size := by omega
                  have e10 := h.p10 (hpre _ rfl ⟨10, .data⟩ (by simp) rfl)
                  go_light
                  refine wpOp_plain rfl rfl ?_
                  go_simp
                  exact ⟨_, rfl, { bel := h.bel, siz := (by simpa using h.siz), kp := rk h.kp, k2 := rs h.k2, k9 := rs h.k9, k12 := rs h.k12, p0 := rp hi h.p0, p1 := rp hi h.p1, p2 := rp hi h.p2, p3 := rp hi h.p3, p4 := rp hi h.p4, p5 := rp hi h.p5, p6 := rp hi h.p6, p7 := rp hi h.p7, p8 := rp hi h.p8, p9 := rp hi h.p9, p10 := rp hi h.p10, p11 := rp hi h.p11, p12 := fun _ => set_same (by have := h.siz; omega) }⟩
              case gendc =>
                intro d a wc hd hI hall
                obtain ⟨t, rfl, h⟩ := hI
                have hdn : ∀ j, j < 13 → dn d j := fun j hj => dn_all hd hall hj
                have hd : ∀ j, (_ : j < 13 := by decide) → dn d j := fun j hj => hdn j hj
                have hfe := frame_eq [(14, _), (15, _), (85, _), (86, _), (87, _), (88, _), (89, _), (90, _), (91, _), (92, _), (93, _), (94, _), (95, _)] (h.siz.trans rfl) h.kp rfl ⟨h.p11 (hd 11), h.p12 (hd 12), h.p8 (hd 8), h.p0 (hd 0), h.p1 (hd 1), h.p2 (hd 2), h.p3 (hd 3), h.p4 (hd 4), h.p5 (hd 5), h.p6 (hd 6), h.p7 (hd 7), h.p9 (hd 9), h.p10 (hd 10), trivial⟩
                simp only [List.foldl_cons, List.foldl_nil, List.setIfInBounds_toArray, List.set_cons_succ, List.set_cons_zero] at hfe
                have hbc := h.bel
                subst hfe
                clear h hdn hd hall
                rename World => wf
                have HF1 := Lib.hid hbc
                have HFW : Hid (Below w.heap.size w wf) := Lib.hid (HJW.out.trans (hbc.mono HJW.out.size))
                have HFDd : Hid (∀ W, Below wf.heap.size wf W → Calls Tryz.prog 25 #[.agg #[.int .i64 b.periods, .slice A1 b.signs.length c1], .string s.code] W (RetIxE (qb1, qb2) W)) := Lib.hid fun W hW => by
                  rw [HQB.out]
                  exact r1Find_any _ b s.code W (HRB.out W (HFW.out.trans (hW.mono HFW.out.size)))
                have CFd : Hid (∀ W, Below wf.heap.size wf W → W.cell? ⟨yb, 0, none⟩ = some (.int .i64 b.periods) ∧ W.cell? ⟨yb, 1, none⟩ = some (.slice A1 b.signs.length c1)) := Lib.hid fun W hW => by
                  obtain ⟨-, -, y0, y1⟩ := CX.out W ((HJ1.out.trans (HF1.out.mono HJ1.out.size)).trans (hW.mono (HJ1.out.trans (HF1.out.mono HJ1.out.size)).size))
                  exact ⟨y0, y1⟩
                have H0W : Hid (Below wj.heap.size wj wf) := Lib.hid HF1.out
                clear hbc HFDc CFc
                go_upto_region 18 with fail
                refine wp_region_inv2T (fun T0 => LmiI T0 wf yb gb b.periods A1 b.signs.length c1 bm om ML.signs.length cgb j s.code qb1 qb2) (by kernel_rfl) (by kernel_rfl) ?g0d ?gstepd ?gendd
                case g0d =>
                  have hno : ∀ j, ¬ dn (Array.replicate 13 false) j := by
                    intro j; unfold dn; by_cases hj : j < 13 <;> simp [Array.getD, hj]
                  have na : ∀ {j : Nat} {Z : Prop}, dn (Array.replicate 13 false) j → Z := fun hj => absurd hj (hno _)
                  exact ⟨_, rfl, { bel := (Below.refl _ _).drew, siz := rfl, kp := fun _ _ => rfl, k3 := rfl, k9 := rfl, k12 := rfl, p0 := na, p1 := na, p2 := na, p3 := na, p4 := na, p5 := na, p6 := na, p7 := na, p8 := na, p9 := na, p10 := na, p11 := na, p12 := na }⟩
                case gstepd =>
                  intro T0 d a wc i hd hI hi
                  obtain ⟨hlt, hnd, hpre⟩ := mem_ready hi
                  have hd' : d.size = 13 := hd
                  have hin : i < 13 := hlt
                  clear hi hd hlt
                  obtain ⟨t, rfl, h⟩ := hI
                  have hcs : i = 0 ∨ i = 1 ∨ i = 2 ∨ i = 3 ∨ i = 4 ∨ i = 5 ∨ i = 6 ∨ i = 7 ∨ i = 8 ∨ i = 9 ∨ i = 10 ∨ i = 11 ∨ i = 12 := by omega
                  rcases hcs with rfl | rfl | rfl | rfl | rfl | rfl | rfl | rfl | rfl | rfl | rfl | rfl | rfl
                  · have hi : 0 < d.size := by omega
                    have q3 := h.k3
                    obtain ⟨m0, m1⟩ := CFd.out wc h.bel
                    go_light
                    refine wpOp_plain rfl rfl ?_
                    go_simp
                    exact ⟨_, rfl, { bel := h.bel, siz := (by simpa using h.siz), kp := rk h.kp, k3 := rs h.k3, k9 := rs h.k9, k12 := rs h.k12, p0 := fun _ => set_same (by have := h.siz; omega), p1 := rp hi h.p1, p2 := rp hi h.p2, p3 := rp hi h.p3, p4 := rp hi h.p4, p5 := rp hi h.p5, p6 := rp hi h.p6, p7 := rp hi h.p7, p8 := rp hi h.p8, p9 := rp hi h.p9, p10 := rp hi h.p10, p11 := rp hi h.p11, p12 := rp hi h.p12 }⟩
                  · have hi : 1 < d.size := by omega
                    have q9 := h.k9
                    go_light
                    refine wpOp_plain rfl rfl ?_
                    go_simp
                    exact ⟨_, rfl, { bel := h.bel, siz := (by simpa using h.siz), kp := rk h.kp, k3 := rs h.k3, k9 := rs h.k9, k12 := rs h.k12, p0 := rp hi h.p0, p1 := fun _ => set_same (by have := h.siz; omega), p2 := rp hi h.p2, p3 := rp hi h.p3, p4 := rp hi h.p4, p5 := rp hi h.p5, p6 := rp hi h.p6, p7 := rp hi h.p7, p8 := rp hi h.p8, p9 := rp hi h.p9, p10 := rp hi h.p10, p11 := rp hi h.p11, p12 := rp hi h.p12 }⟩
                  · have hi : 2 < d.size := by omega
                    have e1 := h.p1 (hpre _ rfl ⟨1, .data⟩ (by simp) rfl)
                    have m2 := CFB.out wc (H0W.out.trans (h.bel.mono H0W.out.size))
                    go_light
                    refine wpOp_plain rfl rfl ?_
                    go_simp
                    exact ⟨_, rfl, { bel := h.bel, siz := (by simpa using h.siz), kp := rk h.kp, k3 := rs h.k3, k9 := rs h.k9, k12 := rs h.k12, p0 := rp hi h.p0, p1 := rp hi h.p1, p2 := fun _ => set_same (by have := h.siz; omega), p3 := rp hi h.p3, p4 := rp hi h.p4, p5 := rp hi h.p5, p6 := rp hi h.p6, p7 := rp hi h.p7, p8 := rp hi h.p8, p9 := rp hi h.p9, p10 := rp hi h.p10, p11 := rp hi h.p11, p12 := rp hi h.p12 }⟩
                  · have hi : 3 < d.size := by omega
                    have q12 := h.k12
                    go_light
                    refine wpOp_plain rfl rfl ?_
                    go_simp
                    exact ⟨_, rfl, { bel := h.bel, siz := (by simpa using h.siz), kp := rk h.kp, k3 := rs h.k3, k9 := rs h.k9, k12 := rs h.k12, p0 := rp hi h.p0, p1 := rp hi h.p1, p2 := rp hi h.p2, p3 := fun _ => set_same (by have := h.siz; omega), p4 := rp hi h.p4, p5 := rp hi h.p5, p6 := rp hi h.p6, p7 := rp hi h.p7, p8 := rp hi h.p8, p9 := rp hi h.p9, p10 := rp hi h.p10, p11 := rp hi h.p11, p12 := rp hi h.p12 }⟩
                  · have hi : 4 < d.size := by omega
                    have e2 := h.p2 (hpre _ rfl ⟨2, .data⟩ (by simp) rfl)
                    have e3 := h.p3 (hpre _ rfl ⟨3, .data⟩ (by simp) rfl)
                    go_light
                    refine wpOp_plain rfl rfl ?_
                    go_simp
                    exact ⟨_, rfl, { bel := h.bel, siz := (by simpa using h.siz), kp := rk h.kp, k3 := rs h.k3, k9 := rs h.k9, k12 := rs h.k12, p0 := rp hi h.p0, p1 := rp hi h.p1, p2 := rp hi h.p2, p3 := rp hi h.p3, p4 := fun _ => set_same (by have := h.siz; omega), p5 := rp hi h.p5, p6 := rp hi h.p6, p7 := rp hi h.p7, p8 := rp hi h.p8, p9 := rp hi h.p9, p10 := rp hi h.p10, p11 := rp hi h.p11, p12 := rp hi h.p12 }⟩
                  · have hi : 5 < d.size := by omega
                    have e4 := h.p4 (hpre _ rfl ⟨4, .data⟩ (by simp) rfl)
                    go_light
                    refine wpOp_plain rfl rfl ?_
                    go_simp
                    exact ⟨_, rfl, { bel := h.bel, siz := (by simpa using h.siz), kp := rk h.kp, k3 := rs h.k3, k9 := rs h.k9, k12 := rs h.k12, p0 := rp hi h.p0, p1 := rp hi h.p1, p2 := rp hi h.p2, p3 := rp hi h.p3, p4 := rp hi h.p4, p5 := fun _ => set_same (by have := h.siz; omega), p6 := rp hi h.p6, p7 := rp hi h.p7, p8 := rp hi h.p8, p9 := rp hi h.p9, p10 := rp hi h.p10, p11 := rp hi h.p11, p12 := rp hi h.p12 }⟩
                  · have hi : 6 < d.size := by omega
                    have e5 := h.p5 (hpre _ rfl ⟨5, .data⟩ (by simp) rfl)
                    have m3 := CFC.out wc (H0W.out.trans (h.bel.mono H0W.out.size))
                    go_light
                    refine wpOp_plain rfl rfl ?_
                    go_simp
                    exact ⟨_, rfl, { bel := h.bel, siz := (by simpa using h.siz), kp := rk h.kp, k3 := rs h.k3, k9 := rs h.k9, k12 := rs h.k12, p0 := rp hi h.p0, p1 := rp hi h.p1, p2 := rp hi h.p2, p3 := rp hi h.p3, p4 := rp hi h.p4, p5 := rp hi h.p5, p6 := fun _ => set_same (by have := h.siz; omega), p7 := rp hi h.p7, p8 := rp hi h.p8, p9 := rp hi h.p9, p10 := rp hi h.p10, p11 := rp hi h.p11, p12 := rp hi h.p12 }⟩
                  · have hi : 7 < d.size := by omega
                    have e0 := h.p0 (hpre _ rfl ⟨0, .data⟩ (by simp) rfl)
                    have e6 := h.p6 (hpre _ rfl ⟨6, .data⟩ (by simp) rfl)
                    go_light
                    refine wpOp_plain rfl rfl ?_
                    go_simp
                    refine (HFDd.out wc h.bel).mono ?_
                    rintro e1 w1 ⟨rfl, hb⟩
                    exact ⟨_, rfl, { bel := h.bel.trans (hb.mono h.bel.size), siz := (by simpa using h.siz), kp := rk h.kp, k3 := rs h.k3, k9 := rs h.k9, k12 := rs h.k12, p0 := rp hi h.p0, p1 := rp hi h.p1, p2 := rp hi h.p2, p3 := rp hi h.p3, p4 := rp hi h.p4, p5 := rp hi h.p5, p6 := rp hi h.p6, p7 := fun _ => set_same (by have := h.siz; omega), p8 := rp hi h.p8, p9 := rp hi h.p9, p10 := rp hi h.p10, p11 := rp hi h.p11, p12 := rp hi h.p12 }⟩
                  · have hi : 8 < d.size := by omega
                    have e7 := h.p7 (hpre _ rfl ⟨7, .data⟩ (by simp) rfl)
                    go_light
                    refine wpOp_plain rfl rfl ?_
                    go_simp
                    exact ⟨_, rfl, { bel := h.bel, siz := (by simpa using h.siz), kp := rk h.kp, k3 := rs h.k3, k9 := rs h.k9, k12 := rs h.k12, p0 := rp hi h.p0, p1 := rp hi h.p1, p2 := rp hi h.p2, p3 := rp hi h.p3, p4 := rp hi h.p4, p5 := rp hi h.p5, p6 := rp hi h.p6, p7 := rp hi h.p7, p8 := fun _ => set_same (by have := h.siz; omega), p9 := rp hi h.p9, p10 := rp hi h.p10, p11 := rp hi h.p11, p12 := rp hi h.p12 }⟩
                  · have hi : 9 < d.size := by omega
                    have e8 := h.p8 (hpre _ rfl ⟨8, .data⟩ (by simp) rfl)
                    go_light
                    refine wpOp_plain rfl rfl ?_
                    go_simp
                    exact ⟨_, rfl, { bel := h.bel, siz := (by simpa using h.siz), kp := rk h.kp, k3 := rs h.k3, k9 := rs h.k9, k12 := rs h.k12, p0 := rp hi h.p0, p1 := rp hi h.p1, p2 := rp hi h.p2, p3 := rp hi h.p3, p4 := rp hi h.p4, p5 := rp hi h.p5, p6 := rp hi h.p6, p7 := rp hi h.p7, p8 := rp hi h.p8, p9 := fun _ => set_same (by have := h.siz; omega), p10 := rp hi h.p10, p11 := rp hi h.p11, p12 := rp hi h.p12 }⟩
                  · have hi : 10 < d.size := by omega
                    have e8 := h.p8 (hpre _ rfl ⟨8, .data⟩ (by simp) rfl)
                    go_light
                    refine wpOp_plain rfl rfl ?_
                    go_simp
                    exact ⟨_, rfl, { bel := h.bel, siz := (by simpa using h.siz), kp := rk h.kp, k3 := rs h.k3, k9 := rs h.k9, k12 := rs h.k12, p0 := rp hi h.p0, p1 := rp hi h.p1, p2 := rp hi h.p2, p3 := rp hi h.p3, p4 := rp hi h.p4, p5 := rp hi h.p5, p6 := rp hi h.p6, p7 := rp hi h.p7, p8 := rp hi h.p8, p9 := rp hi h.p9, p10 := fun _ => set_same (by have := h.siz; omega), p11 := rp hi h.p11, p12 := rp hi h.p12 }⟩
                  · have hi : 11 < d.size := by omega
                    have e9 := h.p9 (hpre _ rfl ⟨9, .data⟩ (by simp) rfl)
                    go_light
                    refine wpOp_plain rfl rfl ?_
                    go_simp
                    exact ⟨_, rfl, { bel := h.bel, siz := (by simpa using h.siz), kp := rk h.kp, k3 := rs h.k3, k9 := rs h.k9, k12 := rs h.k12, p0 := rp hi h.p0, p1 := rp hi h.p1, p2 := rp hi h.p2, p3 := rp hi h.p3, p4 := rp hi h.p4, p5 := rp hi h.p5, p6 := rp hi h.p6, p7 := rp hi h.p7, p8 := rp hi h.p8, p9 := rp hi h.p9, p10 := rp hi h.p10, p11 := fun _ => set_same (by have := h.siz; omega), p12 := rp hi h.p12 }⟩
                  · have hi : 12 < d.size := by omega
                    have e10 := h.p10 (hpre _ rfl ⟨10, .data⟩ (by simp) rfl)
                    go_light
                    refine wpOp_plain rfl rfl ?_
                    go_simp
                    exact ⟨_, rfl, { bel := h.bel, siz := (by simpa using h.siz), kp := rk h.kp, k3 := rs h.k3, k9 := rs h.k9, k12 := rs h.k12, p0 := rp hi h.p0, p1 := rp hi h.p1, p2 := rp hi h.p2, p3 := rp hi h.p3, p4 := rp hi h.p4, p5 := rp hi h.p5, p6 := rp hi h.p6, p7 := rp hi h.p7, p8 := rp hi h.p8, p9 := rp hi h.p9, p10 := rp hi h.p10, p11 := rp hi h.p11, p12 := fun _ => set_same (by have := h.siz; omega) }⟩
                case gendd =>
                  intro d a wc hd hI hall
                  obtain ⟨t, rfl, h⟩ := hI
                  have hdn : ∀ j, j < 13 → dn d j := fun j hj => dn_all hd hall hj
                  have hd : ∀ j, (_ : j < 13 := by decide) → dn d j := fun j hj => hdn j hj
                  have hfe := frame_eq [(16, _), (17, _), (96, _), (97, _), (98, _), (99, _), (100, _), (101, _), (102, _), (103, _), (104, _), (105, _), (106, _)] (h.siz.trans rfl) h.kp rfl ⟨h.p11 (hd 11), h.p12 (hd 12), h.p8 (hd 8), h.p0 (hd 0), h.p1 (hd 1), h.p2 (hd 2), h.p3 (hd 3), h.p4 (hd 4), h.p5 (hd 5), h.p6 (hd 6), h.p7 (hd 7), h.p9 (hd 9), h.p10 (hd 10), trivial⟩
                  simp only [List.foldl_cons, List.foldl_nil, List.setIfInBounds_toArray, List.set_cons_succ, List.set_cons_zero] at hfe
                  have hbc := h.bel
                  subst hfe
                  clear h hdn hd hall
                  rename World => wg
                  have HG1 : Hid (Below wj.heap.size wj wg) := Lib.hid (HF1.out.trans (hbc.mono HF1.out.size))
                  have HGW : Hid (Below w.heap.size w wg) := Lib.hid (HJW.out.trans (HG1.out.mono HJW.out.size))
                  have HG0 : Hid (Below W1.heap.size W1 wg) := Lib.hid (HJ1.out.trans (HG1.out.mono HJ1.out.size))
                  clear hbc HFDd CFd HF1 HFW H0W HQB CFC
                  go_upto_if 108 with fail
                  go_cut [13] (fun v wx => wx.ownsRow wj.heap.size 60 4 v (Sg.useL VA pp).length ((Sg.useL VA pp).flatMap encValue) ∧ Below wj.heap.size wj wx)
                  case first =>
                    rcases HFA.out with ⟨-, hq, hv⟩ | ⟨ia, ta, hia, hq, hv⟩
                    · injection hq with hq1 hq2
                      subst hq2
                      have HE : Hid (Sg.useL VA pp = []) := Lib.hid (by rw [hv]; rfl)
                      clear hq1 hv
                      go_wp2_with fail
                      go_meet
                      exact ⟨by rw [HE.out]; exact World.ownsRow_nil _ _ _ _, HG1.out⟩
                    · injection hq with hq1 hq2
                      subst hq2
                      subst hq1
                      have hil := (List.getElem?_eq_some_iff.1 hia).1
                      obtain ⟨ba, oa, rfl, hba, hca⟩ := HGA.out.five (by omega)
                      obtain ⟨ua, hra, g0, g1, g2, g3, g4⟩ := hca ia ta hia
                      have f0 := (HGW.out.cell (p := ⟨ba, oa + ia * 5, none⟩) hba).trans g0
                      have f1 := (HGW.out.cell (p := ⟨ba, oa + ia * 5 + 1, none⟩) hba).trans g1
                      have f2 := (HGW.out.cell (p := ⟨ba, oa + ia * 5 + 2, none⟩) hba).trans g2
                      have f3 := (HGW.out.cell (p := ⟨ba, oa + ia * 5 + 3, none⟩) hba).trans g3
                      have f4 := (HGW.out.cell (p := ⟨ba, oa + ia * 5 + 4, none⟩) hba).trans g4
                      obtain ⟨Aa, ca, rfl, -, -⟩ := rds_form hra.rds
                      have HUS : Hid (Sg.useV ta pp = Sg.useL VA pp) := Lib.hid (by rw [hv]; rfl)
                      have HIU := Lib.hid (r1InUse_any ta _ pp wg ((hra.rds.below HGW.out).more HGW.out.size) (by have := HVA.out; rw [hv] at this; omega))
                      rw [HUS.out] at HIU
                      have hi0 : (0 : Int) ≤ (ia : Int) := by omega
                      have hi1 : (ia : Int) < (a.signs.length : Int) := by omega
                      obtain ⟨y0, y1, -, -⟩ := CX.out wg HG0.out
                      rw [HPP.out] at HIU
                      clear hca hra g0 g1 g2 g3 g4 hia hv hil y0
                      go_wp2_with fail
                      refine HIU.out.mono ?_
                      rintro e wy ⟨vy, rfl, howny, hby⟩
                      obtain ⟨Ay, cy, rfl⟩ := own_form howny
                      have HOY := Lib.hid howny
                      have HBY := Lib.hid (HG1.out.trans (hby.mono HG1.out.size))
                      clear howny hby f0 f1 f2 f3 f4 y1
                      go_wp2_with fail
                      go_meet
                      exact ⟨by rw [HPP.out]; exact HOY.out.mono HG1.out.size, HBY.out⟩
                  case rest =>
                    obtain ⟨hown, hbx⟩ := hcut
                    rename World => wv
                    obtain ⟨Av, cv, rfl⟩ := own_form hown
                    have HOV := Lib.hid hown
                    have HV1 := Lib.hid hbx
                    have HVW : Hid (Below w.heap.size w wv) := Lib.hid (HJW.out.trans (hbx.mono HJW.out.size))
                    have HV0 : Hid (Below W1.heap.size W1 wv) := Lib.hid (HJ1.out.trans (hbx.mono HJ1.out.size))
                    clear hown hbx
                    go_upto_if 117 with fail
                    go_cut [13] (fun v wx => wx.ownsRow wj.heap.size 60 4 v (Sg.wantV (Sg.useL VA pp) (Sg.useL VB pp)).length ((Sg.wantV (Sg.useL VA pp) (Sg.useL VB pp)).flatMap encValue) ∧ Below wj.heap.size wj wx)
                    case first =>
                      rcases HFB.out with ⟨-, hq, hv⟩ | ⟨ib, tb, hib, hq, hv⟩
                      · injection hq with hq1 hq2
                        subst hq2
                        have HE : Hid (Sg.wantV (Sg.useL VA pp) (Sg.useL VB pp) = Sg.useL VA pp) := Lib.hid (by rw [hv]; rfl)
                        clear hq1 hv
                        go_wp2_with fail
                        go_meet
                        exact ⟨by rw [HE.out]; exact HOV.out, HV1.out⟩
                      · injection hq with hq1 hq2
                        subst hq2
                        subst hq1
                        have hil := (List.getElem?_eq_some_iff.1 hib).1
                        obtain ⟨bb, obf, rfl, hbb, hcb⟩ := HGB.out.five (by omega)
                        obtain ⟨ub, hrb, g0, g1, g2, g3, g4⟩ := hcb ib tb hib
                        have f0 := (HVW.out.cell (p := ⟨bb, obf + ib * 5, none⟩) hbb).trans g0
                        have f1 := (HVW.out.cell (p := ⟨bb, obf + ib * 5 + 1, none⟩) hbb).trans g1
                        have f2 := (HVW.out.cell (p := ⟨bb, obf + ib * 5 + 2, none⟩) hbb).trans g2
                        have f3 := (HVW.out.cell (p := ⟨bb, obf + ib * 5 + 3, none⟩) hbb).trans g3
                        have f4 := (HVW.out.cell (p := ⟨bb, obf + ib * 5 + 4, none⟩) hbb).trans g4
                        obtain ⟨Ab, cbb, rfl, -, -⟩ := rds_form hrb.rds
                        have HUS : Hid (Sg.useV tb pp = Sg.useL VB pp) := Lib.hid (by rw [hv]; rfl)
                        have HIU := Lib.hid (r1InUse_any tb _ pp wv ((hrb.rds.below HVW.out).more HVW.out.size) (by have := HVB.out; rw [hv] at this; omega))
                        rw [HUS.out] at HIU
                        have hi0 : (0 : Int) ≤ (ib : Int) := by omega
                        have hi1 : (ib : Int) < (b.signs.length : Int) := by omega
                        obtain ⟨-, -, -, y1⟩ := CX.out wv HV0.out
                        obtain ⟨LL, hLL⟩ : ∃ L, L = Sg.useL VB pp := ⟨_, rfl⟩
                        have hlll : LL.length ≤ 12 := by rw [hLL]; exact Nat.le_trans (Sg.use_len VB pp) HVB.out
                        have hval : (Sg.useL VA pp).length ≤ 12 := Nat.le_trans (Sg.use_len VA pp) HVA.out
                        have HLL := Lib.hid hLL
                        rw [← hLL] at HIU
                        rw [HPP.out] at HIU
                        clear hcb hrb g0 g1 g2 g3 g4 hib hv hil hLL
                        go_wp2_with fail
                        refine HIU.out.mono ?_
                        rintro e wl ⟨vl, rfl, hownl, hbl⟩
                        obtain ⟨Al, cl, rfl⟩ := own_form hownl
                        have HOL := Lib.hid (hownl.mono (show wj.heap.size ≤ wv.heap.size from HV1.out.size))
                        have HL1 := Lib.hid (HV1.out.trans (hbl.mono HV1.out.size))
                        have HOV1 := Lib.hid (keep_own HOV.out hbl)
                        have HAP : Hid (Apart (.slice Av (Sg.useL VA pp).length cv) (.slice Al LL.length cl)) := Lib.hid fun g hg e => by
                          have h1 := (HOV.out.lt g hg).2
                          have h2 := (hownl.lt g e).1
                          omega
                        have HRL := Lib.hid (rdx_of_own len_value hownl)
                        clear hownl hbl f0 f1 f2 f3 f4 y1
                        go_wp2_with fail
                        go_loopg [13, 19] LL.length (fun g wv' i wr => ∃ (k : Nat), k ≤ LL.length ∧ g = LL.length - k ∧ i = .int .i64 (k : Nat) ∧ wr.ownsRow wj.heap.size 60 4 wv' (Sg.wantV (Sg.useL VA pp) (LL.take k)).length ((Sg.wantV (Sg.useL VA pp) (LL.take k)).flatMap encValue) ∧ wr.ownsRow wj.heap.size 60 4 (.slice Al LL.length cl) LL.length (LL.flatMap encValue) ∧ Apart wv' (.slice Al LL.length cl) ∧ Below wj.heap.size wj wr)
                        case atStart => exact ⟨0, Nat.zero_le _, rfl, rfl, by rw [List.take_zero]; exact HOV1.out, HOL.out, HAP.out, HL1.out⟩
                        case round =>
                          obtain ⟨k, hk, rfl, rfl, hownw, hownl, hap, hbr⟩ := hrel
                          rename World => W0
                          obtain ⟨X, hX⟩ : ∃ X, X = Sg.wantV (Sg.useL VA pp) (LL.take k) := ⟨_, rfl⟩
                          rw [← hX] at hownw
                          obtain ⟨AW, cW, rfl⟩ := own_form hownw
                          have hXl : X.length ≤ 24 := by
                            rw [hX]
                            have h1 := Sg.want_len (Sg.useL VA pp) (LL.take k)
                            have h2 := List.length_take_le k LL
                            omega
                          have HXE := Lib.hid hX
                          have HWO := Lib.hid hownw
                          have HLO := Lib.hid hownl
                          have HAR := Lib.hid hap
                          have HBR := Lib.hid hbr
                          clear hX hownw hownl hap hbr
                          by_cases hkl : k < LL.length
                          · obtain ⟨x, hx⟩ : ∃ x, LL[k]? = some x := ⟨_, List.getElem?_eq_getElem hkl⟩
                            have hrl := rds_of_own len_value HLO.out
                            obtain ⟨bl, ol, rfl, hbl2, hcl⟩ := (show RdX W0 (· < W0.heap.size) 4 encValue (.slice Al LL.length cl) LL from hrl).four (by omega)
                            obtain ⟨g0, g1, g2, g3⟩ := hcl k x hx
                            have CXV : Hid (∀ W, Below W0.heap.size W0 W → W.cell? ⟨bl, ol + k * 4, none⟩ = some (.int .i64 x.kind) ∧ W.cell? ⟨bl, ol + k * 4 + 1, none⟩ = some (.string x.text) ∧ W.cell? ⟨bl, ol + k * 4 + 2, none⟩ = some (.int .i64 x.lo) ∧ W.cell? ⟨bl, ol + k * 4 + 3, none⟩ = some (.int .i64 x.hi)) := Lib.hid fun W hW =>
                              ⟨(hW.cell (p := ⟨bl, ol + k * 4, none⟩) hbl2).trans g0, (hW.cell (p := ⟨bl, ol + k * 4 + 1, none⟩) hbl2).trans g1, (hW.cell (p := ⟨bl, ol + k * 4 + 2, none⟩) hbl2).trans g2, (hW.cell (p := ⟨bl, ol + k * 4 + 3, none⟩) hbl2).trans g3⟩
                            obtain ⟨q, hq⟩ : ∃ q, q = X.any (Sg.sameN x) := ⟨_, rfl⟩
                            have HFN : Hid (∀ W, Below W0.heap.size W0 W → Calls Tryz.prog 50 #[.slice AW X.length cW, .agg #[.int .i64 x.kind, .string x.text, .int .i64 x.lo, .int .i64 x.hi]] W (RetFind (Sg.findN X x) W)) := Lib.hid fun W hW => l1find_any _ X x W (rds_of_own len_value (keep_own HWO.out hW)) (by omega)
                            have HAK : Hid (∀ W, Below W0.heap.size W0 W → ∀ y, RdS W W.heap.size 4 encValue y (Sg.findN X x) → Calls Tryz.prog 47 #[.slice (some ⟨bl, ol + k * 4, none⟩) 1 (cl - k), y] W (RetBB q W)) := Lib.hid fun W hW y hy => by
                              have h1 := alike_any _ y [x] _ W (((rds_one hrl hx).below hW).more hW.size) hy
                              rwa [Sg.alike_find, ← hq] at h1
                            have hclk : LL.length ≤ cl := by
                              obtain ⟨A', c', e, h1, -⟩ := hrl
                              cases e
                              exact h1
                            have hq1 : (k : Int) + 1 ≤ (cl : Int) := by omega
                            have hq0 : (0 : Int) ≤ (k : Int) + 1 := by omega
                            have hck : ¬ cl = k := by omega
                            have hkI : (0 : Int) ≤ (k : Int) := by omega
                            have hkJ : (k : Int) < (LL.length : Int) := by omega
                            have HXX := Lib.hid hx
                            have HQ := Lib.hid hq
                            clear hx hrl hcl g0 g1 g2 g3 hq hclk
                            go_upto_region 26 with fail
                            refine wp_region_inv2T (fun T0 => LmjI T0 W0 bl ol LL.length cl k AW X.length cW x X q) (by kernel_rfl) (by kernel_rfl) ?g0e ?gstepe ?gende
                            case g0e =>
                              have hno : ∀ j, ¬ dn (Array.replicate 13 false) j := by
                                intro j; unfold dn; by_cases hj : j < 13 <;> simp [Array.getD, hj]
                              have na : ∀ {j : Nat} {Z : Prop}, dn (Array.replicate 13 false) j → Z := fun hj => absurd hj (hno _)
                              exact ⟨_, rfl, { bel := (Below.refl _ _).drew, siz := rfl, kp := fun _ _ => rfl, k18 := rfl, k19 := rfl, k13 := rfl, p0 := na, p1 := na, p2 := na, p3 := na, p4 := na, p5 := na, p6 := na, p7 := na, p8 := na, p9 := na, p10 := fun hj => absurd hj (hno _), p11 := na, p12 := na }⟩
                            case gstepe =>
                              intro T0 d a wc i hd hI hi
                              obtain ⟨hlt, hnd, hpre⟩ := mem_ready hi
                              have hd' : d.size = 13 := hd
                              have hin : i < 13 := hlt
                              clear hi hd hlt
                              obtain ⟨t, rfl, h⟩ := hI
                              have hcs : i = 0 ∨ i = 1 ∨ i = 2 ∨ i = 3 ∨ i = 4 ∨ i = 5 ∨ i = 6 ∨ i = 7 ∨ i = 8 ∨ i = 9 ∨ i = 10 ∨ i = 11 ∨ i = 12 := by omega
                              rcases hcs with rfl | rfl | rfl | rfl | rfl | rfl | rfl | rfl | rfl | rfl | rfl | rfl | rfl
                              · have hi : 0 < d.size := by omega
                                have q18 := h.k18
                                go_light
                                refine wpOp_plain rfl rfl ?_
                                go_simp
                                exact ⟨_, rfl, { bel := h.bel, siz := (by simpa using h.siz), kp := rk h.kp, k18 := rs h.k18, k19 := rs h.k19, k13 := rs h.k13, p0 := fun _ => set_same (by have := h.siz; omega), p1 := rp hi h.p1, p2 := rp hi h.p2, p3 := rp hi h.p3, p4 := rp hi h.p4, p5 := rp hi h.p5, p6 := rp hi h.p6, p7 := rp hi h.p7, p8 := rp hi h.p8, p9 := rp hi h.p9, p10 := rc hi h.p10 (fun v h2 => rds_keepV (Below.refl _ _) h2), p11 := rp hi h.p11, p12 := rp hi h.p12 }⟩
                              · have hi : 1 < d.size := by omega
                                have q19 := h.k19
                                go_light
                                refine wpOp_plain rfl rfl ?_
                                go_simp
                                exact ⟨_, rfl, { bel := h.bel, siz := (by simpa using h.siz), kp := rk h.kp, k18 := rs h.k18, k19 := rs h.k19, k13 := rs h.k13, p0 := rp hi h.p0, p1 := fun _ => set_same (by have := h.siz; omega), p2 := rp hi h.p2, p3 := rp hi h.p3, p4 := rp hi h.p4, p5 := rp hi h.p5, p6 := rp hi h.p6, p7 := rp hi h.p7, p8 := rp hi h.p8, p9 := rp hi h.p9, p10 := rc hi h.p10 (fun v h2 => rds_keepV (Below.refl _ _) h2), p11 := rp hi h.p11, p12 := rp hi h.p12 }⟩
                              · have hi : 2 < d.size := by omega
                                have q19 := h.k19
                                go_light
                                refine wpOp_plain rfl rfl ?_
                                go_simp
                                exact ⟨_, rfl, { bel := h.bel, siz := (by simpa using h.siz), kp := rk h.kp, k18 := rs h.k18, k19 := rs h.k19, k13 := rs h.k13, p0 := rp hi h.p0, p1 := rp hi h.p1, p2 := fun _ => set_same (by have := h.siz; omega), p3 := rp hi h.p3, p4 := rp hi h.p4, p5 := rp hi h.p5, p6 := rp hi h.p6, p7 := rp hi h.p7, p8 := rp hi h.p8, p9 := rp hi h.p9, p10 := rc hi h.p10 (fun v h2 => rds_keepV (Below.refl _ _) h2), p11 := rp hi h.p11, p12 := rp hi h.p12 }⟩
                              · have hi : 3 < d.size := by omega
                                have e2 := h.p2 (hpre _ rfl ⟨2, .data⟩ (by simp) rfl)
                                go_light
                                refine wpOp_plain rfl rfl ?_
                                go_simp
                                try simp (disch := omega) only [IntWalk.i64_in]
                                exact ⟨_, rfl, { bel := h.bel, siz := (by simpa using h.siz), kp := rk h.kp, k18 := rs h.k18, k19 := rs h.k19, k13 := rs h.k13, p0 := rp hi h.p0, p1 := rp hi h.p1, p2 := rp hi h.p2, p3 := fun _ => set_same (by have := h.siz; omega), p4 := rp hi h.p4, p5 := rp hi h.p5, p6 := rp hi h.p6, p7 := rp hi h.p7, p8 := rp hi h.p8, p9 := rp hi h.p9, p10 := rc hi h.p10 (fun v h2 => rds_keepV (Below.refl _ _) h2), p11 := rp hi h.p11, p12 := rp hi h.p12 }⟩
                              · have hi : 4 < d.size := by omega
                                have e0 := h.p0 (hpre _ rfl ⟨0, .data⟩ (by simp) rfl)
                                have e1 := h.p1 (hpre _ rfl ⟨1, .data⟩ (by simp) rfl)
                                have e3 := h.p3 (hpre _ rfl ⟨3, .data⟩ (by simp) rfl)
                                go_light
                                refine wpOp_plain rfl rfl ?_
                                go_simp
                                try simp
                                exact ⟨_, rfl, { bel := h.bel, siz := (by simpa using h.siz), kp := rk h.kp, k18 := rs h.k18, k19 := rs h.k19, k13 := rs h.k13, p0 := rp hi h.p0, p1 := rp hi h.p1, p2 := rp hi h.p2, p3 := rp hi h.p3, p4 := fun _ => set_same (by have := h.siz; omega), p5 := rp hi h.p5, p6 := rp hi h.p6, p7 := rp hi h.p7, p8 := rp hi h.p8, p9 := rp hi h.p9, p10 := rc hi h.p10 (fun v h2 => rds_keepV (Below.refl _ _) h2), p11 := rp hi h.p11, p12 := rp hi h.p12 }⟩
                              · have hi : 5 < d.size := by omega
                                have q13 := h.k13
                                go_light
                                refine wpOp_plain rfl rfl ?_
                                go_simp
                                exact ⟨_, rfl, { bel := h.bel, siz := (by simpa using h.siz), kp := rk h.kp, k18 := rs h.k18, k19 := rs h.k19, k13 := rs h.k13, p0 := rp hi h.p0, p1 := rp hi h.p1, p2 := rp hi h.p2, p3 := rp hi h.p3, p4 := rp hi h.p4, p5 := fun _ => set_same (by have := h.siz; omega), p6 := rp hi h.p6, p7 := rp hi h.p7, p8 := rp hi h.p8, p9 := rp hi h.p9, p10 := rc hi h.p10 (fun v h2 => rds_keepV (Below.refl _ _) h2), p11 := rp hi h.p11, p12 := rp hi h.p12 }⟩
                              · have hi : 6 < d.size := by omega
                                have q18 := h.k18
                                go_light
                                refine wpOp_plain rfl rfl ?_
                                go_simp
                                exact ⟨_, rfl, { bel := h.bel, siz := (by simpa using h.siz), kp := rk h.kp, k18 := rs h.k18, k19 := rs h.k19, k13 := rs h.k13, p0 := rp hi h.p0, p1 := rp hi h.p1, p2 := rp hi h.p2, p3 := rp hi h.p3, p4 := rp hi h.p4, p5 := rp hi h.p5, p6 := fun _ => set_same (by have := h.siz; omega), p7 := rp hi h.p7, p8 := rp hi h.p8, p9 := rp hi h.p9, p10 := rc hi h.p10 (fun v h2 => rds_keepV (Below.refl _ _) h2), p11 := rp hi h.p11, p12 := rp hi h.p12 }⟩
                              · have hi : 7 < d.size := by omega
                                have q19 := h.k19
                                go_light
                                refine wpOp_plain rfl rfl ?_
                                go_simp
                                exact ⟨_, rfl, { bel := h.bel, siz := (by simpa using h.siz), kp := rk h.kp, k18 := rs h.k18, k19 := rs h.k19, k13 := rs h.k13, p0 := rp hi h.p0, p1 := rp hi h.p1, p2 := rp hi h.p2, p3 := rp hi h.p3, p4 := rp hi h.p4, p5 := rp hi h.p5, p6 := rp hi h.p6, p7 := fun _ => set_same (by have := h.siz; omega), p8 := rp hi h.p8, p9 := rp hi h.p9, p10 := rc hi h.p10 (fun v h2 => rds_keepV (Below.refl _ _) h2), p11 := rp hi h.p11, p12 := rp hi h.p12 }⟩
                              · have hi : 8 < d.size := by omega
                                have e6 := h.p6 (hpre _ rfl ⟨6, .data⟩ (by simp) rfl)
                                have e7 := h.p7 (hpre _ rfl ⟨7, .data⟩ (by simp) rfl)
                                go_light
                                refine wpOp_plain rfl rfl ?_
                                go_simp
                                exact ⟨_, rfl, { bel := h.bel, siz := (by simpa using h.siz), kp := rk h.kp, k18 := rs h.k18, k19 := rs h.k19, k13 := rs h.k13, p0 := rp hi h.p0, p1 := rp hi h.p1, p2 := rp hi h.p2, p3 := rp hi h.p3, p4 := rp hi h.p4, p5 := rp hi h.p5, p6 := rp hi h.p6, p7 := rp hi h.p7, p8 := fun _ => set_same (by have := h.siz; omega), p9 := rp hi h.p9, p10 := rc hi h.p10 (fun v h2 => rds_keepV (Below.refl _ _) h2), p11 := rp hi h.p11, p12 := rp hi h.p12 }⟩
                              · have hi : 9 < d.size := by omega
                                have e8 := h.p8 (hpre _ rfl ⟨8, .data⟩ (by simp) rfl)
                                obtain ⟨m0, m1, m2, m3⟩ := CXV.out wc h.bel
                                go_light
                                refine wpOp_plain rfl rfl ?_
                                go_simp
                                exact ⟨_, rfl, { bel := h.bel, siz := (by simpa using h.siz), kp := rk h.kp, k18 := rs h.k18, k19 := rs h.k19, k13 := rs h.k13, p0 := rp hi h.p0, p1 := rp hi h.p1, p2 := rp hi h.p2, p3 := rp hi h.p3, p4 := rp hi h.p4, p5 := rp hi h.p5, p6 := rp hi h.p6, p7 := rp hi h.p7, p8 := rp hi h.p8, p9 := fun _ => set_same (by have := h.siz; omega), p10 := rc hi h.p10 (fun v h2 => rds_keepV (Below.refl _ _) h2), p11 := rp hi h.p11, p12 := rp hi h.p12 }⟩
                              · have hi : 10 < d.size := by omega
                                have e5 := h.p5 (hpre _ rfl ⟨5, .data⟩ (by simp) rfl)
                                have e9 := h.p9 (hpre _ rfl ⟨9, .data⟩ (by simp) rfl)
                                go_light
                                refine wpOp_plain rfl rfl ?_
                                go_simp
                                refine (HFN.out wc h.bel).mono ?_
                                rintro e1 w1 ⟨y1, rfl, hq1, hb⟩
                                exact ⟨_, rfl, { bel := h.bel.trans (hb.mono h.bel.size), siz := (by simpa using h.siz), kp := rk h.kp, k18 := rs h.k18, k19 := rs h.k19, k13 := rs h.k13, p0 := rp hi h.p0, p1 := rp hi h.p1, p2 := rp hi h.p2, p3 := rp hi h.p3, p4 := rp hi h.p4, p5 := rp hi h.p5, p6 := rp hi h.p6, p7 := rp hi h.p7, p8 := rp hi h.p8, p9 := rp hi h.p9, p10 := fun _ => ⟨y1, set_same (by have := h.siz; omega), hq1⟩, p11 := rp hi h.p11, p12 := rp hi h.p12 }⟩
                              · have hi : 11 < d.size := by omega
                                have e4 := h.p4 (hpre _ rfl ⟨4, .data⟩ (by simp) rfl)
                                obtain ⟨v10, e10, r10⟩ := h.p10 (hpre _ rfl ⟨10, .data⟩ (by simp) rfl)
                                go_light
                                refine wpOp_plain rfl rfl ?_
                                go_simp
                                refine (HAK.out wc h.bel v10 r10).mono ?_
                                rintro e1 w1 ⟨rfl, hb⟩
                                exact ⟨_, rfl, { bel := h.bel.trans (hb.mono h.bel.size), siz := (by simpa using h.siz), kp := rk h.kp, k18 := rs h.k18, k19 := rs h.k19, k13 := rs h.k13, p0 := rp hi h.p0, p1 := rp hi h.p1, p2 := rp hi h.p2, p3 := rp hi h.p3, p4 := rp hi h.p4, p5 := rp hi h.p5, p6 := rp hi h.p6, p7 := rp hi h.p7, p8 := rp hi h.p8, p9 := rp hi h.p9, p10 := rc hi h.p10 (fun v h2 => rds_keepV hb h2), p11 := fun _ => set_same (by have := h.siz; omega), p12 := rp hi h.p12 }⟩
                              · have hi : 12 < d.size := by omega
                                have e11 := h.p11 (hpre _ rfl ⟨11, .data⟩ (by simp) rfl)
                                go_light
                                refine wpOp_plain rfl rfl ?_
                                go_simp
                                exact ⟨_, rfl, { bel := h.bel, siz := (by simpa using h.siz), kp := rk h.kp, k18 := rs h.k18, k19 := rs h.k19, k13 := rs h.k13, p0 := rp hi h.p0, p1 := rp hi h.p1, p2 := rp hi h.p2, p3 := rp hi h.p3, p4 := rp hi h.p4, p5 := rp hi h.p5, p6 := rp hi h.p6, p7 := rp hi h.p7, p8 := rp hi h.p8, p9 := rp hi h.p9, p10 := rc hi h.p10 (fun v h2 => rds_keepV (Below.refl _ _) h2), p11 := rp hi h.p11, p12 := fun _ => set_same (by have := h.siz; omega) }⟩
                            case gende =>
                              intro d a wc hd hI hall
                              obtain ⟨t, rfl, h⟩ := hI
                              have hdn : ∀ j, j < 13 → dn d j := fun j hj => dn_all hd hall hj
                              have hd : ∀ j, (_ : j < 13 := by decide) → dn d j := fun j hj => hdn j hj
                              obtain ⟨v10, e10, r10⟩ := h.p10 (hd 10)
                              have hfe := frame_eq [(131, _), (132, _), (133, _), (134, _), (135, _), (136, _), (137, _), (138, _), (139, _), (140, _), (141, v10), (142, _), (143, _)] (h.siz.trans rfl) h.kp rfl ⟨h.p0 (hd 0), h.p1 (hd 1), h.p2 (hd 2), h.p3 (hd 3), h.p4 (hd 4), h.p5 (hd 5), h.p6 (hd 6), h.p7 (hd 7), h.p8 (hd 8), h.p9 (hd 9), e10, h.p11 (hd 11), h.p12 (hd 12), trivial⟩
                              simp only [List.foldl_cons, List.foldl_nil, List.setIfInBounds_toArray, List.set_cons_succ, List.set_cons_zero] at hfe
                              have hbc := h.bel
                              subst hfe
                              clear h hdn hd hall
                              have HC0 := Lib.hid hbc
                              obtain ⟨m0, m1, m2, m3⟩ := CXV.out wc hbc
                              have HBC : Hid (Below wj.heap.size wj wc) := Lib.hid (HBR.out.trans (hbc.mono HBR.out.size))
                              have HWC := Lib.hid (keep_own HWO.out hbc)
                              have HLC := Lib.hid (keep_own HLO.out hbc)
                              clear hbc e10 r10
                              cases q
                              · have HNX : Hid (Sg.wantV (Sg.useL VA pp) (LL.take (k + 1)) = X ++ [x]) := Lib.hid (by rw [Sg.want_next HXX.out, ← HXE.out]; unfold Sg.wantK; rw [← HQ.out]; rfl)
                                obtain ⟨i1, hi1, hz1, hs1', hb1'⟩ := info_parts info_Value
                                have HOS : Hid ((wc.alloc (.cells #[.int .i64 x.kind, .string x.text, .int .i64 x.lo, .int .i64 x.hi] 60)).ownsRow wj.heap.size 60 4 (.slice AW X.length cW) X.length (X.flatMap encValue)) := Lib.hid (HWC.out.alloc _)
                                have HLS : Hid ((wc.alloc (.cells #[.int .i64 x.kind, .string x.text, .int .i64 x.lo, .int .i64 x.hi] 60)).ownsRow wj.heap.size 60 4 (.slice (some ⟨bl, ol, none⟩) LL.length cl) LL.length (LL.flatMap encValue)) := Lib.hid (HLC.out.alloc _)
                                have HRD1 := Lib.hid (rd_one_value wc x)
                                have hk1 : X.length + 1 ≤ maxLen := by simp only [maxLen]; omega
                                have hk2 : (X.length + 1) * 40 ≤ 140737488355328 := by omega
                                have hbase : wj.heap.size ≤ (wc.alloc (.cells #[.int .i64 x.kind, .string x.text, .int .i64 x.lo, .int .i64 x.hi] 60)).heap.size := by have := HBC.out.size; simp; omega
                                go_wp2_with (at_builtin; go_must (refine wpList_append_rd (enc := encValue) rfl (.tmp 144) (.tmp 149) _ rfl wj.heap.size 60 i1 _ 4 40 len_value one_value Tryz.underlying47 hi1 hz1 hs1' hb1' rfl (by decide) (.slice AW X.length cW) X.length (X.flatMap encValue) rfl HOS.out _ (.slice (some ⟨wc.heap.size, 0, none⟩) 1 1) [x] rfl HRD1.out hk1 hk2 hbase ?_))
                                intro v8 w8 hown8 hg8 hat8
                                have HB8 : Hid (Below wj.heap.size wj w8) := Lib.hid ((HBC.out.alloc HBC.out.size _).grown hg8 hbase (fun y hy => (HOS.out.lt y hy).1))
                                have HO8 : Hid (w8.ownsRow wj.heap.size 60 4 v8 (X ++ [x]).length ((X ++ [x]).flatMap encValue)) := Lib.hid (by
                                  rw [List.length_append, List.flatMap_append]
                                  exact hown8)
                                have HL8 : Hid (w8.ownsRow wj.heap.size 60 4 (.slice (some ⟨bl, ol, none⟩) LL.length cl) LL.length (LL.flatMap encValue)) := Lib.hid (HLS.out.kept hg8 (by
                                  right
                                  intro e
                                  cases hw : (Value.slice AW X.length cW).ownBlock with
                                  | none => rw [hw] at e; simp [Value.ownBlock] at e
                                  | some y => exact HAR.out y hw (e.trans hw)))
                                have HA8 : Hid (Apart v8 (.slice (some ⟨bl, ol, none⟩) LL.length cl)) := Lib.hid fun y hy e => by
                                  rcases hat8 with h | h
                                  · exact HAR.out y (h.symm.trans hy) e
                                  · rw [h] at hy
                                    have h3 := (HLC.out.lt bl (by rfl)).2
                                    have e1 : bl = y := by simpa [Value.ownBlock] using e
                                    have e2 := Option.some.inj hy
                                    clear hy h
                                    try simp at e2
                                    omega
                                clear hown8 hg8 hat8 m0 m1 m2 m3
                                go_wp2_with fail
                                go_roundg (LL.length - (k + 1))
                                case measure => omega
                                case rel => exact ⟨k + 1, by omega, rfl, by go_num, by rw [HNX.out]; exact HO8.out, HL8.out, HA8.out, HB8.out⟩
                              · have HNX : Hid (Sg.wantV (Sg.useL VA pp) (LL.take (k + 1)) = X) := Lib.hid (by rw [Sg.want_next HXX.out, ← HXE.out]; unfold Sg.wantK; rw [← HQ.out]; rfl)
                                clear m0 m1 m2 m3
                                go_wp2_with fail
                                go_roundg (LL.length - (k + 1))
                                case measure => omega
                                case rel => exact ⟨k + 1, by omega, rfl, by go_num, by rw [HNX.out]; exact HWC.out, HLC.out, HAR.out, HBC.out⟩
                          · have hkJ : ¬ (k : Int) < (LL.length : Int) := by omega
                            have HEE : Hid (X = Sg.wantV (Sg.useL VA pp) (Sg.useL VB pp)) := Lib.hid (by rw [HXE.out, ← HLL.out, List.take_of_length_le (by omega)])
                            go_wp2_with fail
                            go_meet
                            exact ⟨by rw [← HEE.out]; exact HWO.out, HBR.out⟩
                    case rest =>
                      obtain ⟨hown, hbx⟩ := hcut
                      rename World => wt
                      obtain ⟨WN, hWN⟩ : ∃ L, L = Sg.wantV (Sg.useL VA pp) (Sg.useL VB pp) := ⟨_, rfl⟩
                      rw [← hWN] at hown HLAW
                      obtain ⟨At, ct, rfl⟩ := own_form hown
                      have HOT := Lib.hid hown
                      have HT1 := Lib.hid hbx
                      have HTM : Hid (Below wm.heap.size wm wt) := Lib.hid (HBJ.out.trans (hbx.mono HBJ.out.size))
                      have HIU := Lib.hid (r1InUse_any s _ pp wt ((HRS.out.rds.below HTM.out).more HTM.out.size) HSVL.out)
                      have HUV : Hid (Sg.useV s pp = Sg.useL s.values pp) := Lib.hid rfl
                      rw [HUV.out, HPP.out] at HIU
                      rw [HPP.out] at HLAW
                      obtain ⟨m3, m4, m5, m6, m7⟩ := CFS.out wt hbx
                      have m2 := CFB.out wt hbx
                      clear hown hbx hWN
                      have hor : qa2 = 0 ∨ (qa2 = 3 ∧ qb2 = 0) := by
                        rcases HFA.out with ⟨h1, h2, -⟩ | ⟨i, t, -, h2, -⟩
                        · injection h2 with _ h2
                          refine .inr ⟨h2, ?_⟩
                          rcases HFB.out with ⟨k1, k2, -⟩ | ⟨i, t, -, k2, -⟩
                          · rcases HHAS.out with h3 | h3
                            · rw [h1] at h3; cases h3
                            · rw [k1] at h3; cases h3
                          · injection k2
                        · injection h2 with _ h2
                          exact .inl h2
                      clear HFA HFB
                      rcases hor with rfl | ⟨rfl, rfl⟩
                      · go_wp2_with fail
                        refine HIU.out.mono ?_
                        rintro e wu ⟨vu, rfl, hownu, hbu⟩
                        obtain ⟨Au, cu, rfl⟩ := own_form hownu
                        have HA1 := Lib.hid (alike_any _ _ _ _ wu (rds_of_own len_value (keep_own HOT.out hbu)) (rds_of_own len_value hownu))
                        rw [HLAW.out] at HA1
                        have HTU := Lib.hid (HTM.out.trans (hbu.mono HTM.out.size))
                        clear hownu hbu m2 m3 m4 m5 m6 m7
                        go_wp2_with fail
                        refine HA1.out.mono ?_
                        rintro e wq ⟨rfl, hbq⟩
                        have HTQ := Lib.hid (HTU.out.trans (hbq.mono HTU.out.size))
                        clear hbq
                        go_wp2_with fail
                        go_roundg (ML.signs.length - (j + 1))
                        case measure => omega
                        case rel => exact ⟨j + 1, by omega, rfl, by go_num, HTQ.out⟩
                      · go_wp2_with fail
                        refine HIU.out.mono ?_
                        rintro e wu ⟨vu, rfl, hownu, hbu⟩
                        obtain ⟨Au, cu, rfl⟩ := own_form hownu
                        have HA1 := Lib.hid (alike_any _ _ _ _ wu (rds_of_own len_value (keep_own HOT.out hbu)) (rds_of_own len_value hownu))
                        rw [HLAW.out] at HA1
                        have HTU := Lib.hid (HTM.out.trans (hbu.mono HTM.out.size))
                        clear hownu hbu m2 m3 m4 m5 m6 m7
                        go_wp2_with fail
                        refine HA1.out.mono ?_
                        rintro e wq ⟨rfl, hbq⟩
                        have HTQ := Lib.hid (HTU.out.trans (hbq.mono HTU.out.size))
                        clear hbq
                        go_wp2_with fail
                        go_roundg (ML.signs.length - (j + 1))
                        case measure => omega
                        case rel => exact ⟨j + 1, by omega, rfl, by go_num, HTQ.out⟩
            · have hjJ : ¬ (j : Int) < (ML.signs.length : Int) := by omega
              go_wp2_with fail
              go_roundg (9 - (kp + 1))
              case measure => omega
              case rel => exact ⟨kp + 1, by omega, rfl, by go_num, HBJ.out⟩
        · have hpI : ¬ (kp : Int) + 1 ≤ 9 := by omega
          have HBE : Hid (Below w.heap.size w wp) := Lib.hid (HBm.out.trans (HBP.out.mono HBm.out.size))
          go_wp2_with fail
          refine (HWK.out _ HBE.out).mono ?_
          rintro e wz ⟨rfl, hbz⟩
          have HBZ := Lib.hid (HBE.out.trans (hbz.mono HBE.out.size))
          clear hbz
          go_wp2_with fail
          go_ret
          exact ⟨rfl, HBZ.out⟩
      
end Go.Proofs.YtkmimjngmfdpmaaGreatDoor
