/- code's line code: items are written. Made by gen_cwrite.py. -/
import Derived.Test.YtenmkbpdkfhbjaaGreatRcCSide
import Derived.Test.YtenmkbpdkfhbjaaGreatRcRDec
namespace Go.Proofs.YtenmkbpdkfhbjaaGreat
open Go Go.RowKit

def okW (b : Nat) (W : World) (q : Nat) : Prop := q ≠ b ∧ ∃ cur fr, W.heap[q]? = some (.cells cur 114 fr)
theorem okW.side {b q : Nat} {W W' : World} (h : okW b W q) (hs : Side b W W') : okW b W' q ∧ W'.heap[q]? = W.heap[q]? := by
 obtain ⟨hn, cur, fr, h0⟩ := h
 have := hs.2 q cur 114 fr hn (by decide) h0
 exact ⟨⟨hn, cur, fr, this⟩, this.trans h0.symm⟩
theorem its_side {d b : Nat} {W W' : World} {v : Value} {xs : List Cd.Item} (h : RdH (KGd d) 114 W (okW b W) v xs) (hs : Side b W W') : RdH (KGd d) 114 W' (okW b W') v xs := h.keep fun _ hq => hq.side hs
theorem its_typed {ok : Nat → Prop} {b : Nat} {W : World} (hne : ∀ q, ok q → q ≠ b) : ∀ (d : Nat) (v : Value) (xs : List Cd.Item), RdH (KGd d) 114 W ok v xs → RdH (KGd d) 114 W (okW b W) v xs
 | d, v, xs, ⟨A, c, hv, hl, hc, hh⟩ => ⟨A, c, hv, hl, hc, fun h0 => by
  obtain ⟨b', cur, hA, hb, hcur, hcell⟩ := hh h0
  refine ⟨b', cur, hA, ⟨hne b' hb, cur, _, hcur⟩, hcur, fun i a ha => ?_⟩
  obtain ⟨cs, h1, h2⟩ := hcell i a ha
  cases d with
  | zero => exact h1.elim
  | succ d =>
   obtain ⟨v', e, hk⟩ := h1
   exact ⟨cs, ⟨v', e, its_typed hne d v' _ hk⟩, h2⟩⟩
theorem RdH.one_atG {d : Nat} {w : World} {ok : Nat → Prop} {A : Option Addr} {n c : Nat} {xs : List Cd.Item} (h : RdH (KGd d) 114 w ok (.slice A n c) xs) {i : Nat} {x : Cd.Item} (hi : xs[i]? = some x) :
  ∃ e b cur A' c', d = e + 1 ∧ A = some ⟨b, 0, none⟩ ∧ ok b ∧ w.heap[b]? = some (.cells cur 114 (0, 0)) ∧ RdH (KGd e) 114 w ok (.slice A' x.kids.length c') x.kids ∧
   ∀ (j : Nat) (u : Value), (encN x.node ++ [.string (Cd.bs x.code), .int .i64 x.pos, .slice A' x.kids.length c'])[j]? = some u → cur[i * 11 + j]? = some u := by
 obtain ⟨A0, c0, hv, hl, hc, hh⟩ := h
 cases hv
 have hlt := (List.getElem?_eq_some_iff.1 hi).1
 obtain ⟨b, cur, hA, hb, hcur, hcell⟩ := hh (by omega)
 obtain ⟨cs, h1, h2⟩ := hcell i x hi
 cases d with
 | zero => exact h1.elim
 | succ e =>
  obtain ⟨v', rfl, hk⟩ := h1
  obtain ⟨A', c', rfl⟩ := hk.form
  refine ⟨e, b, cur, A', c', rfl, hA, hb, hcur, hk, fun j u hu => ?_⟩
  have := h2 j u hu
  rwa [kg_size] at this
def RetWr (B b : Nat) (l : List UInt8) (W : World) (e : Ending) (W' : World) : Prop := e = .returned (.tuple #[]) ∧ Lib.IsBuilder 124 5 B b (Lib.byteCells l) W' ∧ Below B W W' ∧ Side b W W'
def LlSays (L : Sg.SList) (vl : Value) (B b d : Nat) : Prop := ∀ (xs : List Cd.Item) (A : Option Addr) (c : Nat) (sep : UInt8) (within : Int) (acc : List UInt8) (W : World),
 Lib.IsBuilder 124 5 B b (Lib.byteCells acc) W → B ≤ W.heap.size → RdSL W B vl L → RdH (KGd d) 114 W (okW b W) (.slice A xs.length c) xs → Cd.OkL L xs → acc.length + (Cd.unL sep (decide (within = 2)) (Cd.nameL L xs)).length ≤ 10000000 →
 Calls Tryz.prog 143 #[.agg #[], .pointer (some ⟨b, 0, none⟩), vl, .slice A xs.length c, .string ⟨#[sep]⟩, .int .i64 within] W (RetWr B b (acc ++ Cd.unL sep (decide (within = 2)) (Cd.nameL L xs)) W)
def LiSays (L : Sg.SList) (vl : Value) (B b d : Nat) : Prop := ∀ (n : Tx.Node) (cd : List UInt8) (p : Nat) (ks : List Cd.Item) (A : Option Addr) (c : Nat) (within : Int) (acc : List UInt8) (W : World),
 Lib.IsBuilder 124 5 B b (Lib.byteCells acc) W → B ≤ W.heap.size → RdSL W B vl L → RdH (KGd d) 114 W (okW b W) (.slice A ks.length c) ks → Cd.OkI L (.mk n cd p ks) → acc.length + (Cd.unI (decide (within = 2)) (Cd.nameI L (.mk n cd p ks))).length ≤ 10000000 →
 Calls Tryz.prog 147 #[.agg #[], .pointer (some ⟨b, 0, none⟩), vl, .agg #[.int .i64 n.kind, .int .i64 n.depth, .int .i64 n.sign, .int .i64 n.turn, .bool n.mirror, .int .i64 n.state, .int .i64 n.lo, .int .i64 n.hi, .string (Cd.bs cd), .int .i64 p, .slice A ks.length c], .int .i64 within] W
  (RetWr B b (acc ++ Cd.unI (decide (within = 2)) (Cd.nameI L (.mk n cd p ks))) W)
theorem box11_cells {W : World} {Z : Nat} {T : TypeId} {c0 c1 c2 c3 c4 c5 c6 c7 c8 c9 c10 : Value} (h : W.heap[Z]? = some (.cells #[c0, c1, c2, c3, c4, c5, c6, c7, c8, c9, c10] T (0, 0))) :
  W.cell? ⟨Z, 0, none⟩ = some c0 ∧ W.cell? ⟨Z, 1, none⟩ = some c1 ∧ W.cell? ⟨Z, 2, none⟩ = some c2 ∧ W.cell? ⟨Z, 3, none⟩ = some c3 ∧ W.cell? ⟨Z, 4, none⟩ = some c4 ∧ W.cell? ⟨Z, 5, none⟩ = some c5 ∧ W.cell? ⟨Z, 6, none⟩ = some c6 ∧ W.cell? ⟨Z, 7, none⟩ = some c7 ∧ W.cell? ⟨Z, 10, none⟩ = some c10 := by
 simp [World.cell?, h]
theorem box2_cells {W : World} {Z : Nat} {T : TypeId} {c0 c1 : Value} (h : W.heap[Z]? = some (.cells #[c0, c1] T (0, 0))) : W.cell? ⟨Z, 0, none⟩ = some c0 ∧ W.cell? ⟨Z, 1, none⟩ = some c1 := by
 simp [World.cell?, h]
theorem isB_lt {B b : Nat} {bs : List Value} {w : World} (h : Lib.IsBuilder 124 5 B b bs w) : b < w.heap.size := by
 rcases h with h | h
 ·exact h.lt
 ·exact h.lt
set_option maxRecDepth 100000 in
set_option maxHeartbeats 16000000 in
theorem li_of (L : Sg.SList) (vl : Value) (B b d : Nat) (hLc : ∀ s ∈ L.signs, s.code.size ≤ 100) (ih : LlSays L vl B b d) : LiSays L vl B b d := by
 intro n cd p ks A c within acc W hb hB hl hk hok hlen
 have HL := Lib.hid hl
 have HB := Lib.hid hB
 have HK := Lib.hid hk
 have HLEN := Lib.hid hlen
 have hbz := isB_lt hb
 have HIB0 := Lib.hid hb
 obtain ⟨⟨us, rfl, hsg⟩, -⟩ := hl
 obtain ⟨As, cs, rfl, -⟩ := id hsg
 have IH := Lib.hid ih
 have HOKK := Lib.hid (Cd.ok_node hok).2
 obtain ⟨⟨hk1, hk7⟩, hn1, hn6⟩ := (Cd.ok_node hok).1
 simp only [Cd.Item.node] at hk1 hk7 hn1 hn6
 have hkk : n.kind = 1 ∨ n.kind = 6 ∨ n.kind = 2 ∨ n.kind = 3 ∨ n.kind = 4 ∨ n.kind = 5 ∨ n.kind = 7 := by omega
 obtain ⟨Z, hZ⟩ : ∃ Z, Z = W.heap.size := ⟨_, rfl⟩
 have HZ := Lib.hid hZ
 rw [← hZ] at hbz
 have HRES : Hid (∀ W', Lib.IsBuilder 124 5 B b (Lib.byteCells (acc ++ Cd.unI (decide (within = 2)) (Cd.nameI L (.mk n cd p ks)))) W' → Below B W W' → Side b W W' → RetWr B b (acc ++ Cd.unI (decide (within = 2)) (Cd.nameI L (.mk n cd p ks))) W (.returned (.tuple #[])) W') := Lib.hid fun W' q1 q2 q3 => ⟨rfl, q1, q2, q3⟩
 clear hsg hb hB hk hok hlen ih hZ hk1 hk7
 rcases hkk with k | k | k | k | k | k | k
 ·-- a sign
  have HU : Hid (Cd.unI (decide (within = 2)) (Cd.nameI L (.mk n cd p ks)) = Cd.leafU true n (Cd.codeAt L n.sign)) := Lib.hid (by
   rw [Cd.nameI, Cd.un_mk, k]
   rw [if_pos rfl])
  have HCALL : Hid (∀ (W1 : World), Below B W W1 → Calls Tryz.prog 150 #[.agg #[.int .i64 L.periods, .slice As L.signs.length cs], .agg #[.int .i64 1, .int .i64 n.depth, .int .i64 n.sign, .int .i64 n.turn, .bool n.mirror, .int .i64 n.state, .int .i64 n.lo, .int .i64 n.hi]] W1 (RetSt (Cd.leafU true n (Cd.codeAt L n.sign)) W1)) := Lib.hid fun W1 q => by
   have := cleaf_glyph L n _ W1 (HL.out.keep (Nat.le_trans HB.out q.size) (q.mono (Nat.le_refl _))) k ⟨(hn1 k).1, (hn1 k).2.1⟩ ⟨(hn1 k).2.2.1, (hn1 k).2.2.2.1⟩ (hn1 k).2.2.2.2 hLc (by have := Cd.leafU_short hLc (n := n) ⟨(hn1 k).2.2.1, (hn1 k).2.2.2.1⟩ false; omega)
   unfold encN encNz at this
   rw [k] at this
   exact this
  obtain ⟨X, hX⟩ : ∃ X, X = Cd.leafU true n (Cd.codeAt L n.sign) := ⟨_, rfl⟩
  rw [← hX] at HU HCALL
  have hlx : acc.length + X.length ≤ 10000000 := by rw [← HU.out]; exact HLEN.out
  clear hX
  rw [k]
  go_enter Tryz.func147, Tryz.ntmps147
  go_wp2_with fail
  simp only [Nat.add_assoc, Nat.reduceAdd]
  refine at_worldF ?_
  intro WL hWL
  obtain ⟨hsz, hbl, -, -, -⟩ := alloc3 _ _ _ _ _ hWL
  have HBL := Lib.hid hbl
  have HS0 := Lib.hid (Side.of (b := b) hbl)
  have HIB := Lib.hid (isB_below HIB0.out hbl)
  clear hWL hbl
  refine (HCALL.out WL (HBL.out.mono HB.out)).mono ?_
  rintro e w1 ⟨rfl, hb1⟩
  have HI1 := Lib.hid (isB_below HIB.out hb1)
  have HBB1 := Lib.hid ((HBL.out.trans (hb1.mono HBL.out.size)).mono HB.out)
  have HS1 := Lib.hid (HS0.out.trans (Side.of (b := b) hb1))
  clear hb1
  go_wp2_with fail
  refine (gWrite_any B b _ (Cd.bs X) w1 HI1.out hlx (Nat.le_trans HB.out HBB1.out.size)).mono ?_
  rintro e w3 ⟨rfl, hi3, hb3, hs3⟩
  have HS3 := Lib.hid (HS1.out.trans hs3)
  have HI3 := Lib.hid hi3
  have HBB3 := Lib.hid (HBB1.out.trans hb3)
  clear hi3 hb3 hs3
  go_wp2_with fail
  go_end0
  refine HRES.out _ ?_ HBB3.out HS3.out
  rw [HU.out]
  exact HI3.out
 ·-- a gap
  have HU : Hid (Cd.unI (decide (within = 2)) (Cd.nameI L (.mk n cd p ks)) = Cd.gapU n) := Lib.hid (by
   rw [Cd.nameI, Cd.un_mk, k]
   rw [if_neg (by decide), if_pos rfl])
  have HCALL : Hid (∀ (W1 : World), Below B W W1 → Calls Tryz.prog 150 #[.agg #[.int .i64 L.periods, .slice As L.signs.length cs], .agg #[.int .i64 6, .int .i64 n.depth, .int .i64 n.sign, .int .i64 n.turn, .bool n.mirror, .int .i64 n.state, .int .i64 n.lo, .int .i64 n.hi]] W1 (RetSt (Cd.gapU n) W1)) := Lib.hid fun W1 q => by
   have := cleaf_gap L.periods (.slice As L.signs.length cs) n W1 k ⟨(hn6 k).1, (hn6 k).2.1⟩ ⟨(hn6 k).2.2.1, (hn6 k).2.2.2⟩
   unfold encN encNz at this
   rw [k] at this
   exact this
  obtain ⟨X, hX⟩ : ∃ X, X = Cd.gapU n := ⟨_, rfl⟩
  rw [← hX] at HU HCALL
  have hlx : acc.length + X.length ≤ 10000000 := by rw [← HU.out]; exact HLEN.out
  clear hX
  rw [k]
  go_enter Tryz.func147, Tryz.ntmps147
  go_wp2_with fail
  simp only [Nat.add_assoc, Nat.reduceAdd]
  refine at_worldF ?_
  intro WL hWL
  obtain ⟨hsz, hbl, -, -, -⟩ := alloc3 _ _ _ _ _ hWL
  have HBL := Lib.hid hbl
  have HS0 := Lib.hid (Side.of (b := b) hbl)
  have HIB := Lib.hid (isB_below HIB0.out hbl)
  clear hWL hbl
  refine (HCALL.out WL (HBL.out.mono HB.out)).mono ?_
  rintro e w1 ⟨rfl, hb1⟩
  have HI1 := Lib.hid (isB_below HIB.out hb1)
  have HBB1 := Lib.hid ((HBL.out.trans (hb1.mono HBL.out.size)).mono HB.out)
  have HS1 := Lib.hid (HS0.out.trans (Side.of (b := b) hb1))
  clear hb1
  go_wp2_with fail
  refine (gWrite_any B b _ (Cd.bs X) w1 HI1.out hlx (Nat.le_trans HB.out HBB1.out.size)).mono ?_
  rintro e w3 ⟨rfl, hi3, hb3, hs3⟩
  have HS3 := Lib.hid (HS1.out.trans hs3)
  have HI3 := Lib.hid hi3
  have HBB3 := Lib.hid (HBB1.out.trans hb3)
  clear hi3 hb3 hs3
  go_wp2_with fail
  go_end0
  refine HRES.out _ ?_ HBB3.out HS3.out
  rw [HU.out]
  exact HI3.out
 ·-- a row
  have HU : Hid (Cd.unI (decide (within = 2)) (Cd.nameI L (.mk n cd p ks)) = [] ++ (Cd.unL 42 (decide ((2 : Int) = 2)) (Cd.nameL L ks) ++ [])) := Lib.hid (by
   rw [Cd.nameI, Cd.un_mk, k, if_neg (by decide), if_neg (by decide)]
   rfl)
  obtain ⟨X, hX⟩ : ∃ X, X = Cd.unL 42 (decide ((2 : Int) = 2)) (Cd.nameL L ks) := ⟨_, rfl⟩
  rw [← hX] at HU
  have hlx : acc.length + ([] ++ (X ++ [])).length ≤ 10000000 := by rw [← HU.out]; exact HLEN.out
  have hlx : acc.length + (X.length + 0) ≤ 10000000 := by simpa [Nat.add_assoc, Nat.add_comm, Nat.add_left_comm] using hlx
  have HCALL : Hid (∀ (W1 : World) (l1 : List UInt8), Lib.IsBuilder 124 5 B b (Lib.byteCells l1) W1 → Below B W W1 → Side b W W1 → l1.length + X.length ≤ 10000000 → Calls Tryz.prog 143 #[.agg #[], .pointer (some ⟨b, 0, none⟩), .agg #[.int .i64 L.periods, .slice As L.signs.length cs], .slice A ks.length c, .string ⟨#[42]⟩, .int .i64 2] W1 (RetWr B b (l1 ++ X) W1)) := Lib.hid fun W1 l1 q1 q2 q3 q4 => by
   rw [hX] at q4 ⊢
   exact IH.out ks A c 42 2 l1 W1 q1 (Nat.le_trans HB.out q2.size) (HL.out.keep (Nat.le_refl _) q2) (its_side HK.out q3) HOKK.out q4
  have HX := Lib.hid hX
  clear hX
  rw [k]
  go_enter Tryz.func147, Tryz.ntmps147
  go_wp2_with fail
  simp only [Nat.add_assoc, Nat.reduceAdd]
  rw [← HZ.out]
  refine at_worldF ?_
  intro WL hWL
  obtain ⟨hsz, hbl, b0, b1, b2⟩ := alloc3 _ _ _ _ _ hWL
  rw [← HZ.out] at hsz b1 b2
  have HBL := Lib.hid hbl
  have HS0 := Lib.hid (Side.of (b := b) hbl)
  have HIB := Lib.hid (isB_below HIB0.out hbl)
  have HB1 := Lib.hid b1
  have HB2 := Lib.hid b2
  clear hWL hbl b0 b1 b2
  refine (gWrite_any B b acc ⟨#[]⟩ WL HIB.out (by have : (⟨#[]⟩ : ByteArray).size = 0 := rfl; omega) (by have := HB.out; have := HZ.out; omega)).mono ?_
  rintro e w1 ⟨rfl, hi1, hb1, hs1⟩
  have HS1 := Lib.hid (HS0.out.trans hs1)
  have HI1 := Lib.hid hi1
  have hsz1 := hb1.size
  have HBB1 := Lib.hid ((HBL.out.mono HB.out).trans hb1)
  have c1 := hs1.2 (Z + 1) _ _ _ (by omega) (by decide) HB1.out
  have c2 := hs1.2 (Z + 2) _ _ _ (by omega) (by decide) HB2.out
  obtain ⟨x0, x1⟩ := box2_cells c1
  obtain ⟨y0, y1, y2, y3, y4, y5, y6, y7, y10⟩ := box11_cells c2
  clear hi1 hb1 hs1 c1 c2
  go_wp2_with fail
  refine (HCALL.out w1 _ HI1.out HBB1.out HS1.out (by have : ([] : List UInt8).length = 0 := rfl; rw [List.length_append]; omega)).mono ?_
  rintro e w2 ⟨rfl, hi2, hb2, hs2⟩
  have HS2 := Lib.hid (HS1.out.trans hs2)
  have HI2 := Lib.hid hi2
  have HBB2 := Lib.hid (HBB1.out.trans hb2)
  have hsz2 := hb2.size
  clear hi2 hb2 hs2 x0 x1 y0 y1 y2 y3 y4 y5 y6 y7 y10
  go_wp2_with fail
  refine (gWrite_any B b _ ⟨#[]⟩ w2 HI2.out (by have : (⟨#[]⟩ : ByteArray).size = 0 := rfl; have : ([] : List UInt8).length = 0 := rfl; rw [List.length_append, List.length_append]; omega) (Nat.le_trans HB.out HBB2.out.size)).mono ?_
  rintro e w3 ⟨rfl, hi3, hb3, hs3⟩
  have HS3 := Lib.hid (HS2.out.trans hs3)
  have HI3 := Lib.hid hi3
  have HBB3 := Lib.hid (HBB2.out.trans hb3)
  clear hi3 hb3 hs3
  go_wp2_with fail
  go_end0
  refine HRES.out _ ?_ HBB3.out HS3.out
  rw [HU.out]
  have := HI3.out
  simpa [List.append_assoc] using this
 ·-- a column
  by_cases hw : within = 2
  case pos =>
   have kw : (within == 2) = true := by simp [hw]
   have HU : Hid (Cd.unI (decide (within = 2)) (Cd.nameI L (.mk n cd p ks)) = [40] ++ (Cd.unL 58 (decide ((3 : Int) = 2)) (Cd.nameL L ks) ++ [41])) := Lib.hid (by
    rw [Cd.nameI, Cd.un_mk, k, if_neg (by decide), if_neg (by decide)]
    rw [show decide (within = 2) = true from by simp [hw]]; rfl)
   obtain ⟨X, hX⟩ : ∃ X, X = Cd.unL 58 (decide ((3 : Int) = 2)) (Cd.nameL L ks) := ⟨_, rfl⟩
   rw [← hX] at HU
   have hlx : acc.length + ([40] ++ (X ++ [41])).length ≤ 10000000 := by rw [← HU.out]; exact HLEN.out
   have hlx : acc.length + (X.length + 2) ≤ 10000000 := by simpa [Nat.add_assoc, Nat.add_comm, Nat.add_left_comm] using hlx
   have HCALL : Hid (∀ (W1 : World) (l1 : List UInt8), Lib.IsBuilder 124 5 B b (Lib.byteCells l1) W1 → Below B W W1 → Side b W W1 → l1.length + X.length ≤ 10000000 → Calls Tryz.prog 143 #[.agg #[], .pointer (some ⟨b, 0, none⟩), .agg #[.int .i64 L.periods, .slice As L.signs.length cs], .slice A ks.length c, .string ⟨#[58]⟩, .int .i64 3] W1 (RetWr B b (l1 ++ X) W1)) := Lib.hid fun W1 l1 q1 q2 q3 q4 => by
    rw [hX] at q4 ⊢
    exact IH.out ks A c 58 3 l1 W1 q1 (Nat.le_trans HB.out q2.size) (HL.out.keep (Nat.le_refl _) q2) (its_side HK.out q3) HOKK.out q4
   have HX := Lib.hid hX
   clear hX
   rw [k]
   go_enter Tryz.func147, Tryz.ntmps147
   go_wp2_with fail
   simp only [Nat.add_assoc, Nat.reduceAdd]
   rw [← HZ.out]
   refine at_worldF ?_
   intro WL hWL
   obtain ⟨hsz, hbl, b0, b1, b2⟩ := alloc3 _ _ _ _ _ hWL
   rw [← HZ.out] at hsz b1 b2
   have HBL := Lib.hid hbl
   have HS0 := Lib.hid (Side.of (b := b) hbl)
   have HIB := Lib.hid (isB_below HIB0.out hbl)
   have HB1 := Lib.hid b1
   have HB2 := Lib.hid b2
   clear hWL hbl b0 b1 b2
   refine (gWrite_any B b acc ⟨#[40]⟩ WL HIB.out (by have : (⟨#[40]⟩ : ByteArray).size = 1 := rfl; omega) (by have := HB.out; have := HZ.out; omega)).mono ?_
   rintro e w1 ⟨rfl, hi1, hb1, hs1⟩
   have HS1 := Lib.hid (HS0.out.trans hs1)
   have HI1 := Lib.hid hi1
   have hsz1 := hb1.size
   have HBB1 := Lib.hid ((HBL.out.mono HB.out).trans hb1)
   have c1 := hs1.2 (Z + 1) _ _ _ (by omega) (by decide) HB1.out
   have c2 := hs1.2 (Z + 2) _ _ _ (by omega) (by decide) HB2.out
   obtain ⟨x0, x1⟩ := box2_cells c1
   obtain ⟨y0, y1, y2, y3, y4, y5, y6, y7, y10⟩ := box11_cells c2
   clear hi1 hb1 hs1 c1 c2
   go_wp2_with fail
   refine (HCALL.out w1 _ HI1.out HBB1.out HS1.out (by have : ([40] : List UInt8).length = 1 := rfl; rw [List.length_append]; omega)).mono ?_
   rintro e w2 ⟨rfl, hi2, hb2, hs2⟩
   have HS2 := Lib.hid (HS1.out.trans hs2)
   have HI2 := Lib.hid hi2
   have HBB2 := Lib.hid (HBB1.out.trans hb2)
   have hsz2 := hb2.size
   clear hi2 hb2 hs2 x0 x1 y0 y1 y2 y3 y4 y5 y6 y7 y10
   go_wp2_with fail
   refine (gWrite_any B b _ ⟨#[41]⟩ w2 HI2.out (by have : (⟨#[41]⟩ : ByteArray).size = 1 := rfl; have : ([40] : List UInt8).length = 1 := rfl; rw [List.length_append, List.length_append]; omega) (Nat.le_trans HB.out HBB2.out.size)).mono ?_
   rintro e w3 ⟨rfl, hi3, hb3, hs3⟩
   have HS3 := Lib.hid (HS2.out.trans hs3)
   have HI3 := Lib.hid hi3
   have HBB3 := Lib.hid (HBB2.out.trans hb3)
   clear hi3 hb3 hs3
   go_wp2_with fail
   go_end0
   refine HRES.out _ ?_ HBB3.out HS3.out
   rw [HU.out]
   have := HI3.out
   simpa [List.append_assoc] using this
  case neg =>
   have kw : (within == 2) = false := by simp [hw]
   have HU : Hid (Cd.unI (decide (within = 2)) (Cd.nameI L (.mk n cd p ks)) = [] ++ (Cd.unL 58 (decide ((3 : Int) = 2)) (Cd.nameL L ks) ++ [])) := Lib.hid (by
    rw [Cd.nameI, Cd.un_mk, k, if_neg (by decide), if_neg (by decide)]
    rw [show decide (within = 2) = false from by simp [hw]]; rfl)
   obtain ⟨X, hX⟩ : ∃ X, X = Cd.unL 58 (decide ((3 : Int) = 2)) (Cd.nameL L ks) := ⟨_, rfl⟩
   rw [← hX] at HU
   have hlx : acc.length + ([] ++ (X ++ [])).length ≤ 10000000 := by rw [← HU.out]; exact HLEN.out
   have hlx : acc.length + (X.length + 0) ≤ 10000000 := by simpa [Nat.add_assoc, Nat.add_comm, Nat.add_left_comm] using hlx
   have HCALL : Hid (∀ (W1 : World) (l1 : List UInt8), Lib.IsBuilder 124 5 B b (Lib.byteCells l1) W1 → Below B W W1 → Side b W W1 → l1.length + X.length ≤ 10000000 → Calls Tryz.prog 143 #[.agg #[], .pointer (some ⟨b, 0, none⟩), .agg #[.int .i64 L.periods, .slice As L.signs.length cs], .slice A ks.length c, .string ⟨#[58]⟩, .int .i64 3] W1 (RetWr B b (l1 ++ X) W1)) := Lib.hid fun W1 l1 q1 q2 q3 q4 => by
    rw [hX] at q4 ⊢
    exact IH.out ks A c 58 3 l1 W1 q1 (Nat.le_trans HB.out q2.size) (HL.out.keep (Nat.le_refl _) q2) (its_side HK.out q3) HOKK.out q4
   have HX := Lib.hid hX
   clear hX
   rw [k]
   go_enter Tryz.func147, Tryz.ntmps147
   go_wp2_with fail
   simp only [Nat.add_assoc, Nat.reduceAdd]
   rw [← HZ.out]
   refine at_worldF ?_
   intro WL hWL
   obtain ⟨hsz, hbl, b0, b1, b2⟩ := alloc3 _ _ _ _ _ hWL
   rw [← HZ.out] at hsz b1 b2
   have HBL := Lib.hid hbl
   have HS0 := Lib.hid (Side.of (b := b) hbl)
   have HIB := Lib.hid (isB_below HIB0.out hbl)
   have HB1 := Lib.hid b1
   have HB2 := Lib.hid b2
   clear hWL hbl b0 b1 b2
   refine (gWrite_any B b acc ⟨#[]⟩ WL HIB.out (by have : (⟨#[]⟩ : ByteArray).size = 0 := rfl; omega) (by have := HB.out; have := HZ.out; omega)).mono ?_
   rintro e w1 ⟨rfl, hi1, hb1, hs1⟩
   have HS1 := Lib.hid (HS0.out.trans hs1)
   have HI1 := Lib.hid hi1
   have hsz1 := hb1.size
   have HBB1 := Lib.hid ((HBL.out.mono HB.out).trans hb1)
   have c1 := hs1.2 (Z + 1) _ _ _ (by omega) (by decide) HB1.out
   have c2 := hs1.2 (Z + 2) _ _ _ (by omega) (by decide) HB2.out
   obtain ⟨x0, x1⟩ := box2_cells c1
   obtain ⟨y0, y1, y2, y3, y4, y5, y6, y7, y10⟩ := box11_cells c2
   clear hi1 hb1 hs1 c1 c2
   go_wp2_with fail
   refine (HCALL.out w1 _ HI1.out HBB1.out HS1.out (by have : ([] : List UInt8).length = 0 := rfl; rw [List.length_append]; omega)).mono ?_
   rintro e w2 ⟨rfl, hi2, hb2, hs2⟩
   have HS2 := Lib.hid (HS1.out.trans hs2)
   have HI2 := Lib.hid hi2
   have HBB2 := Lib.hid (HBB1.out.trans hb2)
   have hsz2 := hb2.size
   clear hi2 hb2 hs2 x0 x1 y0 y1 y2 y3 y4 y5 y6 y7 y10
   go_wp2_with fail
   refine (gWrite_any B b _ ⟨#[]⟩ w2 HI2.out (by have : (⟨#[]⟩ : ByteArray).size = 0 := rfl; have : ([] : List UInt8).length = 0 := rfl; rw [List.length_append, List.length_append]; omega) (Nat.le_trans HB.out HBB2.out.size)).mono ?_
   rintro e w3 ⟨rfl, hi3, hb3, hs3⟩
   have HS3 := Lib.hid (HS2.out.trans hs3)
   have HI3 := Lib.hid hi3
   have HBB3 := Lib.hid (HBB2.out.trans hb3)
   clear hi3 hb3 hs3
   go_wp2_with fail
   go_end0
   refine HRES.out _ ?_ HBB3.out HS3.out
   rw [HU.out]
   have := HI3.out
   simpa [List.append_assoc] using this
 ·-- one over the other
  have HU : Hid (Cd.unI (decide (within = 2)) (Cd.nameI L (.mk n cd p ks)) = [] ++ (Cd.unL 38 (decide ((4 : Int) = 2)) (Cd.nameL L ks) ++ [])) := Lib.hid (by
   rw [Cd.nameI, Cd.un_mk, k, if_neg (by decide), if_neg (by decide)]
   rfl)
  obtain ⟨X, hX⟩ : ∃ X, X = Cd.unL 38 (decide ((4 : Int) = 2)) (Cd.nameL L ks) := ⟨_, rfl⟩
  rw [← hX] at HU
  have hlx : acc.length + ([] ++ (X ++ [])).length ≤ 10000000 := by rw [← HU.out]; exact HLEN.out
  have hlx : acc.length + (X.length + 0) ≤ 10000000 := by simpa [Nat.add_assoc, Nat.add_comm, Nat.add_left_comm] using hlx
  have HCALL : Hid (∀ (W1 : World) (l1 : List UInt8), Lib.IsBuilder 124 5 B b (Lib.byteCells l1) W1 → Below B W W1 → Side b W W1 → l1.length + X.length ≤ 10000000 → Calls Tryz.prog 143 #[.agg #[], .pointer (some ⟨b, 0, none⟩), .agg #[.int .i64 L.periods, .slice As L.signs.length cs], .slice A ks.length c, .string ⟨#[38]⟩, .int .i64 4] W1 (RetWr B b (l1 ++ X) W1)) := Lib.hid fun W1 l1 q1 q2 q3 q4 => by
   rw [hX] at q4 ⊢
   exact IH.out ks A c 38 4 l1 W1 q1 (Nat.le_trans HB.out q2.size) (HL.out.keep (Nat.le_refl _) q2) (its_side HK.out q3) HOKK.out q4
  have HX := Lib.hid hX
  clear hX
  rw [k]
  go_enter Tryz.func147, Tryz.ntmps147
  go_wp2_with fail
  simp only [Nat.add_assoc, Nat.reduceAdd]
  rw [← HZ.out]
  refine at_worldF ?_
  intro WL hWL
  obtain ⟨hsz, hbl, b0, b1, b2⟩ := alloc3 _ _ _ _ _ hWL
  rw [← HZ.out] at hsz b1 b2
  have HBL := Lib.hid hbl
  have HS0 := Lib.hid (Side.of (b := b) hbl)
  have HIB := Lib.hid (isB_below HIB0.out hbl)
  have HB1 := Lib.hid b1
  have HB2 := Lib.hid b2
  clear hWL hbl b0 b1 b2
  refine (gWrite_any B b acc ⟨#[]⟩ WL HIB.out (by have : (⟨#[]⟩ : ByteArray).size = 0 := rfl; omega) (by have := HB.out; have := HZ.out; omega)).mono ?_
  rintro e w1 ⟨rfl, hi1, hb1, hs1⟩
  have HS1 := Lib.hid (HS0.out.trans hs1)
  have HI1 := Lib.hid hi1
  have hsz1 := hb1.size
  have HBB1 := Lib.hid ((HBL.out.mono HB.out).trans hb1)
  have c1 := hs1.2 (Z + 1) _ _ _ (by omega) (by decide) HB1.out
  have c2 := hs1.2 (Z + 2) _ _ _ (by omega) (by decide) HB2.out
  obtain ⟨x0, x1⟩ := box2_cells c1
  obtain ⟨y0, y1, y2, y3, y4, y5, y6, y7, y10⟩ := box11_cells c2
  clear hi1 hb1 hs1 c1 c2
  go_wp2_with fail
  refine (HCALL.out w1 _ HI1.out HBB1.out HS1.out (by have : ([] : List UInt8).length = 0 := rfl; rw [List.length_append]; omega)).mono ?_
  rintro e w2 ⟨rfl, hi2, hb2, hs2⟩
  have HS2 := Lib.hid (HS1.out.trans hs2)
  have HI2 := Lib.hid hi2
  have HBB2 := Lib.hid (HBB1.out.trans hb2)
  have hsz2 := hb2.size
  clear hi2 hb2 hs2 x0 x1 y0 y1 y2 y3 y4 y5 y6 y7 y10
  go_wp2_with fail
  refine (gWrite_any B b _ ⟨#[]⟩ w2 HI2.out (by have : (⟨#[]⟩ : ByteArray).size = 0 := rfl; have : ([] : List UInt8).length = 0 := rfl; rw [List.length_append, List.length_append]; omega) (Nat.le_trans HB.out HBB2.out.size)).mono ?_
  rintro e w3 ⟨rfl, hi3, hb3, hs3⟩
  have HS3 := Lib.hid (HS2.out.trans hs3)
  have HI3 := Lib.hid hi3
  have HBB3 := Lib.hid (HBB2.out.trans hb3)
  clear hi3 hb3 hs3
  go_wp2_with fail
  go_end0
  refine HRES.out _ ?_ HBB3.out HS3.out
  rw [HU.out]
  have := HI3.out
  simpa [List.append_assoc] using this
 ·-- a ring
  have HU : Hid (Cd.unI (decide (within = 2)) (Cd.nameI L (.mk n cd p ks)) = [60] ++ (Cd.unL 45 (decide ((5 : Int) = 2)) (Cd.nameL L ks) ++ [62])) := Lib.hid (by
   rw [Cd.nameI, Cd.un_mk, k, if_neg (by decide), if_neg (by decide)]
   rfl)
  obtain ⟨X, hX⟩ : ∃ X, X = Cd.unL 45 (decide ((5 : Int) = 2)) (Cd.nameL L ks) := ⟨_, rfl⟩
  rw [← hX] at HU
  have hlx : acc.length + ([60] ++ (X ++ [62])).length ≤ 10000000 := by rw [← HU.out]; exact HLEN.out
  have hlx : acc.length + (X.length + 2) ≤ 10000000 := by simpa [Nat.add_assoc, Nat.add_comm, Nat.add_left_comm] using hlx
  have HCALL : Hid (∀ (W1 : World) (l1 : List UInt8), Lib.IsBuilder 124 5 B b (Lib.byteCells l1) W1 → Below B W W1 → Side b W W1 → l1.length + X.length ≤ 10000000 → Calls Tryz.prog 143 #[.agg #[], .pointer (some ⟨b, 0, none⟩), .agg #[.int .i64 L.periods, .slice As L.signs.length cs], .slice A ks.length c, .string ⟨#[45]⟩, .int .i64 5] W1 (RetWr B b (l1 ++ X) W1)) := Lib.hid fun W1 l1 q1 q2 q3 q4 => by
   rw [hX] at q4 ⊢
   exact IH.out ks A c 45 5 l1 W1 q1 (Nat.le_trans HB.out q2.size) (HL.out.keep (Nat.le_refl _) q2) (its_side HK.out q3) HOKK.out q4
  have HX := Lib.hid hX
  clear hX
  rw [k]
  go_enter Tryz.func147, Tryz.ntmps147
  go_wp2_with fail
  simp only [Nat.add_assoc, Nat.reduceAdd]
  rw [← HZ.out]
  refine at_worldF ?_
  intro WL hWL
  obtain ⟨hsz, hbl, b0, b1, b2⟩ := alloc3 _ _ _ _ _ hWL
  rw [← HZ.out] at hsz b1 b2
  have HBL := Lib.hid hbl
  have HS0 := Lib.hid (Side.of (b := b) hbl)
  have HIB := Lib.hid (isB_below HIB0.out hbl)
  have HB1 := Lib.hid b1
  have HB2 := Lib.hid b2
  clear hWL hbl b0 b1 b2
  refine (gWrite_any B b acc ⟨#[60]⟩ WL HIB.out (by have : (⟨#[60]⟩ : ByteArray).size = 1 := rfl; omega) (by have := HB.out; have := HZ.out; omega)).mono ?_
  rintro e w1 ⟨rfl, hi1, hb1, hs1⟩
  have HS1 := Lib.hid (HS0.out.trans hs1)
  have HI1 := Lib.hid hi1
  have hsz1 := hb1.size
  have HBB1 := Lib.hid ((HBL.out.mono HB.out).trans hb1)
  have c1 := hs1.2 (Z + 1) _ _ _ (by omega) (by decide) HB1.out
  have c2 := hs1.2 (Z + 2) _ _ _ (by omega) (by decide) HB2.out
  obtain ⟨x0, x1⟩ := box2_cells c1
  obtain ⟨y0, y1, y2, y3, y4, y5, y6, y7, y10⟩ := box11_cells c2
  clear hi1 hb1 hs1 c1 c2
  go_wp2_with fail
  refine (HCALL.out w1 _ HI1.out HBB1.out HS1.out (by have : ([60] : List UInt8).length = 1 := rfl; rw [List.length_append]; omega)).mono ?_
  rintro e w2 ⟨rfl, hi2, hb2, hs2⟩
  have HS2 := Lib.hid (HS1.out.trans hs2)
  have HI2 := Lib.hid hi2
  have HBB2 := Lib.hid (HBB1.out.trans hb2)
  have hsz2 := hb2.size
  clear hi2 hb2 hs2 x0 x1 y0 y1 y2 y3 y4 y5 y6 y7 y10
  go_wp2_with fail
  refine (gWrite_any B b _ ⟨#[62]⟩ w2 HI2.out (by have : (⟨#[62]⟩ : ByteArray).size = 1 := rfl; have : ([60] : List UInt8).length = 1 := rfl; rw [List.length_append, List.length_append]; omega) (Nat.le_trans HB.out HBB2.out.size)).mono ?_
  rintro e w3 ⟨rfl, hi3, hb3, hs3⟩
  have HS3 := Lib.hid (HS2.out.trans hs3)
  have HI3 := Lib.hid hi3
  have HBB3 := Lib.hid (HBB2.out.trans hb3)
  clear hi3 hb3 hs3
  go_wp2_with fail
  go_end0
  refine HRES.out _ ?_ HBB3.out HS3.out
  rw [HU.out]
  have := HI3.out
  simpa [List.append_assoc] using this
 ·-- an honour
  have HU : Hid (Cd.unI (decide (within = 2)) (Cd.nameI L (.mk n cd p ks)) = [91] ++ (Cd.unL 59 (decide ((7 : Int) = 2)) (Cd.nameL L ks) ++ [93])) := Lib.hid (by
   rw [Cd.nameI, Cd.un_mk, k, if_neg (by decide), if_neg (by decide)]
   rfl)
  obtain ⟨X, hX⟩ : ∃ X, X = Cd.unL 59 (decide ((7 : Int) = 2)) (Cd.nameL L ks) := ⟨_, rfl⟩
  rw [← hX] at HU
  have hlx : acc.length + ([91] ++ (X ++ [93])).length ≤ 10000000 := by rw [← HU.out]; exact HLEN.out
  have hlx : acc.length + (X.length + 2) ≤ 10000000 := by simpa [Nat.add_assoc, Nat.add_comm, Nat.add_left_comm] using hlx
  have HCALL : Hid (∀ (W1 : World) (l1 : List UInt8), Lib.IsBuilder 124 5 B b (Lib.byteCells l1) W1 → Below B W W1 → Side b W W1 → l1.length + X.length ≤ 10000000 → Calls Tryz.prog 143 #[.agg #[], .pointer (some ⟨b, 0, none⟩), .agg #[.int .i64 L.periods, .slice As L.signs.length cs], .slice A ks.length c, .string ⟨#[59]⟩, .int .i64 7] W1 (RetWr B b (l1 ++ X) W1)) := Lib.hid fun W1 l1 q1 q2 q3 q4 => by
   rw [hX] at q4 ⊢
   exact IH.out ks A c 59 7 l1 W1 q1 (Nat.le_trans HB.out q2.size) (HL.out.keep (Nat.le_refl _) q2) (its_side HK.out q3) HOKK.out q4
  have HX := Lib.hid hX
  clear hX
  rw [k]
  go_enter Tryz.func147, Tryz.ntmps147
  go_wp2_with fail
  simp only [Nat.add_assoc, Nat.reduceAdd]
  rw [← HZ.out]
  refine at_worldF ?_
  intro WL hWL
  obtain ⟨hsz, hbl, b0, b1, b2⟩ := alloc3 _ _ _ _ _ hWL
  rw [← HZ.out] at hsz b1 b2
  have HBL := Lib.hid hbl
  have HS0 := Lib.hid (Side.of (b := b) hbl)
  have HIB := Lib.hid (isB_below HIB0.out hbl)
  have HB1 := Lib.hid b1
  have HB2 := Lib.hid b2
  clear hWL hbl b0 b1 b2
  refine (gWrite_any B b acc ⟨#[91]⟩ WL HIB.out (by have : (⟨#[91]⟩ : ByteArray).size = 1 := rfl; omega) (by have := HB.out; have := HZ.out; omega)).mono ?_
  rintro e w1 ⟨rfl, hi1, hb1, hs1⟩
  have HS1 := Lib.hid (HS0.out.trans hs1)
  have HI1 := Lib.hid hi1
  have hsz1 := hb1.size
  have HBB1 := Lib.hid ((HBL.out.mono HB.out).trans hb1)
  have c1 := hs1.2 (Z + 1) _ _ _ (by omega) (by decide) HB1.out
  have c2 := hs1.2 (Z + 2) _ _ _ (by omega) (by decide) HB2.out
  obtain ⟨x0, x1⟩ := box2_cells c1
  obtain ⟨y0, y1, y2, y3, y4, y5, y6, y7, y10⟩ := box11_cells c2
  clear hi1 hb1 hs1 c1 c2
  go_wp2_with fail
  refine (HCALL.out w1 _ HI1.out HBB1.out HS1.out (by have : ([91] : List UInt8).length = 1 := rfl; rw [List.length_append]; omega)).mono ?_
  rintro e w2 ⟨rfl, hi2, hb2, hs2⟩
  have HS2 := Lib.hid (HS1.out.trans hs2)
  have HI2 := Lib.hid hi2
  have HBB2 := Lib.hid (HBB1.out.trans hb2)
  have hsz2 := hb2.size
  clear hi2 hb2 hs2 x0 x1 y0 y1 y2 y3 y4 y5 y6 y7 y10
  go_wp2_with fail
  refine (gWrite_any B b _ ⟨#[93]⟩ w2 HI2.out (by have : (⟨#[93]⟩ : ByteArray).size = 1 := rfl; have : ([91] : List UInt8).length = 1 := rfl; rw [List.length_append, List.length_append]; omega) (Nat.le_trans HB.out HBB2.out.size)).mono ?_
  rintro e w3 ⟨rfl, hi3, hb3, hs3⟩
  have HS3 := Lib.hid (HS2.out.trans hs3)
  have HI3 := Lib.hid hi3
  have HBB3 := Lib.hid (HBB2.out.trans hb3)
  clear hi3 hb3 hs3
  go_wp2_with fail
  go_end0
  refine HRES.out _ ?_ HBB3.out HS3.out
  rw [HU.out]
  have := HI3.out
  simpa [List.append_assoc] using this
set_option maxRecDepth 100000 in
set_option maxHeartbeats 16000000 in
theorem ll_step (L : Sg.SList) (vl : Value) (B b d : Nat) (ih : ∀ e, d = e + 1 → LiSays L vl B b e) : LlSays L vl B b d := by
 intro xs A c sep within acc W hb hB hl hk hok hlen
 have IH := Lib.hid ih
 have HL := Lib.hid hl
 have HB := Lib.hid hB
 have HK := Lib.hid hk
 have HOK := Lib.hid hok
 have HLEN := Lib.hid hlen
 have hbz := isB_lt hb
 have HIB0 := Lib.hid hb
 have hcap : xs.length ≤ c ∧ c ≤ 9223372036854775807 := by
  obtain ⟨A', c', hv, h1, h2, -⟩ := hk
  cases hv
  exact ⟨h1, h2⟩
 obtain ⟨⟨us, rfl, hsg⟩, -⟩ := hl
 obtain ⟨As, cs, rfl, -⟩ := id hsg
 obtain ⟨iw, hiw⟩ : ∃ iw, iw = decide (within = 2) := ⟨_, rfl⟩
 have HIW := Lib.hid hiw
 obtain ⟨Z, hZ⟩ : ∃ Z, Z = W.heap.size := ⟨_, rfl⟩
 have HZ := Lib.hid hZ
 rw [← hZ] at hbz
 have HRES : Hid (∀ W', Lib.IsBuilder 124 5 B b (Lib.byteCells (acc ++ Cd.unL sep iw (Cd.nameL L xs))) W' → Below B W W' → Side b W W' → RetWr B b (acc ++ Cd.unL sep (decide (within = 2)) (Cd.nameL L xs)) W (.returned (.tuple #[])) W') := Lib.hid fun W' q1 q2 q3 => by
  rw [← hiw]
  exact ⟨rfl, q1, q2, q3⟩
 rw [← hiw] at HLEN
 clear hsg hb hB hk hok hlen ih hZ hiw
 go_enter Tryz.func143, Tryz.ntmps143
 go_wp2_with fail
 rw [← HZ.out]
 obtain ⟨WL, hWL⟩ : ∃ WL, WL = (W.alloc (.cells #[] 96)).alloc (.cells #[.int .i64 L.periods, .slice As L.signs.length cs] 24) := ⟨_, rfl⟩
 rw [← hWL]
 have hbl : Below Z W WL := by rw [hWL, HZ.out]; exact ((Below.refl _ _).alloc (Nat.le_refl _) _).alloc (by simp) _
 have b1 : WL.heap[Z + 1]? = some (.cells #[.int .i64 L.periods, .slice As L.signs.length cs] 24 (0, 0)) := by rw [hWL, HZ.out]; exact heap_alloc2_new _ _ _
 have hszL : WL.heap.size = Z + 2 := by rw [hWL, HZ.out]; simp
 have HBL := Lib.hid hbl
 have HB1 := Lib.hid b1
 have HSZL := Lib.hid hszL
 clear hWL hbl b1 hszL
 go_loopg [16] xs.length (fun g i wr => ∃ k : Nat, k ≤ xs.length ∧ g = xs.length - k ∧ i = .int .i64 (k : Int) ∧ Lib.IsBuilder 124 5 B b (Lib.byteCells (acc ++ Cd.unL sep iw (Cd.nameL L (xs.take k)))) wr ∧ Below B W wr ∧ Side b WL wr)
 case atStart =>
  refine ⟨0, Nat.zero_le _, rfl, rfl, ?_, HBL.out.mono (by rw [HZ.out]; exact HB.out), Side.refl _ _⟩
  rw [List.take_zero, Cd.name_nil, Cd.un_nil, List.append_nil]
  exact isB_below HIB0.out (by rw [← HZ.out]; exact HBL.out)
 case round =>
  obtain ⟨k, hk, rfl, rfl, hib, hbr, hsd⟩ := hrel
  have HIB := Lib.hid hib
  have HBR := Lib.hid hbr
  have HSD := Lib.hid hsd
  have HSW := Lib.hid ((Side.of (b := b) (by rw [← HZ.out]; exact HBL.out)).trans hsd)
  have hzr : Z + 2 ≤ wr.heap.size := by have := hsd.1; have := HSZL.out; omega
  clear hib hbr hsd
  by_cases hlt : k < xs.length
  ·obtain ⟨x, hx⟩ : ∃ x, xs[k]? = some x := ⟨_, List.getElem?_eq_getElem hlt⟩
   obtain ⟨e, bi, cur, A', c', hde, hA, hokb, hcur, hkids, hcs⟩ := (its_side HK.out HSW.out).one_atG hx
   subst hA
   have hne : bi ≠ b := hokb.1
   have k0 : cur[k * 11]? = some (.int .i64 x.node.kind) := by have := hcs 0 _ rfl; simpa using this
   have f0 := (in_box hcur (k * 11)).1.trans k0
   have f1 := (in_box hcur (k * 11 + 1)).1.trans (hcs 1 _ rfl)
   have f2 := (in_box hcur (k * 11 + 2)).1.trans (hcs 2 _ rfl)
   have f3 := (in_box hcur (k * 11 + 3)).1.trans (hcs 3 _ rfl)
   have f4 := (in_box hcur (k * 11 + 4)).1.trans (hcs 4 _ rfl)
   have f5 := (in_box hcur (k * 11 + 5)).1.trans (hcs 5 _ rfl)
   have f6 := (in_box hcur (k * 11 + 6)).1.trans (hcs 6 _ rfl)
   have f7 := (in_box hcur (k * 11 + 7)).1.trans (hcs 7 _ rfl)
   have f8 := (in_box hcur (k * 11 + 8)).1.trans (hcs 8 _ rfl)
   have f9 := (in_box hcur (k * 11 + 9)).1.trans (hcs 9 _ rfl)
   have f10 := (in_box hcur (k * 11 + 10)).1.trans (hcs 10 _ rfl)
   have HKIDS := Lib.hid hkids
   have hI0 : (0 : Int) ≤ (k : Int) := by omega
   have hI1 : (k : Int) < (xs.length : Int) := by omega
   obtain ⟨n, cd, p, ks⟩ := x
   simp only [Cd.Item.node, Cd.Item.code, Cd.Item.pos, Cd.Item.kids] at f0 f1 f2 f3 f4 f5 f6 f7 f8 f9 f10 HKIDS
   have HU : Hid (Cd.unL sep iw (Cd.nameL L (xs.take (k + 1))) = Cd.unL sep iw (Cd.nameL L (xs.take k)) ++ ((if 0 < k then [sep] else []) ++ Cd.unI iw (Cd.nameI L (.mk n cd p ks)))) := Lib.hid (Cd.un_snoc hx)
   have HLK : Hid ((Cd.unL sep iw (Cd.nameL L (xs.take (k + 1)))).length ≤ (Cd.unL sep iw (Cd.nameL L xs)).length) := Lib.hid (Cd.un_take_len sep iw L xs (k + 1))
   have HOX := Lib.hid (Cd.ok_at HOK.out hx)
   have HIX := Lib.hid (IH.out e hde)
   obtain ⟨F, hF⟩ : ∃ F, F = Cd.unL sep iw (Cd.nameL L (xs.take k)) := ⟨_, rfl⟩
   obtain ⟨X, hX⟩ : ∃ X, X = Cd.unI iw (Cd.nameI L (.mk n cd p ks)) := ⟨_, rfl⟩
   rw [← hF] at HU HIB
   rw [← hX] at HU
   have HCALL : Hid (∀ (W1 : World) (l1 : List UInt8), Lib.IsBuilder 124 5 B b (Lib.byteCells l1) W1 → Below B W W1 → Side b wr W1 → l1.length + X.length ≤ 10000000 → Calls Tryz.prog 147 #[.agg #[], .pointer (some ⟨b, 0, none⟩), .agg #[.int .i64 L.periods, .slice As L.signs.length cs], .agg #[.int .i64 n.kind, .int .i64 n.depth, .int .i64 n.sign, .int .i64 n.turn, .bool n.mirror, .int .i64 n.state, .int .i64 n.lo, .int .i64 n.hi, .string (Cd.bs cd), .int .i64 p, .slice A' ks.length c'], .int .i64 within] W1 (RetWr B b (l1 ++ X) W1)) := Lib.hid fun W1 l1 q1 q2 q3 q4 => by
    rw [hX, HIW.out] at q4 ⊢
    exact HIX.out n cd p ks A' c' within l1 W1 q1 (Nat.le_trans HB.out q2.size) (HL.out.keep (Nat.le_refl _) q2) (its_side HKIDS.out q3) HOX.out q4
   have hlx : acc.length + (F.length + (1 + X.length)) ≤ 10000000 ∨ (k = 0 ∧ acc.length + (F.length + X.length) ≤ 10000000) := by
    have h1 := HLK.out
    have h2 := HLEN.out
    rw [HU.out, List.length_append, List.length_append] at h1
    by_cases h0 : 0 < k
    ·rw [if_pos h0, List.length_singleton] at h1
     exact .inl (by omega)
    ·rw [if_neg h0, List.length_nil] at h1
     exact .inr ⟨by omega, by omega⟩
   have HLX := Lib.hid hlx
   clear hx hcs hkids hokb hF hX hlx k0
   go_upto_region 4 with fail
   obtain ⟨W4, hW4⟩ : ∃ Y, Y = wr.alloc (.cells #[.int .i64 n.kind, .int .i64 n.depth, .int .i64 n.sign, .int .i64 n.turn, .bool n.mirror, .int .i64 n.state, .int .i64 n.lo, .int .i64 n.hi, .string (Cd.bs cd), .int .i64 p, .slice A' ks.length c'] 114) := ⟨_, rfl⟩
   rw [← hW4]
   have hb4 : Below wr.heap.size wr W4 := by rw [hW4]; exact (Below.refl _ _).alloc (Nat.le_refl _) _
   have hz4 : W4.heap[wr.heap.size]? = some (.cells #[.int .i64 n.kind, .int .i64 n.depth, .int .i64 n.sign, .int .i64 n.turn, .bool n.mirror, .int .i64 n.state, .int .i64 n.lo, .int .i64 n.hi, .string (Cd.bs cd), .int .i64 p, .slice A' ks.length c'] 114 (0, 0)) := by rw [hW4]; exact heap_alloc_new _ _
   have HB4 := Lib.hid hb4
   have HZ4 := Lib.hid hz4
   have HSD4 := Lib.hid (Side.of (b := b) hb4)
   have HI4 := Lib.hid (isB_below HIB.out hb4)
   have HBW4 := Lib.hid (HBR.out.trans (hb4.mono (Nat.le_trans HB.out HSW.out.1)))
   have b41 := (hb4.block (Z + 1) (by omega)).trans (HSD.out.2 (Z + 1) _ _ _ (by omega) (by decide) HB1.out)
   have HB41 := Lib.hid b41
   clear hW4 hb4 hz4 b41 f0 f1 f2 f3 f4 f5 f6 f7 f8 f9 f10
   by_cases h0 : 0 < k
   ·have h0I : (0 : Int) < (k : Int) := by omega
    have hlx : acc.length + (F.length + (1 + X.length)) ≤ 10000000 := by have := HLX.out; omega
    have HU2 : Hid (Cd.unL sep iw (Cd.nameL L (xs.take (k + 1))) = F ++ (sep :: X)) := Lib.hid (by rw [HU.out, if_pos h0]; rfl)
    clear h0
    go_wp2_with fail
    refine (gWrite_any B b _ ⟨#[sep]⟩ W4 HI4.out (by have : (⟨#[sep]⟩ : ByteArray).size = 1 := rfl; rw [List.length_append]; omega) (Nat.le_trans HB.out HBW4.out.size)).mono ?_
    rintro e w5 ⟨rfl, hi5, hb5, hs5⟩
    have HI5 := Lib.hid hi5
    have HB5 := Lib.hid (HBW4.out.trans hb5)
    have HS5 := Lib.hid (HSD4.out.trans hs5)
    have c1 := hs5.2 (Z + 1) _ _ _ (by omega) (by decide) HB41.out
    have c2 := hs5.2 wr.heap.size _ _ _ (by omega) (by decide) HZ4.out
    obtain ⟨x0, x1⟩ := box2_cells c1
    obtain ⟨z0, z1, z2, z3, z4, z5, z6, z7, z8, z9, z10⟩ := box_cells c2
    clear hi5 hb5 hs5 c1 c2
    go_wp2_with fail
    refine (HCALL.out w5 _ HI5.out HB5.out HS5.out (by rw [List.length_append, List.length_append, List.length_singleton]; omega)).mono ?_
    rintro e w6 ⟨rfl, hi6, hb6, hs6⟩
    have HI6 := Lib.hid hi6
    have HB6 := Lib.hid (HB5.out.trans hb6)
    have HS6 := Lib.hid (HS5.out.trans hs6)
    clear hi6 hb6 hs6 x0 x1 z0 z1 z2 z3 z4 z5 z6 z7 z8 z9 z10
    go_wp2_with fail
    go_roundg (xs.length - (k + 1))
    case measure => omega
    case rel =>
     refine ⟨k + 1, by omega, rfl, by go_num, ?_, HB6.out, HSD.out.trans HS6.out⟩
     rw [HU2.out]
     have := HI6.out
     simpa [List.append_assoc] using this
   ·have h0I : ¬ (0 : Int) < (k : Int) := by omega
    have hlx : acc.length + (F.length + X.length) ≤ 10000000 := by have := HLX.out; omega
    have HU2 : Hid (Cd.unL sep iw (Cd.nameL L (xs.take (k + 1))) = F ++ X) := Lib.hid (by rw [HU.out, if_neg h0]; rfl)
    obtain ⟨x0, x1⟩ := box2_cells HB41.out
    obtain ⟨z0, z1, z2, z3, z4, z5, z6, z7, z8, z9, z10⟩ := box_cells HZ4.out
    clear h0
    go_wp2_with fail
    refine (HCALL.out W4 _ HI4.out HBW4.out HSD4.out (by rw [List.length_append]; omega)).mono ?_
    rintro e w6 ⟨rfl, hi6, hb6, hs6⟩
    have HI6 := Lib.hid hi6
    have HB6 := Lib.hid (HBW4.out.trans hb6)
    have HS6 := Lib.hid (HSD4.out.trans hs6)
    clear hi6 hb6 hs6 x0 x1 z0 z1 z2 z3 z4 z5 z6 z7 z8 z9 z10
    go_wp2_with fail
    go_roundg (xs.length - (k + 1))
    case measure => omega
    case rel =>
     refine ⟨k + 1, by omega, rfl, by go_num, ?_, HB6.out, HSD.out.trans HS6.out⟩
     rw [HU2.out]
     have := HI6.out
     simpa [List.append_assoc] using this
  ·have hltI : ¬ (k : Int) < (xs.length : Int) := by omega
   have hkx : xs.take k = xs := List.take_of_length_le (by omega)
   have HIX : Hid (Lib.IsBuilder 124 5 B b (Lib.byteCells (acc ++ Cd.unL sep iw (Cd.nameL L xs))) wr) := Lib.hid (by have := HIB.out; rwa [hkx] at this)
   clear hkx
   go_wp2_with fail
   go_end0
   exact HRES.out _ HIX.out HBR.out HSW.out
theorem ll_any (L : Sg.SList) (vl : Value) (B b : Nat) (hLc : ∀ s ∈ L.signs, s.code.size ≤ 100) : ∀ d, LlSays L vl B b d
 | 0 => ll_step L vl B b 0 fun e h => by omega
 | d + 1 => ll_step L vl B b (d + 1) fun e h => by
  have : e = d := by omega
  subst this
  exact li_of L vl B b e hLc (ll_any L vl B b hLc e)
end Go.Proofs.YtenmkbpdkfhbjaaGreat
