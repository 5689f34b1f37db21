/- code.glyph: a sign in words of a code.; code.leaf: a sign or a gap in the line code.; What is written is read as the same text, in both codes: plain law.; What may be written, and how long it is: plain.; strings.Builder: copyCheck and WriteString, as this program's text has them.; ostraconref01.Decimal. -/
import Derived.Test.YtenmkbpdkfhbjaaGreatRcCGrow
import Derived.Test.YtenmkbpdkfhbjaaGreatRcShelf
import Derived.Lib.ItoaLen
import Derived.Test.YtenmkbpdkfhbjaaGreatRcCdMem
import Derived.Test.YtenmkbpdkfhbjaaGreatRcCdSize
import Derived.Test.YtenmkbpdkfhbjaaGreatRcR3Ret
import Derived.Lib.Builder
import Derived.Lib.AppendStr
import Derived.Test.YtenmkbpdkfhbjaaGreatRcFmtPlain
namespace Go.Proofs.YtenmkbpdkfhbjaaGreat
open Go Go.RowKit

theorem cItoa_small (n : Int) (hn : 0 ≤ n ∧ n ≤ 99) (W : World) : Calls Tryz.prog 155 #[.int .i64 n] W (fun e w' => e = .returned (.string (Cd.bs (Lib.itoa n))) ∧ w' = W) := by
  obtain ⟨k, rfl⟩ := Int.eq_ofNat_of_zero_le hn.1
  have h := Tryz.strconv_Itoa_small k (by omega) W
  rw [Lib.itoa, if_neg (by omega), Int.toNat_natCast]
  exact h
def RetSt (t : List UInt8) (w : World) (e : Ending) (w' : World) : Prop := e = .returned (.string (Cd.bs t)) ∧ Below w.heap.size w w'
set_option maxRecDepth 100000 in
set_option maxHeartbeats 4000000 in
theorem cglyph_any (l : Sg.SList) (n : Tx.Node) (vl : Value) (w : World) (hl : RdSL w w.heap.size vl l) (hs : 0 ≤ n.sign ∧ n.sign < l.signs.length) (ht : 0 ≤ n.turn ∧ n.turn ≤ 3) (hcs : ∀ s ∈ l.signs, s.code.size ≤ 100) :
    Calls Tryz.prog 156 #[vl, .agg (encN n).toArray] w (RetSt (Cd.leafU false n (Cd.codeAt l n.sign)) w) := by
  obtain ⟨⟨us, rfl, hsg⟩, -⟩ := hl
  obtain ⟨As, cs, rfl, -⟩ := id hsg
  obtain ⟨bS, offS, rfl, hbS, hrow⟩ := hsg.five (by omega)
  obtain ⟨sx, hsx⟩ : ∃ sx, l.signs[n.sign.toNat]? = some sx := ⟨_, List.getElem?_eq_getElem (by omega)⟩
  obtain ⟨-, -, hc0, -, -, -, -⟩ := hrow n.sign.toNat sx hsx
  have HCA : Hid (Cd.codeAt l n.sign = sx.code.data.toList) := Lib.hid (by unfold Cd.codeAt; rw [hsx])
  have hsize : sx.code.size ≤ 100 := hcs sx (List.mem_of_getElem? hsx)
  have hsl : sx.code.size ≤ maxLen := by unfold maxLen; omega
  obtain ⟨hs0, hs1⟩ := hs
  obtain ⟨ht0, ht1⟩ := ht
  have HIT : Hid (∀ W, Calls Tryz.prog 155 #[.int .i64 n.turn] W (fun e w' => e = .returned (.string (Cd.bs (Lib.itoa n.turn))) ∧ w' = W)) := Lib.hid fun W => cItoa_small n.turn ⟨ht0, by omega⟩ W
  have HB : Hid (∀ o o', Below w.heap.size w ((w.alloc o).alloc o')) := Lib.hid fun o o' => ((Below.refl _ _).alloc (Nat.le_refl _) _).alloc (by simp) _
  have HRES : Hid (∀ (b : ByteArray) (W : World), b.data.toList = Cd.leafU false n (Cd.codeAt l n.sign) → Below w.heap.size w W → RetSt (Cd.leafU false n (Cd.codeAt l n.sign)) w (.returned (.string b)) W) := Lib.hid fun b W h1 h2 => ⟨by rw [← h1]; rfl, h2⟩
  obtain ⟨tt, htt⟩ : ∃ tt, tt = Lib.itoa n.turn := ⟨_, rfl⟩
  have htl : (Cd.bs tt).size ≤ 100 := by
    have h1 : (Cd.bs tt).size = tt.length := rfl
    have h2 := Lib.itoa_length_le n.turn (by omega) (by omega)
    rw [h1, htt]
    omega
  rw [← htt] at HIT
  have HTT := Lib.hid htt
  clear hrow hsx hsg hcs htt
  unfold encN encNz
  obtain ⟨mi, hmi⟩ : ∃ mi, n.mirror = mi := ⟨_, rfl⟩
  have HMI := Lib.hid hmi
  rw [hmi]
  clear hmi
  by_cases k0 : 0 < n.turn
  · have HK := Lib.hid k0
    cases mi
    all_goals
      go_enter Tryz.func156, Tryz.ntmps156
      go_wp2_with fail
      refine (HIT.out _).mono ?_
      rintro e w1 ⟨rfl, hw1⟩
      subst hw1
      go_wp2_with fail
      go_ret
      refine HRES.out _ _ ?_ (HB.out _ _)
      rw [HCA.out]
      unfold Cd.leafU
      have hk : 0 < n.turn := by have := HK.out; omega
      rw [HMI.out, ← HTT.out]
      simp [hk, Cd.bs]
  · have HK := Lib.hid k0
    cases mi
    all_goals
      go_enter Tryz.func156, Tryz.ntmps156
      go_wp2_with fail
      go_ret
      refine HRES.out _ _ ?_ (HB.out _ _)
      rw [HCA.out]
      unfold Cd.leafU
      have hk : ¬ 0 < n.turn := by have := HK.out; omega
      rw [HMI.out]
      simp [hk]
end Go.Proofs.YtenmkbpdkfhbjaaGreat
namespace Go.Proofs.YtenmkbpdkfhbjaaGreat
open Go Go.RowKit

set_option maxRecDepth 100000 in
set_option maxHeartbeats 4000000 in
theorem cleaf_gap (vp : Int) (vs : Value) (n : Tx.Node) (w : World) (hk : n.kind = 6) (hlo : 0 ≤ n.lo ∧ n.lo ≤ 99) (hhi : 0 ≤ n.hi ∧ n.hi ≤ 99) :
    Calls Tryz.prog 150 #[.agg #[.int .i64 vp, vs], .agg (encN n).toArray] w (RetSt (Cd.gapU n) w) := by
  have HI1 : Hid (∀ W, Calls Tryz.prog 155 #[.int .i64 n.lo] W (fun e w' => e = .returned (.string (Cd.bs (Lib.itoa n.lo))) ∧ w' = W)) := Lib.hid fun W => cItoa_small n.lo hlo W
  have HI2 : Hid (∀ W, Calls Tryz.prog 155 #[.int .i64 n.hi] W (fun e w' => e = .returned (.string (Cd.bs (Lib.itoa n.hi))) ∧ w' = W)) := Lib.hid fun W => cItoa_small n.hi hhi W
  obtain ⟨t1, ht1⟩ : ∃ t, t = Lib.itoa n.lo := ⟨_, rfl⟩
  obtain ⟨t2, ht2⟩ : ∃ t, t = Lib.itoa n.hi := ⟨_, rfl⟩
  have hl1 : (Cd.bs t1).size ≤ 100 := by
    have h1 : (Cd.bs t1).size = t1.length := rfl
    have h2 := Lib.itoa_length_le n.lo (by omega) (by omega)
    rw [h1, ht1]
    omega
  have hl2 : (Cd.bs t2).size ≤ 100 := by
    have h1 : (Cd.bs t2).size = t2.length := rfl
    have h2 := Lib.itoa_length_le n.hi (by omega) (by omega)
    rw [h1, ht2]
    omega
  rw [← ht1] at HI1
  rw [← ht2] at HI2
  have HV : Hid (Cd.gapU n = 123 :: (t1 ++ 45 :: (t2 ++ [125]))) := Lib.hid (by rw [ht1, ht2]; rfl)
  have HB : Hid (∀ o o', Below w.heap.size w ((w.alloc o).alloc o')) := Lib.hid fun o o' => ((Below.refl _ _).alloc (Nat.le_refl _) _).alloc (by simp) _
  have HRES : Hid (∀ (b : ByteArray) (W : World), b.data.toList = Cd.gapU n → Below w.heap.size w W → RetSt (Cd.gapU n) w (.returned (.string b)) W) := Lib.hid fun b W h1 h2 => ⟨by rw [← h1]; rfl, h2⟩
  have k6 : (n.kind == 6) = true := by simp [hk]
  clear ht1 ht2 hk
  unfold encN encNz
  go_enter Tryz.func150, Tryz.ntmps150
  go_upto_region 2 with fail
  go_quiet (first
    | (go_at_call 155; exact Calls.quiet_of_same (HI1.out _))
    | (go_at_call 155; exact Calls.quiet_of_same (HI2.out _)))
  all_goals go_wp2_with fail
  all_goals go_ret
  all_goals
    refine HRES.out _ _ ?_ (below_drewN (HB.out _ _) _)
    rw [HV.out]
    simp [Cd.bs]
set_option maxRecDepth 100000 in
set_option maxHeartbeats 4000000 in
theorem cleaf_glyph (l : Sg.SList) (n : Tx.Node) (vl : Value) (w : World) (hl : RdSL w w.heap.size vl l) (hk : n.kind = 1) (hs : 0 ≤ n.sign ∧ n.sign < l.signs.length) (ht : 0 ≤ n.turn ∧ n.turn ≤ 3) (hst : 0 ≤ n.state ∧ n.state ≤ 3) (hcs : ∀ s ∈ l.signs, s.code.size ≤ 100) (hsz : (Cd.leafU false n (Cd.codeAt l n.sign)).length ≤ 1000) :
    Calls Tryz.prog 150 #[vl, .agg (encN n).toArray] w (RetSt (Cd.leafU true n (Cd.codeAt l n.sign)) w) := by
  have HG : Hid (∀ W, Below w.heap.size w W → Calls Tryz.prog 156 #[vl, .agg (encN n).toArray] W (RetSt (Cd.leafU false n (Cd.codeAt l n.sign)) W)) := Lib.hid fun W hW => cglyph_any l n vl W (hl.keep hW.size hW) hs ht hcs
  obtain ⟨⟨us, rfl, hsg⟩, -⟩ := hl
  obtain ⟨As, cs, rfl, -⟩ := id hsg
  obtain ⟨t, htt⟩ : ∃ t, t = Cd.leafU false n (Cd.codeAt l n.sign) := ⟨_, rfl⟩
  rw [← htt] at HG hsz
  obtain ⟨st, hst2⟩ : ∃ st, n.state = st := ⟨_, rfl⟩
  have HV : Hid (Cd.leafU true n (Cd.codeAt l n.sign) = t ++ (if st = 1 then [35] else if st = 2 then [61] else if st = 3 then [33] else [])) := Lib.hid (by rw [htt, ← hst2]; unfold Cd.leafU; simp)
  have hb : (Cd.bs t).size ≤ 1000 := hsz
  have HB : Hid (∀ o o', Below w.heap.size w ((w.alloc o).alloc o')) := Lib.hid fun o o' => ((Below.refl _ _).alloc (Nat.le_refl _) _).alloc (by simp) _
  have HRES : Hid (∀ (b : ByteArray) (W : World), b.data.toList = Cd.leafU true n (Cd.codeAt l n.sign) → Below w.heap.size w W → RetSt (Cd.leafU true n (Cd.codeAt l n.sign)) w (.returned (.string b)) W) := Lib.hid fun b W h1 h2 => ⟨by rw [← h1]; rfl, h2⟩
  have k6 : (n.kind == 6) = false := by simp [hk]
  rw [hst2] at hst
  clear hsg htt hk hsz
  unfold encN encNz at HG ⊢
  rw [hst2] at HG ⊢
  clear hst2
  rcases (show st = 0 ∨ st = 1 ∨ st = 2 ∨ st = 3 by omega) with rfl | rfl | rfl | rfl
  · go_enter Tryz.func150, Tryz.ntmps150
    go_wp2_with fail
    refine at_worldF ?_
    intro WL hWL
    have hbl : Below w.heap.size w WL := by rw [hWL]; exact HB.out _ _
    have hx := heap_alloc2_new w (.cells #[.int .i64 l.periods, .slice As l.signs.length cs] 24) (.cells #[.int .i64 n.kind, .int .i64 n.depth, .int .i64 n.sign, .int .i64 n.turn, .bool n.mirror, .int .i64 0, .int .i64 n.lo, .int .i64 n.hi] 59)
    rw [← hWL] at hx
    clear hWL
    refine (HG.out _ hbl).mono ?_
    rintro e w1 ⟨rfl, hb1⟩
    have hx1 := (hb1.block _ (lt_somT hx)).trans hx
    obtain ⟨z0, z1, z2, z3, z4, z5, z6, z7⟩ := box8_cells hx1
    have HBW := Lib.hid (hbl.trans (hb1.mono hbl.size))
    clear hb1 hx hx1 hbl
    go_wp2_with fail
    go_ret
    refine HRES.out _ _ ?_ HBW.out
    rw [HV.out]
    simp [Cd.bs]
  · go_enter Tryz.func150, Tryz.ntmps150
    go_wp2_with fail
    refine at_worldF ?_
    intro WL hWL
    have hbl : Below w.heap.size w WL := by rw [hWL]; exact HB.out _ _
    have hx := heap_alloc2_new w (.cells #[.int .i64 l.periods, .slice As l.signs.length cs] 24) (.cells #[.int .i64 n.kind, .int .i64 n.depth, .int .i64 n.sign, .int .i64 n.turn, .bool n.mirror, .int .i64 1, .int .i64 n.lo, .int .i64 n.hi] 59)
    rw [← hWL] at hx
    clear hWL
    refine (HG.out _ hbl).mono ?_
    rintro e w1 ⟨rfl, hb1⟩
    have hx1 := (hb1.block _ (lt_somT hx)).trans hx
    obtain ⟨z0, z1, z2, z3, z4, z5, z6, z7⟩ := box8_cells hx1
    have HBW := Lib.hid (hbl.trans (hb1.mono hbl.size))
    clear hb1 hx hx1 hbl
    go_wp2_with fail
    go_ret
    refine HRES.out _ _ ?_ HBW.out
    rw [HV.out]
    simp [Cd.bs]
  · go_enter Tryz.func150, Tryz.ntmps150
    go_wp2_with fail
    refine at_worldF ?_
    intro WL hWL
    have hbl : Below w.heap.size w WL := by rw [hWL]; exact HB.out _ _
    have hx := heap_alloc2_new w (.cells #[.int .i64 l.periods, .slice As l.signs.length cs] 24) (.cells #[.int .i64 n.kind, .int .i64 n.depth, .int .i64 n.sign, .int .i64 n.turn, .bool n.mirror, .int .i64 2, .int .i64 n.lo, .int .i64 n.hi] 59)
    rw [← hWL] at hx
    clear hWL
    refine (HG.out _ hbl).mono ?_
    rintro e w1 ⟨rfl, hb1⟩
    have hx1 := (hb1.block _ (lt_somT hx)).trans hx
    obtain ⟨z0, z1, z2, z3, z4, z5, z6, z7⟩ := box8_cells hx1
    have HBW := Lib.hid (hbl.trans (hb1.mono hbl.size))
    clear hb1 hx hx1 hbl
    go_wp2_with fail
    go_ret
    refine HRES.out _ _ ?_ HBW.out
    rw [HV.out]
    simp [Cd.bs]
  · go_enter Tryz.func150, Tryz.ntmps150
    go_wp2_with fail
    refine at_worldF ?_
    intro WL hWL
    have hbl : Below w.heap.size w WL := by rw [hWL]; exact HB.out _ _
    have hx := heap_alloc2_new w (.cells #[.int .i64 l.periods, .slice As l.signs.length cs] 24) (.cells #[.int .i64 n.kind, .int .i64 n.depth, .int .i64 n.sign, .int .i64 n.turn, .bool n.mirror, .int .i64 3, .int .i64 n.lo, .int .i64 n.hi] 59)
    rw [← hWL] at hx
    clear hWL
    refine (HG.out _ hbl).mono ?_
    rintro e w1 ⟨rfl, hb1⟩
    have hx1 := (hb1.block _ (lt_somT hx)).trans hx
    obtain ⟨z0, z1, z2, z3, z4, z5, z6, z7⟩ := box8_cells hx1
    have HBW := Lib.hid (hbl.trans (hb1.mono hbl.size))
    clear hb1 hx hx1 hbl
    go_wp2_with fail
    go_ret
    refine HRES.out _ _ ?_ HBW.out
    rw [HV.out]
    simp [Cd.bs]
end Go.Proofs.YtenmkbpdkfhbjaaGreat
namespace Cd
open Go
open Tx
theorem grow_size {ns : List Tx.Node} (hd : Deep ns) : sizeL (growV (ns.length + 1) 0 ns).1 = ns.length := by
  rw [← flatL_len 0, flat_grow hd]
end Cd
namespace Cd
open Go
open Tx
def OkN (l : Sg.SList) (n : Tx.Node) : Prop :=
  (1 ≤ n.kind ∧ n.kind ≤ 7) ∧ (n.kind = 1 → 0 ≤ n.sign ∧ n.sign < l.signs.length ∧ 0 ≤ n.turn ∧ n.turn ≤ 3 ∧ 0 ≤ n.state ∧ n.state ≤ 3) ∧ (n.kind = 6 → 0 ≤ n.lo ∧ n.lo ≤ 99 ∧ 0 ≤ n.hi ∧ n.hi ≤ 99)
theorem OkN.depth {l : Sg.SList} {n : Tx.Node} {d : Int} (h : OkN l n) : OkN l { n with depth := d } := h
mutual
def OkI (l : Sg.SList) : Item → Prop
  | .mk n _ _ ks => OkN l n ∧ OkL l ks
def OkL (l : Sg.SList) : List Item → Prop
  | [] => True
  | x :: xs => OkI l x ∧ OkL l xs
end
mutual
theorem ok_of_flatI {l : Sg.SList} (d : Int) : ∀ x : Item, (∀ n ∈ flatI d x, OkN l n) → OkI l x
  | .mk n c p ks, h => by
    rw [OkI]
    rw [flatI] at h
    exact ⟨h { n with depth := d } (by simp), ok_of_flatL (d + 1) ks fun q hq => h q (by simp [hq])⟩
theorem ok_of_flatL {l : Sg.SList} (d : Int) : ∀ xs : List Item, (∀ n ∈ flatL d xs, OkN l n) → OkL l xs
  | [], _ => by rw [OkL]; trivial
  | x :: xs, h => by
    rw [OkL]
    rw [flatL] at h
    exact ⟨ok_of_flatI d x fun q hq => h q (by simp [hq]), ok_of_flatL d xs fun q hq => h q (by simp [hq])⟩
end
theorem ok_at {l : Sg.SList} : ∀ {xs : List Item} {k : Nat} {x : Item}, OkL l xs → xs[k]? = some x → OkI l x
  | [], _, _, _, h => by simp at h
  | y :: ys, 0, x, h, hx => by
    rw [OkL] at h
    simp at hx
    subst hx
    exact h.1
  | y :: ys, k + 1, x, h, hx => by
    rw [OkL] at h
    exact ok_at h.2 (by simpa using hx)
theorem ok_node {l : Sg.SList} {x : Item} (h : OkI l x) : OkN l x.node ∧ OkL l x.kids := by
  cases x
  rw [OkI] at h
  exact h
theorem ok_valid {l : Sg.SList} {ns : List Tx.Node} (hv : Valid l ns) : ∀ n ∈ ns, OkN l n := by
  intro n hn
  obtain ⟨i, hi, rfl⟩ := List.getElem_of_mem hn
  have ho := hv.own i hi
  obtain ⟨f1, f6, f0⟩ := own_facts ho
  have hk : 1 ≤ (nd ns i).kind ∧ (nd ns i).kind ≤ 7 := by
    unfold ownAt ownV at ho
    by_cases c1 : (nd ns i).kind < 1 ∨ 7 < (nd ns i).kind
    · rw [if_pos c1] at ho
      exact absurd ho (by decide)
    · omega
  have hnd : nd ns i = ns[i] := by
    have := List.getElem?_eq_getElem hi
    unfold nd
    rw [this]
    rfl
  rw [← hnd]
  refine ⟨hk, fun h1 => ?_, fun h6 => ?_⟩
  · have := f1 h1
    omega
  · have := f6 h6
    omega
theorem ok_grown {l : Sg.SList} {ns : List Tx.Node} (hv : Valid l ns) : OkL l (growT 0 ns).1 := by
  have hd : Deep ns := deep_of fun i hi => hv.own i hi
  rw [← growT_of (f := ns.length + 1) (by omega)]
  refine ok_of_flatL 0 _ ?_
  rw [flat_grow hd]
  exact ok_valid hv
theorem name_nil (l : Sg.SList) : nameL l [] = [] := by rw [nameL]
theorem itoa_short {n : Int} (h : 0 ≤ n ∧ n ≤ 99) : (Lib.itoa n).length ≤ 21 := Lib.itoa_length_le n (by omega) (by omega)
theorem code_short {l : Sg.SList} (hc : ∀ s ∈ l.signs, s.code.size ≤ 100) (k : Int) : (codeAt l k).length ≤ 100 := by
  unfold codeAt
  cases h : l.signs[k.toNat]? with
  | none => simp
  | some s => exact hc s (List.mem_of_getElem? h)
theorem leafU_short {l : Sg.SList} (hc : ∀ s ∈ l.signs, s.code.size ≤ 100) {n : Tx.Node} (ht : 0 ≤ n.turn ∧ n.turn ≤ 3) (b : Bool) : (leafU b n (codeAt l n.sign)).length ≤ 124 := by
  have h1 := code_short hc n.sign
  have h2 := itoa_short (n := n.turn) (by omega)
  unfold leafU
  simp only [List.length_append]
  have e1 : (if n.mirror = true then ([92] : List UInt8) else []).length ≤ 1 := by split <;> simp
  have e2 : (if 0 < n.turn then 47 :: Lib.itoa n.turn else []).length ≤ 22 := by
    split
    · simp; omega
    · simp
  have e3 : (if b = true then (if n.state = 1 then ([35] : List UInt8) else if n.state = 2 then [61] else if n.state = 3 then [33] else []) else []).length ≤ 1 := by
    split
    · split
      · simp
      · split
        · simp
        · split <;> simp
    · simp
  omega
theorem gapU_short {n : Tx.Node} (h : 0 ≤ n.lo ∧ n.lo ≤ 99 ∧ 0 ≤ n.hi ∧ n.hi ≤ 99) : (gapU n).length ≤ 45 := by
  have h1 := itoa_short (n := n.lo) (by omega)
  have h2 := itoa_short (n := n.hi) (by omega)
  unfold gapU
  simp only [List.length_append, List.length_cons, List.length_nil]
  omega
theorem openU_len (b : Bool) (k : Int) : (openU b k).length ≤ 1 := by
  unfold openU
  split
  · split <;> simp
  · split
    · simp
    · split <;> simp
theorem shutU_len (b : Bool) (k : Int) : (shutU b k).length ≤ 1 := by
  unfold shutU
  split
  · split <;> simp
  · split
    · simp
    · split <;> simp
theorem wordOf_len (k : Int) : (wordOf k).length ≤ 6 := by
  unfold wordOf
  split
  · simp
  · split
    · simp
    · split
      · simp
      · split <;> simp
mutual
theorem un_short {l : Sg.SList} (hc : ∀ s ∈ l.signs, s.code.size ≤ 100) (b : Bool) : ∀ x : Item, OkI l x → (unI b (nameI l x)).length + 1 ≤ 200 * sizeI x
  | .mk n c p ks, h => by
    rw [OkI] at h
    rw [nameI, un_mk, sizeI]
    split
    · rename_i h1
      have := leafU_short hc (n := n) (by have := h.1.2.1 h1; omega) true
      omega
    · split
      · rename_i h6
        have := gapU_short (h.1.2.2 h6)
        omega
      · have h1 := openU_len b n.kind
        have h2 := shutU_len b n.kind
        have h3 := un_shortL hc (betw n.kind) (decide (n.kind = 2)) ks h.2
        simp only [List.length_append]
        omega
theorem un_shortL {l : Sg.SList} (hc : ∀ s ∈ l.signs, s.code.size ≤ 100) (c : UInt8) (b : Bool) : ∀ xs : List Item, OkL l xs → (unL c b (nameL l xs)).length ≤ 200 * sizeL xs
  | [], _ => by rw [nameL, un_nil]; simp
  | x :: xs, h => by
    rw [OkL] at h
    rw [nameL, un_two, sizeL, List.length_append]
    have h1 := un_short hc b x h.1
    have h2 := un_shortR hc c b xs h.2
    omega
theorem un_shortR {l : Sg.SList} (hc : ∀ s ∈ l.signs, s.code.size ≤ 100) (c : UInt8) (b : Bool) : ∀ xs : List Item, OkL l xs → (unR c b (nameL l xs)).length ≤ 200 * sizeL xs
  | [], _ => by rw [nameL, un_none]; simp
  | x :: xs, h => by
    rw [OkL] at h
    rw [nameL, un_more, sizeL, List.length_cons, List.length_append]
    have h1 := un_short hc b x h.1
    have h2 := un_shortR hc c b xs h.2
    omega
end
theorem ut_none : utR [] = [] := by rw [utR]
theorem ut_next (x : Item) (xs : List Item) : utR (x :: xs) = 32 :: (utI x ++ utR xs) := by rw [utR]
theorem ut_two (x : Item) (xs : List Item) : utL (x :: xs) = utI x ++ utR xs := by rw [utL]
mutual
theorem ut_short {l : Sg.SList} (hc : ∀ s ∈ l.signs, s.code.size ≤ 100) : ∀ x : Item, OkI l x → (utI (nameI l x)).length + 1 ≤ 200 * sizeI x
  | .mk n c p ks, h => by
    rw [OkI] at h
    rw [nameI, ut_mk, sizeI]
    split
    · rename_i h1
      have := leafU_short hc (n := n) (by have := h.1.2.1 h1; omega) false
      omega
    · split
      · rename_i h6
        have := h.1.2.2 h6
        rw [List.length_replicate]
        omega
      · have h1 := wordOf_len n.kind
        have h3 := ut_shortL hc ks h.2
        simp only [List.length_append, List.length_cons, List.length_nil]
        omega
theorem ut_shortL {l : Sg.SList} (hc : ∀ s ∈ l.signs, s.code.size ≤ 100) : ∀ xs : List Item, OkL l xs → (utL (nameL l xs)).length ≤ 200 * sizeL xs
  | [], _ => by rw [nameL, ut_nil]; simp
  | x :: xs, h => by
    rw [OkL] at h
    rw [nameL, ut_two, sizeL, List.length_append]
    have h1 := ut_short hc x h.1
    have h2 := ut_shortR hc xs h.2
    omega
theorem ut_shortR {l : Sg.SList} (hc : ∀ s ∈ l.signs, s.code.size ≤ 100) : ∀ xs : List Item, OkL l xs → (utR (nameL l xs)).length ≤ 200 * sizeL xs
  | [], _ => by rw [nameL, ut_none]; simp
  | x :: xs, h => by
    rw [OkL] at h
    rw [nameL, ut_next, sizeL, List.length_cons, List.length_append]
    have h1 := ut_short hc x h.1
    have h2 := ut_shortR hc xs h.2
    omega
end
theorem un_snoc {l : Sg.SList} {c : UInt8} {b : Bool} : ∀ {xs : List Item} {k : Nat} {x : Item}, xs[k]? = some x → unL c b (nameL l (xs.take (k + 1))) = unL c b (nameL l (xs.take k)) ++ ((if 0 < k then [c] else []) ++ unI b (nameI l x))
  | [], k, x, h => by simp at h
  | y :: ys, 0, x, h => by
    simp at h
    subst h
    rw [List.take_succ_cons, List.take_zero, List.take_zero, name_nil, nameL, name_nil, un_two, un_none, un_nil]
    simp
  | y :: ys, k + 1, x, h => by
    have key : ∀ (zs : List Item) (k : Nat), zs[k]? = some x → unR c b (nameL l (zs.take (k + 1))) = unR c b (nameL l (zs.take k)) ++ (c :: unI b (nameI l x)) := by
      intro zs
      induction zs with
      | nil => intro k h; simp at h
      | cons z zs ih =>
        intro k h
        cases k with
        | zero =>
          simp at h
          subst h
          rw [List.take_succ_cons, List.take_zero, List.take_zero, name_nil, nameL, name_nil, un_more, un_none]
          simp
        | succ k =>
          rw [List.take_succ_cons, List.take_succ_cons, nameL, nameL, un_more, un_more, ih k (by simpa using h)]
          simp
    rw [List.take_succ_cons, List.take_succ_cons, nameL, nameL, un_two, un_two, key ys k (by simpa using h)]
    simp
theorem ut_snoc {l : Sg.SList} : ∀ {xs : List Item} {k : Nat} {x : Item}, xs[k]? = some x → utL (nameL l (xs.take (k + 1))) = utL (nameL l (xs.take k)) ++ ((if 0 < k then [32] else []) ++ utI (nameI l x))
  | [], k, x, h => by simp at h
  | y :: ys, 0, x, h => by
    simp at h
    subst h
    rw [List.take_succ_cons, List.take_zero, List.take_zero, name_nil, nameL, name_nil, ut_two, ut_none, ut_nil]
    simp
  | y :: ys, k + 1, x, h => by
    have key : ∀ (zs : List Item) (k : Nat), zs[k]? = some x → utR (nameL l (zs.take (k + 1))) = utR (nameL l (zs.take k)) ++ (32 :: utI (nameI l x)) := by
      intro zs
      induction zs with
      | nil => intro k h; simp at h
      | cons z zs ih =>
        intro k h
        cases k with
        | zero =>
          simp at h
          subst h
          rw [List.take_succ_cons, List.take_zero, List.take_zero, name_nil, nameL, name_nil, ut_next, ut_none]
          simp
        | succ k =>
          rw [List.take_succ_cons, List.take_succ_cons, nameL, nameL, ut_next, ut_next, ih k (by simpa using h)]
          simp
    rw [List.take_succ_cons, List.take_succ_cons, nameL, nameL, ut_two, ut_two, key ys k (by simpa using h)]
    simp
theorem un_take_len (c : UInt8) (b : Bool) (l : Sg.SList) : ∀ (xs : List Item) (k : Nat), (unL c b (nameL l (xs.take k))).length ≤ (unL c b (nameL l xs)).length
  | xs, k => by
    by_cases h : k < xs.length
    · have h1 := un_take_len c b l xs (k + 1)
      rw [un_snoc (List.getElem?_eq_getElem h), List.length_append] at h1
      omega
    · rw [List.take_of_length_le (by omega)]
      exact Nat.le_refl _
termination_by xs k => xs.length - k
theorem ut_take_len (l : Sg.SList) : ∀ (xs : List Item) (k : Nat), (utL (nameL l (xs.take k))).length ≤ (utL (nameL l xs)).length
  | xs, k => by
    by_cases h : k < xs.length
    · have h1 := ut_take_len l xs (k + 1)
      rw [ut_snoc (List.getElem?_eq_getElem h), List.length_append] at h1
      omega
    · rw [List.take_of_length_le (by omega)]
      exact Nat.le_refl _
termination_by xs k => xs.length - k
end Cd
namespace Go.Proofs.YtenmkbpdkfhbjaaGreat
open Go Go.RowKit

theorem info_u8 : (Tryz.prog.info? 5).map (fun i => (i.zero, i.size, i.bytes)) = some (some (.int .u8 0), 1, 1) := by kernel_rfl
theorem size_builder : (Tryz.prog.info? 124).map (·.size) = some 2 := by kernel_rfl
theorem lies_builder : liesAt Tryz.prog Tryz.prog.depth 124 (2 / Tryz.prog.cellsOf 124) 0 124 1 = true := by kernel_rfl

set_option maxRecDepth 100000 in
set_option maxHeartbeats 2000000 in
theorem copyCheck_used (b : Nat) (w : World) (h0 : w.cell? ⟨b, 0, none⟩ = some (.pointer (some ⟨b, 0, none⟩))) : Calls Tryz.prog 149 #[.pointer (some ⟨b, 0, none⟩)] w (fun e w' => e = .returned (.tuple #[]) ∧ w' = w) := by
  obtain ⟨j, hj, _⟩ := Option.map_eq_some_iff.1 size_builder
  go_enter Tryz.func149, Tryz.ntmps149
  go_wp2_with fail
  rw [Lib.run_neq_ptr_same w _ Tryz.underlying121 hj]
  go_wp2_with fail
  go_end0
  exact ⟨rfl, rfl⟩
set_option maxRecDepth 100000 in
set_option maxHeartbeats 2000000 in
theorem copyCheck_fresh (b : Nat) (w : World) (h0 : w.cell? ⟨b, 0, none⟩ = some (.pointer none)) (hsh : w.shape? b = some (124, 2)) (hfz : w.frozen? ⟨b, 0, none⟩ = false) : Calls Tryz.prog 149 #[.pointer (some ⟨b, 0, none⟩)] w (fun e w' => e = .returned (.tuple #[]) ∧ w' = w.setCell ⟨b, 0, none⟩ (.pointer (some ⟨b, 0, none⟩))) := by
  obtain ⟨j, hj, hjs⟩ := Option.map_eq_some_iff.1 size_builder
  go_enter Tryz.func149, Tryz.ntmps149
  go_wp2_with fail
  rw [Lib.run_to_unsafe w ⟨b, 0, none⟩ Tryz.underlying121 Tryz.underlying203 hj (by rw [hjs]; decide) hsh (Nat.zero_lt_succ 1)]
  simp only [Result.andThen]
  rw [Oper.upon_value]
  go_wp2_with fail
  rw [run_callFunc_extern Tryz.func154 (by kernel_rfl) (by kernel_rfl) (by kernel_rfl) (e := Extern.AbiNoEscape.same) (by kernel_rfl)]
  rw [Lib.run_noEscape]
  simp only [Result.andThen]
  rw [Oper.upon_value]
  go_wp2_with fail
  rw [Lib.run_from_unsafe w ⟨b, 0, none⟩ Tryz.underlying203 Tryz.underlying121 hj hsh lies_builder]
  simp only [Result.andThen]
  rw [Oper.upon_value]
  go_wp2_with fail
  go_end0
  exact ⟨rfl, rfl⟩
theorem cells_append (l : List UInt8) (s : ByteArray) : Lib.byteCells l ++ Lib.strCells s = Lib.byteCells (l ++ s.data.toList) := by simp [Lib.byteCells, Lib.strCells]
end Go.Proofs.YtenmkbpdkfhbjaaGreat
namespace Go.Proofs.YtenmkbpdkfhbjaaGreat
open Go Go.RowKit

end Go.Proofs.YtenmkbpdkfhbjaaGreat
