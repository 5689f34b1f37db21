/- A list of items of the call's own grows, beside a box of the call's own.; The program's readers of lists of groups. Made by gen_cdread.py. -/
import Derived.Test.YtenmkbpdkfhbjaaGreatRcCdOver
import Derived.Deep.RegionLaw
namespace Go.Proofs.YtenmkbpdkfhbjaaGreat
open Go Go.RowKit

def OwnP (X : Nat) (w : World) (base : Nat) (v : Value) (xs : List Cd.Item) : Prop :=
 ∃ cells, w.ownsRow base 114 11 v xs.length cells ∧ grows (KI S0) w (fun b => b < w.heap.size ∧ v.ownBlock ≠ some b ∧ base ≤ b ∧ b ≠ X) cells xs ∧ v.ownBlock ≠ some X
section
variable {X : Nat} {w w' : World} {base : Nat} {v : Value} {xs : List Cd.Item}
theorem OwnP.own (h : OwnP X w base v xs) : OwnG (KI S0) 114 w base v xs := by
 obtain ⟨cells, h1, h2, -⟩ := h
 exact ⟨cells, h1, h2.keep fun b hb => ⟨⟨hb.1, hb.2.1, hb.2.2.1⟩, rfl⟩⟩
theorem OwnP.of (h : OwnG (KI S0) 114 w base v xs) (hX : w.heap.size ≤ X) (hb : Below w.heap.size w w') : OwnP X w' base v xs := by
 obtain ⟨cells, h1, h2⟩ := h
 refine ⟨cells, h1.kept (grown_of_below (row := none) hb) (by cases v.ownBlock <;> simp), h2.keep fun b hk => ⟨⟨Nat.lt_of_lt_of_le hk.1 hb.size, hk.2.1, hk.2.2, by omega⟩, hb.block b hk.1⟩, fun e => by have := (h1.lt X e).2; omega⟩
theorem OwnP.aside {row : Option Nat} (h : OwnP X w base v xs) (hg : w.grownBy w' row) (hk : ∀ k, row = some k → k < base ∨ k = X) : OwnP X w' base v xs := by
 obtain ⟨cells, h1, h2, h3⟩ := h
 refine ⟨cells, h1.kept hg ?_, h2.keep fun b hb => ⟨⟨Nat.lt_of_lt_of_le hb.1 hg.size, hb.2⟩, hg.block b hb.1 fun e => by rcases hk b e.symm with q | q <;> omega⟩, h3⟩
 cases ho : v.ownBlock with
 | none => exact .inl rfl
 | some g =>
  right
  intro e
  rcases hk g e.symm with q | q
  ·have := (h1.lt g ho).1; omega
  ·exact h3 (by rw [ho, q])
theorem OwnP.form (h : OwnP X w base v xs) : ∃ A c, v = .slice A xs.length c := h.own.form
theorem wp_append_itemP {o : Oper} {a : Act} {K : Act → World → Prop} {Q : Exit → Act → World → Prop} (s x : Operand)
  (ho : o.op = .call { callee := .builtin .append, args := #[s, x], argTypes := #[75, 75] })
  (y : Cd.Item) (hs : a.eval s = v) (hown : OwnP X w base v xs) (b c : Nat) (cs : List Value) (hx : a.eval x = .slice (some ⟨b, 0, none⟩) 1 c) (hc : 1 ≤ c ∧ c ≤ 9223372036854775807)
  (hb : w.heap[b]? = some (.cells cs.toArray 114 (0, 0))) (h1 : ∀ u ∈ cs, u.oneCell' = true) (hrd : (KI S0).rd w (fun b => b < w.heap.size ∧ v.ownBlock ≠ some b ∧ base ≤ b ∧ b ≠ X) cs y) (hn : xs.length ≤ 2000000) (hbase : base ≤ w.heap.size) (hX : X < w.heap.size)
  (h : ∀ v' w', OwnP X w' base v' (xs ++ [y]) → w.grownBy w' v.ownBlock → K (a.put o.dst v') w') : o.wp Tryz.prog a w K Q := by
 obtain ⟨i0, hi0, hz0, hs0, hb0⟩ := info_parts info_item
 obtain ⟨cells, hown, hg, hnx⟩ := hown
 have hl : cs.length = 11 := (KI S0).len hrd
 refine wp_append_rd (enc := enc11) s x _ ho base 114 i0 _ 11 112 len_11 one_11 Tryz.underlying75 hi0 hz0 hs0 hb0 rfl (by decide) v xs.length cells hs hown w.heap.size _ [⟨cs, hl, h1⟩] hx ?_ (by simp [maxLen]; omega) (by simp; omega) hbase ?_
 ·refine ⟨_, c, rfl, hc.1, hc.2, fun _ => ⟨b, 0, rfl, lt_of_some hb, fun i q hi j u hj => ?_⟩⟩
  cases i with
  | zero =>
   simp at hi
   subst hi
   rw [(in_box hb _).1]
   simpa [enc11] using hj
  | succ i => simp at hi
 ·intro v' w' hown' hgw hat
  refine h v' w' ?_ hgw
  have hk : ∀ b, (b < w.heap.size ∧ v.ownBlock ≠ some b ∧ base ≤ b ∧ b ≠ X) → (b < w'.heap.size ∧ v'.ownBlock ≠ some b ∧ base ≤ b ∧ b ≠ X) ∧ w'.heap[b]? = w.heap[b]? := by
   intro b ⟨hb, hne, hbs, hbx⟩
   refine ⟨⟨Nat.lt_of_lt_of_le hb hgw.size, ?_, hbs, hbx⟩, hgw.block b hb (fun e => hne e.symm)⟩
   rcases hat with e | e
   ·rw [e]; exact hne
   ·rw [e]; intro q; cases q; omega
  refine ⟨cells ++ cs, by rw [List.length_append]; have := hown'; simp only [List.length_singleton, List.flatMap_cons, List.flatMap_nil, List.append_nil] at this; exact this, (hg.snoc hrd).keep hk, ?_⟩
  rcases hat with e | e
  ·rw [e]; exact hnx
  ·rw [e]; intro q; cases q; omega
theorem step_append_itemP {ops : Array Oper} {o : Oper} {a : Act} {K : Act → World → Prop} {Q : Exit → Act → World → Prop} {E : Prop} (hgd : o.guard = none) (s x : Operand)
  (ho : o.op = .call { callee := .builtin .append, args := #[s, x], argTypes := #[75, 75] })
  (y : Cd.Item) (hs : a.eval s = v) (hown : OwnP X w base v xs) (b c : Nat) (cs : List Value) (hx : a.eval x = .slice (some ⟨b, 0, none⟩) 1 c) (hc : 1 ≤ c ∧ c ≤ 9223372036854775807)
  (hb : w.heap[b]? = some (.cells cs.toArray 114 (0, 0))) (h1 : ∀ u ∈ cs, u.oneCell' = true) (hrd : (KI S0).rd w (fun b => b < w.heap.size ∧ v.ownBlock ≠ some b ∧ base ≤ b ∧ b ≠ X) cs y) (hn : xs.length ≤ 2000000) (hbase : base ≤ w.heap.size) (hX : X < w.heap.size)
  (h : ∀ v' w', OwnP X w' base v' (xs ++ [y]) → w.grownBy w' v.ownBlock → K (a.put o.dst v') w') : if Region.wanted o (yielded ops a.tmps) = true then Oper.wp Tryz.prog o a w K Q else E := by
 have hw : Region.wanted o (yielded ops a.tmps) = true := by simp [Region.wanted, hgd]
 rw [if_pos hw]
 exact wp_append_itemP s x ho y hs hown b c cs hx hc hb h1 hrd hn hbase hX h
end
end Go.Proofs.YtenmkbpdkfhbjaaGreat
namespace Go.Proofs.YtenmkbpdkfhbjaaGreat
open Go Go.RowKit

def vlL (w : World) (ok : Nat → Prop) (v : Value) (xs : List Cd.Item) : Prop := ∃ A c, v = .slice A xs.length c ∧ RdH (KI S0) 114 w ok (.slice A xs.length c) xs
structure LoopR (w : World) (R : Nat) (cv : Value) (s : ByteArray) (p : Nat → Cd.R Cd.Item) (c : UInt8) (T : Cd.R (List Cd.Item)) (k j n : Nat) (kv : Value) (xs : List Cd.Item) (W : World) : Prop where
 g : w.grownBy W (some R)
 r : RdrIs R cv s j W
 own : OwnG (KI S0) 114 W w.heap.size kv xs
 tot : Cd.cont xs (Cd.restG s.data.toList p c n j) = T
 fuel : s.data.toList.length - j < n
 pos : 0 < xs.length
 few : xs.length ≤ j + 1
 le : k ≤ j
 hR : R < w.heap.size
set_option maxRecDepth 100000 in
set_option maxHeartbeats 16000000 in
theorem lread_any (R : Nat) (cv : Value) (s : ByteArray) (p : Nat → Cd.R Cd.Item) (k : Nat) (w : World) (h : RdrIs R cv s k w) (hs : s.size ≤ 1000000)
  (hp : ∀ (j : Nat) (W : World), k ≤ j → RdrIs R cv s j W → Calls Tryz.prog 141 #[.pointer (some ⟨R, 0, none⟩)] W (RetP R cv s (VI S0) (p j) W)) (hmono : ∀ j, j ≤ (p j).pos) :
  Calls Tryz.prog 139 #[.agg #[], .pointer (some ⟨R, 0, none⟩)] w (RetP R cv s vlL (Cd.sepG s.data.toList p 45 (Cd.N s.data.toList) k) w) := by
 have HIS := Lib.hid (fun (j : Nat) (c : UInt8) (W : World) (hr : RdrIs R cv s j W) => is_any R cv s j c W hr hs)
 have HIN := Lib.hid hp
 have HMO := Lib.hid hmono
 have HQ := Lib.hid (Cd.sep_restN (s := s.data.toList) (c := 45) hmono k)
 have hRl := h.at.2.2.2.2
 obtain ⟨W1, hW1⟩ : ∃ W1, W1 = w.alloc (.cells #[] 96) := ⟨_, rfl⟩
 have hb1 : Below w.heap.size w W1 := by rw [hW1]; exact (Below.refl _ _).alloc (Nat.le_refl _) _
 have h1 : RdrIs R cv s k W1 := h.keep (hb1.block R hRl)
 have HB1 := Lib.hid hb1
 have HR1 := Lib.hid h1
 have HW1 := Lib.hid hW1
 clear h h1 hb1 hW1 hp hmono
 go_enter Tryz.func139, Tryz.ntmps139
 go_upto_region 1 with fail
 rw [← HW1.out]
 have HG := Lib.hid (HIN.out k W1 (Nat.le_refl _) HR1.out)
 unfold RetP at HG
 cases hq : p k with
 | bad jb =>
  rw [hq] at HG HQ
  clear hq
  go_wp2_with fail
  refine HG.out.mono ?_
  rintro e w2 ⟨hgw, rfl⟩
  rw [HQ.out]
  exact ⟨rfl, grown_after (grown_of_below HB1.out) hgw (.inl rfl), rfl⟩
 | ok x k1 =>
  have hm := HMO.out k
  rw [hq] at HG HQ hm
  have hk1 : k ≤ k1 := hm
  clear hq hm
  go_wp2_with fail
  refine HG.out.mono ?_
  rintro e w2 ⟨hgw, hrw, _, rfl, z, A, c, rfl, hsg, hk⟩
  have HG2 := Lib.hid (grown_after (grown_of_below HB1.out) hgw (.inl rfl) : w.grownBy w2 (some R))
  have HR2 := Lib.hid hrw
  have HRD : Hid ((KI S0).rd w2 (fun b => b < w2.heap.size ∧ w.heap.size ≤ b) (encNz x.node z ++ [.string (Cd.bs x.code), .int .i64 x.pos, .slice A x.kids.length c]) x) := Lib.hid (ki_mk hsg (hk.keep fun b hb => ⟨⟨hb.2, by have h1 : W1.heap.size ≤ b := hb.1; have := HB1.out.size; omega⟩, rfl⟩))
  clear hgw hrw hsg hk HG
  obtain ⟨w3, hw3⟩ : ∃ w3, w3 = w2.alloc (.cells #[.int .i64 x.node.kind, .int .i64 x.node.depth, .int .i64 z, .int .i64 x.node.turn, .bool x.node.mirror, .int .i64 x.node.state, .int .i64 x.node.lo, .int .i64 x.node.hi, .string (Cd.bs x.code), .int .i64 x.pos, .slice A x.kids.length c] 114) := ⟨_, rfl⟩
  have hbw : Below w2.heap.size w2 w3 := by rw [hw3]; exact (Below.refl _ _).alloc (Nat.le_refl _) _
  have hown : OwnG (KI S0) 114 w3 w.heap.size (.slice (some ⟨w2.heap.size, 0, none⟩) 1 1) [x] := by
   rw [hw3]
   exact OwnG.made (e := 114) (w := w2) (base := w.heap.size) (K := KI S0) HG2.out.size rfl HRD.out
  obtain ⟨T, hT⟩ : ∃ T, T = Cd.cont [x] (Cd.restG s.data.toList p 45 (Cd.N s.data.toList) k1) := ⟨_, rfl⟩
  have HQ3 : Hid (Cd.sepG s.data.toList p 45 (Cd.N s.data.toList) k = T) := Lib.hid (by rw [HQ.out, hT]; rfl)
  have HL3 : Hid (LoopR w R cv s p 45 T k k1 (Cd.N s.data.toList) (.slice (some ⟨w2.heap.size, 0, none⟩) 1 1) [x] w3) := Lib.hid ⟨grown_below HG2.out hbw, HR2.out.keep (hbw.block R HR2.out.at.2.2.2.2), hown, hT.symm, by unfold Cd.N; omega, by simp, by simp, hk1, hRl⟩
  have HW3 := Lib.hid hw3
  clear hw3 hbw hown hT HQ
  unfold aggI
  go_wp2_with fail
  rw [← HW3.out]
  go_loopg [5] (s.size - k1 + 1) (fun g kq wr => ∃ xs j n kv, g = s.size - j + 1 ∧ kv = kq ∧ LoopR w R cv s p 45 T k j n kv xs wr)
  case atStart => exact ⟨[x], k1, _, _, rfl, rfl, HL3.out⟩
  case round =>
   clear HL3
   obtain ⟨xs, j, n, kv, rfl, rfl, hl⟩ := hrel
   have HL := Lib.hid hl
   have HI := Lib.hid (HIS.out j 45 wr hl.r)
   clear hl
   cases hsee : Cd.sees s.data.toList j 45
   ·have HT : Hid (T = .ok xs j) := Lib.hid (by rw [← HL.out.tot]; exact Cd.rest_stop hsee)
    have HSE := Lib.hid hsee
    clear hsee
    go_wp2_with fail
    refine HI.out.mono ?_
    rintro e w5 ⟨he, hg5, hr5, hz5⟩
    rw [HSE.out] at he hr5
    subst he
    rw [if_neg Bool.false_ne_true] at hr5
    have HO5 := Lib.hid (HL.out.own.aside hg5 fun q e => by cases e; exact HL.out.hR)
    have HG5 := Lib.hid (grown_trans HL.out.g hg5)
    have HR5 := Lib.hid hr5
    clear hg5 hr5 hz5 HI
    go_wp2_with fail
    go_ret
    rw [HQ3.out, HT.out]
    obtain ⟨A9, c9, rfl⟩ := HO5.out.form
    exact ⟨HG5.out, HR5.out, _, rfl, A9, c9, rfl, HO5.out.head.keep fun b hb => ⟨⟨hb.2, hb.1⟩, rfl⟩⟩
   ·have hjs := Cd.sees_lt' hsee
    have HT := Lib.hid (fun (jb : Nat) (hp : p (j + 1) = .bad jb) => (HL.out.tot).symm.trans (Cd.rest_bad hsee HL.out.fuel hp))
    have HM := Lib.hid (fun (y : Cd.Item) (j1 : Nat) (hp : p (j + 1) = .ok y j1) (hk : j + 1 ≤ j1) => Cd.rest_more (xs := xs) hsee HL.out.fuel hp hk)
    have HSE := Lib.hid hsee
    clear hsee
    go_wp2_with fail
    refine HI.out.mono ?_
    rintro e w5 ⟨he, hg5, hr5, hz5⟩
    rw [HSE.out] at he hr5
    subst he
    rw [if_pos rfl] at hr5
    have HO5 := Lib.hid (HL.out.own.aside hg5 fun q e => by cases e; exact HL.out.hR)
    have HG5 := Lib.hid (grown_trans HL.out.g hg5)
    have HR5 := Lib.hid hr5
    have HG := Lib.hid (HIN.out (j + 1) w5 (by have := HL.out.le; omega) hr5)
    unfold RetP at HG
    have hmo := HMO.out (j + 1)
    clear hg5 hr5 hz5 HI
    cases hq : p (j + 1) with
    | bad jb =>
     rw [hq] at HG
     have HQB : Hid (Cd.sepG s.data.toList p 45 (Cd.N s.data.toList) k = .bad jb) := Lib.hid (by rw [HQ3.out, HT.out jb hq])
     clear hq hmo
     go_wp2_with fail
     refine HG.out.mono ?_
     rintro e w6 ⟨hgw, rfl⟩
     rw [HQB.out]
     exact ⟨rfl, grown_trans HG5.out hgw, rfl⟩
    | ok y j2 =>
     rw [hq] at HG hmo
     have hj2 : j + 1 ≤ j2 := hmo
     have HM2 := Lib.hid (HM.out y j2 hq hj2)
     clear hq hmo
     go_wp2_with fail
     refine HG.out.mono ?_
     rintro e w6 ⟨hgw, hrw, _, rfl, z2, A2, c2, rfl, hsg, hk⟩
     have HG6 := Lib.hid (grown_trans HG5.out hgw)
     have HR6 := Lib.hid hrw
     have HO6 := Lib.hid (HO5.out.aside hgw fun q e => by cases e; exact HL.out.hR)
     have HLT := Lib.hid (fun g (e : kv.ownBlock = some g) => (HO5.out.lt g e).2)
     have HRD : Hid ((KI S0).rd w6 (fun b => b < w6.heap.size ∧ kv.ownBlock ≠ some b ∧ w.heap.size ≤ b) (encNz y.node z2 ++ [.string (Cd.bs y.code), .int .i64 y.pos, .slice A2 y.kids.length c2]) y) := Lib.hid (ki_mk hsg (hk.keep fun b hb => ⟨⟨hb.2, fun e => by have := HLT.out b e; have h1 : w5.heap.size ≤ b := hb.1; omega, by have h1 : w5.heap.size ≤ b := hb.1; have := HG5.out.size; omega⟩, rfl⟩))
     clear hgw hrw hsg hk HG
     obtain ⟨Ak, ck, rfl⟩ := HL.out.own.form
     have hbB : Below w6.heap.size w6 (w6.alloc (.cells #[.int .i64 y.node.kind, .int .i64 y.node.depth, .int .i64 z2, .int .i64 y.node.turn, .bool y.node.mirror, .int .i64 y.node.state, .int .i64 y.node.lo, .int .i64 y.node.hi, .string (Cd.bs y.code), .int .i64 y.pos, .slice A2 y.kids.length c2] 114)) := (Below.refl _ _).alloc (Nat.le_refl _) _
     have hszB : (w6.alloc (.cells #[.int .i64 y.node.kind, .int .i64 y.node.depth, .int .i64 z2, .int .i64 y.node.turn, .bool y.node.mirror, .int .i64 y.node.state, .int .i64 y.node.lo, .int .i64 y.node.hi, .string (Cd.bs y.code), .int .i64 y.pos, .slice A2 y.kids.length c2] 114)).heap.size = w6.heap.size + 1 := by simp
     have hnew : (w6.alloc (.cells #[.int .i64 y.node.kind, .int .i64 y.node.depth, .int .i64 z2, .int .i64 y.node.turn, .bool y.node.mirror, .int .i64 y.node.state, .int .i64 y.node.lo, .int .i64 y.node.hi, .string (Cd.bs y.code), .int .i64 y.pos, .slice A2 y.kids.length c2] 114)).heap[w6.heap.size]? = some (.cells #[.int .i64 y.node.kind, .int .i64 y.node.depth, .int .i64 z2, .int .i64 y.node.turn, .bool y.node.mirror, .int .i64 y.node.state, .int .i64 y.node.lo, .int .i64 y.node.hi, .string (Cd.bs y.code), .int .i64 y.pos, .slice A2 y.kids.length c2] 114 (0, 0)) := heap_alloc_new _ _
     have HBB := Lib.hid hbB
     have HSZB := Lib.hid hszB
     have HNEW := Lib.hid hnew
     clear hbB hszB hnew
     unfold aggI
     go_wp2_with (at_builtin; refine wpList_append_item (S := S0) rfl (.tmp 11) (.tmp 14) rfl w.heap.size (.slice Ak xs.length ck) xs y rfl ?ho w6.heap.size 1 (encNz y.node z2 ++ [.string (Cd.bs y.code), .int .i64 y.pos, .slice A2 y.kids.length c2]) rfl ?hc ?hb ?h1 ?hrd ?hn ?hbase ?_)
     case ho => exact HO6.out.kept HBB.out
     case hc => decide
     case hb => exact HNEW.out
     case h1 => exact fun u hu => by (simp [encNz] at hu; rcases hu with rfl | rfl | rfl | rfl | rfl | rfl | rfl | rfl | rfl | rfl | rfl <;> rfl)
     case hrd => exact (KI S0).keep (fun b hb => ⟨⟨Nat.lt_of_lt_of_le hb.1 HBB.out.size, hb.2⟩, HBB.out.block b hb.1⟩) HRD.out
     case hn => have := HL.out.few; have := HL.out.r.le; omega
     case hbase => have := HSZB.out; have := HG6.out.size; omega
     intro v7 w7 hown7 hg7
     have HO7 := Lib.hid hown7
     have HG7 : Hid (w.grownBy w7 (some R)) := Lib.hid (grown_own (grown_below HG6.out HBB.out) hg7 fun g ho => (HO6.out.lt g ho).1)
     have HR7 : Hid (RdrIs R cv s j2 w7) := Lib.hid ((HR6.out.keep (HBB.out.block R HR6.out.at.2.2.2.2)).keep (hg7.block R (by have := HBB.out.size; have := HR6.out.at.2.2.2.2; omega) fun e => by have := (HO6.out.lt R e.symm).1; have := HL.out.hR; omega))
     clear hown7 hg7
     go_wp2_with fail
     obtain ⟨n2, hn2, hT2⟩ := HM2.out
     go_roundg (s.size - j2 + 1)
     case measure => have := HR7.out.le; simp at hjs; omega
     case rel => exact ⟨xs ++ [y], j2, n2, v7, rfl, rfl, HG7.out, HR7.out, HO7.out, by rw [← hT2]; exact HL.out.tot, hn2, by simp, by have := HL.out.few; simp; omega, by have := HL.out.le; omega, HL.out.hR⟩
set_option maxRecDepth 100000 in
set_option maxHeartbeats 16000000 in
theorem tread_any (R : Nat) (cv : Value) (s : ByteArray) (p : Nat → Cd.R Cd.Item) (k : Nat) (w : World) (h : RdrIs R cv s k w) (hs : s.size ≤ 1000000)
  (hp : ∀ (j : Nat) (W : World), k ≤ j → RdrIs R cv s j W → Calls Tryz.prog 180 #[.pointer (some ⟨R, 0, none⟩)] W (RetP R cv s (VI S0) (p j) W)) (hmono : ∀ j, j ≤ (p j).pos) :
  Calls Tryz.prog 178 #[.agg #[], .pointer (some ⟨R, 0, none⟩)] w (RetP R cv s vlL (Cd.sepG s.data.toList p 32 (Cd.N s.data.toList) k) w) := by
 have HIS := Lib.hid (fun (j : Nat) (c : UInt8) (W : World) (hr : RdrIs R cv s j W) => is_any R cv s j c W hr hs)
 have HIN := Lib.hid hp
 have HMO := Lib.hid hmono
 have HQ := Lib.hid (Cd.sep_restN (s := s.data.toList) (c := 32) hmono k)
 have hRl := h.at.2.2.2.2
 obtain ⟨W1, hW1⟩ : ∃ W1, W1 = w.alloc (.cells #[] 97) := ⟨_, rfl⟩
 have hb1 : Below w.heap.size w W1 := by rw [hW1]; exact (Below.refl _ _).alloc (Nat.le_refl _) _
 have h1 : RdrIs R cv s k W1 := h.keep (hb1.block R hRl)
 have HB1 := Lib.hid hb1
 have HR1 := Lib.hid h1
 have HW1 := Lib.hid hW1
 clear h h1 hb1 hW1 hp hmono
 go_enter Tryz.func178, Tryz.ntmps178
 go_upto_region 1 with fail
 rw [← HW1.out]
 have HG := Lib.hid (HIN.out k W1 (Nat.le_refl _) HR1.out)
 unfold RetP at HG
 cases hq : p k with
 | bad jb =>
  rw [hq] at HG HQ
  clear hq
  go_wp2_with fail
  refine HG.out.mono ?_
  rintro e w2 ⟨hgw, rfl⟩
  rw [HQ.out]
  exact ⟨rfl, grown_after (grown_of_below HB1.out) hgw (.inl rfl), rfl⟩
 | ok x k1 =>
  have hm := HMO.out k
  rw [hq] at HG HQ hm
  have hk1 : k ≤ k1 := hm
  clear hq hm
  go_wp2_with fail
  refine HG.out.mono ?_
  rintro e w2 ⟨hgw, hrw, _, rfl, z, A, c, rfl, hsg, hk⟩
  have HG2 := Lib.hid (grown_after (grown_of_below HB1.out) hgw (.inl rfl) : w.grownBy w2 (some R))
  have HR2 := Lib.hid hrw
  have HRD : Hid ((KI S0).rd w2 (fun b => b < w2.heap.size ∧ w.heap.size ≤ b) (encNz x.node z ++ [.string (Cd.bs x.code), .int .i64 x.pos, .slice A x.kids.length c]) x) := Lib.hid (ki_mk hsg (hk.keep fun b hb => ⟨⟨hb.2, by have h1 : W1.heap.size ≤ b := hb.1; have := HB1.out.size; omega⟩, rfl⟩))
  clear hgw hrw hsg hk HG
  obtain ⟨w3, hw3⟩ : ∃ w3, w3 = w2.alloc (.cells #[.int .i64 x.node.kind, .int .i64 x.node.depth, .int .i64 z, .int .i64 x.node.turn, .bool x.node.mirror, .int .i64 x.node.state, .int .i64 x.node.lo, .int .i64 x.node.hi, .string (Cd.bs x.code), .int .i64 x.pos, .slice A x.kids.length c] 114) := ⟨_, rfl⟩
  have hbw : Below w2.heap.size w2 w3 := by rw [hw3]; exact (Below.refl _ _).alloc (Nat.le_refl _) _
  have hown : OwnG (KI S0) 114 w3 w.heap.size (.slice (some ⟨w2.heap.size, 0, none⟩) 1 1) [x] := by
   rw [hw3]
   exact OwnG.made (e := 114) (w := w2) (base := w.heap.size) (K := KI S0) HG2.out.size rfl HRD.out
  obtain ⟨T, hT⟩ : ∃ T, T = Cd.cont [x] (Cd.restG s.data.toList p 32 (Cd.N s.data.toList) k1) := ⟨_, rfl⟩
  have HQ3 : Hid (Cd.sepG s.data.toList p 32 (Cd.N s.data.toList) k = T) := Lib.hid (by rw [HQ.out, hT]; rfl)
  have HL3 : Hid (LoopR w R cv s p 32 T k k1 (Cd.N s.data.toList) (.slice (some ⟨w2.heap.size, 0, none⟩) 1 1) [x] w3) := Lib.hid ⟨grown_below HG2.out hbw, HR2.out.keep (hbw.block R HR2.out.at.2.2.2.2), hown, hT.symm, by unfold Cd.N; omega, by simp, by simp, hk1, hRl⟩
  have HW3 := Lib.hid hw3
  clear hw3 hbw hown hT HQ
  unfold aggI
  go_wp2_with fail
  rw [← HW3.out]
  go_loopg [5] (s.size - k1 + 1) (fun g kq wr => ∃ xs j n kv, g = s.size - j + 1 ∧ kv = kq ∧ LoopR w R cv s p 32 T k j n kv xs wr)
  case atStart => exact ⟨[x], k1, _, _, rfl, rfl, HL3.out⟩
  case round =>
   clear HL3
   obtain ⟨xs, j, n, kv, rfl, rfl, hl⟩ := hrel
   have HL := Lib.hid hl
   have HI := Lib.hid (HIS.out j 32 wr hl.r)
   clear hl
   cases hsee : Cd.sees s.data.toList j 32
   ·have HT : Hid (T = .ok xs j) := Lib.hid (by rw [← HL.out.tot]; exact Cd.rest_stop hsee)
    have HSE := Lib.hid hsee
    clear hsee
    go_wp2_with fail
    refine HI.out.mono ?_
    rintro e w5 ⟨he, hg5, hr5, hz5⟩
    rw [HSE.out] at he hr5
    subst he
    rw [if_neg Bool.false_ne_true] at hr5
    have HO5 := Lib.hid (HL.out.own.aside hg5 fun q e => by cases e; exact HL.out.hR)
    have HG5 := Lib.hid (grown_trans HL.out.g hg5)
    have HR5 := Lib.hid hr5
    clear hg5 hr5 hz5 HI
    go_wp2_with fail
    go_ret
    rw [HQ3.out, HT.out]
    obtain ⟨A9, c9, rfl⟩ := HO5.out.form
    exact ⟨HG5.out, HR5.out, _, rfl, A9, c9, rfl, HO5.out.head.keep fun b hb => ⟨⟨hb.2, hb.1⟩, rfl⟩⟩
   ·have hjs := Cd.sees_lt' hsee
    have HT := Lib.hid (fun (jb : Nat) (hp : p (j + 1) = .bad jb) => (HL.out.tot).symm.trans (Cd.rest_bad hsee HL.out.fuel hp))
    have HM := Lib.hid (fun (y : Cd.Item) (j1 : Nat) (hp : p (j + 1) = .ok y j1) (hk : j + 1 ≤ j1) => Cd.rest_more (xs := xs) hsee HL.out.fuel hp hk)
    have HSE := Lib.hid hsee
    clear hsee
    go_wp2_with fail
    refine HI.out.mono ?_
    rintro e w5 ⟨he, hg5, hr5, hz5⟩
    rw [HSE.out] at he hr5
    subst he
    rw [if_pos rfl] at hr5
    have HO5 := Lib.hid (HL.out.own.aside hg5 fun q e => by cases e; exact HL.out.hR)
    have HG5 := Lib.hid (grown_trans HL.out.g hg5)
    have HR5 := Lib.hid hr5
    have HG := Lib.hid (HIN.out (j + 1) w5 (by have := HL.out.le; omega) hr5)
    unfold RetP at HG
    have hmo := HMO.out (j + 1)
    clear hg5 hr5 hz5 HI
    cases hq : p (j + 1) with
    | bad jb =>
     rw [hq] at HG
     have HQB : Hid (Cd.sepG s.data.toList p 32 (Cd.N s.data.toList) k = .bad jb) := Lib.hid (by rw [HQ3.out, HT.out jb hq])
     clear hq hmo
     go_wp2_with fail
     refine HG.out.mono ?_
     rintro e w6 ⟨hgw, rfl⟩
     rw [HQB.out]
     exact ⟨rfl, grown_trans HG5.out hgw, rfl⟩
    | ok y j2 =>
     rw [hq] at HG hmo
     have hj2 : j + 1 ≤ j2 := hmo
     have HM2 := Lib.hid (HM.out y j2 hq hj2)
     clear hq hmo
     go_wp2_with fail
     refine HG.out.mono ?_
     rintro e w6 ⟨hgw, hrw, _, rfl, z2, A2, c2, rfl, hsg, hk⟩
     have HG6 := Lib.hid (grown_trans HG5.out hgw)
     have HR6 := Lib.hid hrw
     have HO6 := Lib.hid (HO5.out.aside hgw fun q e => by cases e; exact HL.out.hR)
     have HLT := Lib.hid (fun g (e : kv.ownBlock = some g) => (HO5.out.lt g e).2)
     have HRD : Hid ((KI S0).rd w6 (fun b => b < w6.heap.size ∧ kv.ownBlock ≠ some b ∧ w.heap.size ≤ b) (encNz y.node z2 ++ [.string (Cd.bs y.code), .int .i64 y.pos, .slice A2 y.kids.length c2]) y) := Lib.hid (ki_mk hsg (hk.keep fun b hb => ⟨⟨hb.2, fun e => by have := HLT.out b e; have h1 : w5.heap.size ≤ b := hb.1; omega, by have h1 : w5.heap.size ≤ b := hb.1; have := HG5.out.size; omega⟩, rfl⟩))
     clear hgw hrw hsg hk HG
     obtain ⟨Ak, ck, rfl⟩ := HL.out.own.form
     have hbB : Below w6.heap.size w6 (w6.alloc (.cells #[.int .i64 y.node.kind, .int .i64 y.node.depth, .int .i64 z2, .int .i64 y.node.turn, .bool y.node.mirror, .int .i64 y.node.state, .int .i64 y.node.lo, .int .i64 y.node.hi, .string (Cd.bs y.code), .int .i64 y.pos, .slice A2 y.kids.length c2] 114)) := (Below.refl _ _).alloc (Nat.le_refl _) _
     have hszB : (w6.alloc (.cells #[.int .i64 y.node.kind, .int .i64 y.node.depth, .int .i64 z2, .int .i64 y.node.turn, .bool y.node.mirror, .int .i64 y.node.state, .int .i64 y.node.lo, .int .i64 y.node.hi, .string (Cd.bs y.code), .int .i64 y.pos, .slice A2 y.kids.length c2] 114)).heap.size = w6.heap.size + 1 := by simp
     have hnew : (w6.alloc (.cells #[.int .i64 y.node.kind, .int .i64 y.node.depth, .int .i64 z2, .int .i64 y.node.turn, .bool y.node.mirror, .int .i64 y.node.state, .int .i64 y.node.lo, .int .i64 y.node.hi, .string (Cd.bs y.code), .int .i64 y.pos, .slice A2 y.kids.length c2] 114)).heap[w6.heap.size]? = some (.cells #[.int .i64 y.node.kind, .int .i64 y.node.depth, .int .i64 z2, .int .i64 y.node.turn, .bool y.node.mirror, .int .i64 y.node.state, .int .i64 y.node.lo, .int .i64 y.node.hi, .string (Cd.bs y.code), .int .i64 y.pos, .slice A2 y.kids.length c2] 114 (0, 0)) := heap_alloc_new _ _
     have HBB := Lib.hid hbB
     have HSZB := Lib.hid hszB
     have HNEW := Lib.hid hnew
     clear hbB hszB hnew
     unfold aggI
     go_wp2_with (at_builtin; refine wpList_append_item (S := S0) rfl (.tmp 11) (.tmp 14) rfl w.heap.size (.slice Ak xs.length ck) xs y rfl ?ho w6.heap.size 1 (encNz y.node z2 ++ [.string (Cd.bs y.code), .int .i64 y.pos, .slice A2 y.kids.length c2]) rfl ?hc ?hb ?h1 ?hrd ?hn ?hbase ?_)
     case ho => exact HO6.out.kept HBB.out
     case hc => decide
     case hb => exact HNEW.out
     case h1 => exact fun u hu => by (simp [encNz] at hu; rcases hu with rfl | rfl | rfl | rfl | rfl | rfl | rfl | rfl | rfl | rfl | rfl <;> rfl)
     case hrd => exact (KI S0).keep (fun b hb => ⟨⟨Nat.lt_of_lt_of_le hb.1 HBB.out.size, hb.2⟩, HBB.out.block b hb.1⟩) HRD.out
     case hn => have := HL.out.few; have := HL.out.r.le; omega
     case hbase => have := HSZB.out; have := HG6.out.size; omega
     intro v7 w7 hown7 hg7
     have HO7 := Lib.hid hown7
     have HG7 : Hid (w.grownBy w7 (some R)) := Lib.hid (grown_own (grown_below HG6.out HBB.out) hg7 fun g ho => (HO6.out.lt g ho).1)
     have HR7 : Hid (RdrIs R cv s j2 w7) := Lib.hid ((HR6.out.keep (HBB.out.block R HR6.out.at.2.2.2.2)).keep (hg7.block R (by have := HBB.out.size; have := HR6.out.at.2.2.2.2; omega) fun e => by have := (HO6.out.lt R e.symm).1; have := HL.out.hR; omega))
     clear hown7 hg7
     go_wp2_with fail
     obtain ⟨n2, hn2, hT2⟩ := HM2.out
     go_roundg (s.size - j2 + 1)
     case measure => have := HR7.out.le; simp at hjs; omega
     case rel => exact ⟨xs ++ [y], j2, n2, v7, rfl, rfl, HG7.out, HR7.out, HO7.out, by rw [← hT2]; exact HL.out.tot, hn2, by simp, by have := HL.out.few; simp; omega, by have := HL.out.le; omega, HL.out.hR⟩
end Go.Proofs.YtenmkbpdkfhbjaaGreat
