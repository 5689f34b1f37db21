/- The document's reader: a whole text. -/
import Derived.Test.YtenmkbpdkfhbjaaGreatRcCGrow
import Derived.Test.YtenmkbpdkfhbjaaGreatRcR3Tree
import Derived.Test.YtenmkbpdkfhbjaaGreatRcTxFam
namespace Go.Proofs.YtenmkbpdkfhbjaaGreat
open Go Go.RowKit

theorem results_text {tmps : Array Value} {w : World} {g : Nat} {u v3 : Value} (hp : tmps.getD 2 undef = .pointer (some ⟨g, 0, none⟩)) (h3 : tmps.getD 3 undef = v3) (hg : w.heap[g]? = some (.cells #[u] 27 (0, 0))) :
  (results Tryz.f44 tmps).run Tryz.prog w = .ok (.tuple #[.agg #[u], v3]) w := by
 have hp' : tmps[2]?.getD undef = .pointer (some ⟨g, 0, none⟩) := by simpa using hp
 have h3' : tmps[3]?.getD undef = v3 := by simpa using h3
 have hl : w.cell? ⟨g, 0, none⟩ = some u := bx_cell hg
 simp only [results, show Tryz.f44.results = #[.cell 2 27, .tmp 3] from rfl]
 simp [hp', h3', asAddr, hl, go_sem, Sem.run_bind, Result.andThen]
def RetT3 (R : Nat) (L : Sg.SList) (As : Option Addr) (cs : Nat) (s : ByteArray) (kind u : Int) (q : Cd.R (List Cd.Item)) (w : World) (e : Ending) (w' : World) : Prop :=
 w.grownBy w' (some R) ∧ match q with
  | .bad k => ∃ u', e = .returned (.tuple #[.agg #[.slice none 0 0], .bool false]) ∧ R3Is R L As cs s kind k u' w'
  | .ok xs k => ∃ A c, e = .returned (.tuple #[.agg #[.slice A (Cd.nodL L xs).length c], .bool true]) ∧ R3Is R L As cs s kind k (Cd.unkF L u (Cd.codesL xs)) w' ∧ w'.ownsRow w.heap.size 59 8 (.slice A (Cd.nodL L xs).length c) (Cd.nodL L xs).length ((Cd.nodL L xs).flatMap encN)
structure T3 (w : World) (R : Nat) (L : Sg.SList) (As : Option Addr) (cs : Nat) (s : ByteArray) (kind u : Int) (j : Nat) (v : Value) (xs : List Cd.Item) (W : World) : Prop where
 g : w.grownBy W (some R)
 r : R3Is R L As cs s kind j (Cd.unkF L u (Cd.codesL xs)) W
 z : W.heap[w.heap.size]? = some (.cells #[.slice none 0 0] 27 (0, 0))
 x : W.heap[w.heap.size + 1]? = some (.cells #[v] 27 (0, 0))
 own : W.ownsRow (w.heap.size + 2) 59 8 v (Cd.nodL L xs).length ((Cd.nodL L xs).flatMap encN)
 hR : R < w.heap.size
 sz : Cd.sizeL xs ≤ j
theorem own_past {W W' : World} {base n R size : Nat} {e : TypeId} {v : Value} {xs : List Value} (h : W.ownsRow base e size v n xs) (hg : W.grownBy W' (some R)) (hR : R < base) : W'.ownsRow base e size v n xs := by
 refine h.kept hg ?_
 rcases h.2 with ⟨rfl, _⟩ | ⟨g, cap, cur, rfl, hg', _⟩
 ·exact .inl rfl
 ·refine .inr fun e => ?_
  have e2 : g = R := by simpa [Value.ownBlock] using e
  omega
section
variable {w W W' : World} {R : Nat} {L : Sg.SList} {As : Option Addr} {cs : Nat} {s : ByteArray} {kind u u' : Int} {j j' : Nat} {v : Value} {xs : List Cd.Item}
theorem T3.call (h : T3 w R L As cs s kind u j v xs W) (hg : W.grownBy W' (some R)) (hr : R3Is R L As cs s kind j' (Cd.unkF L u (Cd.codesL xs)) W') (hj : j ≤ j') : T3 w R L As cs s kind u j' v xs W' :=
 ⟨grown_trans h.g hg, hr, (hg.block _ (lt_of_some h.z) fun e => by have := h.hR; cases e; omega).trans h.z, (hg.block _ (lt_of_some h.x) fun e => by have := h.hR; cases e; omega).trans h.x, own_past h.own hg (by have := h.hR; omega), h.hR, Nat.le_trans h.sz hj⟩
theorem T3.form (h : T3 w R L As cs s kind u j v xs W) : ∃ A c, v = .slice A (Cd.nodL L xs).length c := own_form h.own
theorem T3.few (h : T3 w R L As cs s kind u j v xs W) (hs : s.size ≤ 1000000) : (Cd.nodL L xs).length ≤ 1000000 := by
 have h1 := h.sz
 have h3 := h.r.le
 rw [Cd.nod_len]
 omega
theorem T3.pre {W1 : World} {A : Option Addr} {n c : Nat} {ys : List Tx.Node} (h : T3 w R L As cs s kind u j v xs W) (hg : W.grownBy W1 (some R)) (hx : RdX W1 (okF W W1) 8 encN (.slice A n c) ys) :
  W1.heap[w.heap.size]? = some (.cells #[.slice none 0 0] 27 (0, 0)) ∧ W1.heap[w.heap.size + 1]? = some (.cells #[v] 27 (0, 0)) ∧ W1.ownsRow (w.heap.size + 2) 59 8 v (Cd.nodL L xs).length ((Cd.nodL L xs).flatMap encN) ∧ RdS W1 W1.heap.size 8 encN (.slice A n c) ys ∧ w.heap.size + 2 ≤ W1.heap.size ∧
   ∀ W2, W1.grownBy W2 v.ownBlock → W2.heap[w.heap.size + 1]? = some (.cells #[v] 27 (0, 0)) := by
 have hR := h.hR
 have hk : ∀ q, v.ownBlock = some q → w.heap.size + 2 ≤ q ∧ q < W.heap.size := fun q e => h.own.lt q e
 have hz1 := (hg.block _ (lt_of_some h.z) fun e => by cases e; omega).trans h.z
 have hx1 := (hg.block _ (lt_of_some h.x) fun e => by cases e; omega).trans h.x
 refine ⟨hz1, hx1, own_past h.own hg (by omega), hx.to fun b hb => hb.2, by have := lt_of_some hx1; omega, fun W2 hg2 => ?_⟩
 exact (hg2.block _ (lt_of_some hx1) fun e => by have := (hk _ e.symm).1; omega).trans hx1
theorem T3.more {y : Cd.Item} {v' : Value} {W1 W2 : World} (h : T3 w R L As cs s kind u j v xs W) (hg : W.grownBy W1 (some R)) (hr : R3Is R L As cs s kind j' (Cd.unkF L (Cd.unkF L u (Cd.codesL xs)) (Cd.codesI y)) W1) (hs : Cd.sizeI y + j ≤ j')
  (hown : W2.ownsRow (w.heap.size + 2) 59 8 v' ((Cd.nodL L xs).length + (Cd.nodI L y).length) ((Cd.nodL L xs).flatMap encN ++ (Cd.nodI L y).flatMap encN)) (hg2 : W1.grownBy W2 v.ownBlock) : T3 w R L As cs s kind u j' v' (xs ++ [y]) (W2.setCell ⟨w.heap.size + 1, 0, none⟩ v') := by
 have hR := h.hR
 have h1 : T3 w R L As cs s kind u j v xs W1 ∨ True := .inr trivial
 have hk : ∀ q, v.ownBlock = some q → w.heap.size + 2 ≤ q ∧ q < W.heap.size := fun q e => h.own.lt q e
 have hz1 := (hg.block _ (lt_of_some h.z) fun e => by cases e; omega).trans h.z
 have hx1 := (hg.block _ (lt_of_some h.x) fun e => by cases e; omega).trans h.x
 have hz2 := (hg2.block _ (lt_of_some hz1) fun e => by have := (hk _ e.symm).1; omega).trans hz1
 have hx2 := (hg2.block _ (lt_of_some hx1) fun e => by have := (hk _ e.symm).1; omega).trans hx1
 have hr2 := hr.keep (hg2.block R hr.lt fun e => by have := (hk _ e.symm).1; omega)
 have hgw : w.grownBy W2 (some R) := by
  cases e : v.ownBlock with
  | none =>
   rw [e] at hg2
   exact grown_trans (grown_trans h.g hg) ⟨hg2.os, hg2.tape, hg2.output, hg2.size, fun i hi _ => hg2.block i hi (by simp)⟩
  | some q =>
   rw [e] at hg2
   exact grown_after (grown_trans h.g hg) hg2 (.inr ⟨q, rfl, by have := (hk q e).1; omega⟩)
 refine ⟨grown_after hgw (grown_set _ _ _ _) (.inr ⟨w.heap.size + 1, rfl, by omega⟩), ?_, ?_, ?_, ?_, hR, ?_⟩
 ·rw [Cd.codes_snoc, Cd.unk_append]
  exact hr2.keep (Below.heap_setCell _ ⟨w.heap.size + 1, 0, none⟩ _ _ (by show R ≠ w.heap.size + 1; omega))
 ·rw [Below.heap_setCell _ ⟨w.heap.size + 1, 0, none⟩ _ _ (by show w.heap.size ≠ w.heap.size + 1; omega)]
  exact hz2
 ·exact bx_set hx2
 ·rw [Cd.nod_snoc, List.length_append, List.flatMap_append]
  exact ownsRow_setCell_below hown (by show w.heap.size + 1 < w.heap.size + 2; omega) _
 ·rw [Cd.size_snoc]
  have := h.sz
  omega
theorem retT_bad {q : Cd.R (List Cd.Item)} {k : Nat} (hg : w.grownBy W (some R)) (hz : W.heap[w.heap.size]? = some (.cells #[.slice none 0 0] 27 (0, 0))) (hR : R < w.heap.size) (hr : R3Is R L As cs s kind k u' W) (hq : q = .bad k) :
  (W.setCell ⟨w.heap.size, 0, none⟩ (.slice none 0 0)).heap[w.heap.size]? = some (.cells #[.slice none 0 0] 27 (0, 0)) ∧ RetT3 R L As cs s kind u q w (.returned (.tuple #[.agg #[.slice none 0 0], .bool false])) (W.setCell ⟨w.heap.size, 0, none⟩ (.slice none 0 0)) := by
 subst hq
 exact ⟨bx_set hz, grown_after hg (grown_set _ _ _ _) (.inr ⟨w.heap.size, rfl, Nat.le_refl _⟩), u', rfl, hr.keep (Below.heap_setCell _ ⟨w.heap.size, 0, none⟩ _ _ (by show R ≠ w.heap.size; omega))⟩
theorem T3.done {q : Cd.R (List Cd.Item)} {A : Option Addr} {c : Nat} (h : T3 w R L As cs s kind u j (.slice A (Cd.nodL L xs).length c) xs W) (hq : q = .ok xs j) :
  (W.setCell ⟨w.heap.size, 0, none⟩ (.slice A (Cd.nodL L xs).length c)).heap[w.heap.size]? = some (.cells #[.slice A (Cd.nodL L xs).length c] 27 (0, 0)) ∧ RetT3 R L As cs s kind u q w (.returned (.tuple #[.agg #[.slice A (Cd.nodL L xs).length c], .bool true])) (W.setCell ⟨w.heap.size, 0, none⟩ (.slice A (Cd.nodL L xs).length c)) := by
 subst hq
 have hR := h.hR
 have ho := ownsRow_setCell_below h.own (a := ⟨w.heap.size, 0, none⟩) (by show w.heap.size < w.heap.size + 2; omega) (.slice A (Cd.nodL L xs).length c)
 refine ⟨bx_set h.z, grown_after h.g (grown_set _ _ _ _) (.inr ⟨w.heap.size, rfl, Nat.le_refl _⟩), A, c, rfl, h.r.keep (Below.heap_setCell _ ⟨w.heap.size, 0, none⟩ _ _ (by show R ≠ w.heap.size; omega)), ?_⟩
 exact ho.mono (Nat.le_add_right _ 2)
end
set_option maxRecDepth 100000 in
set_option maxHeartbeats 16000000 in
theorem text3_line (R : Nat) (L : Sg.SList) (As : Option Addr) (cs : Nat) (s : ByteArray) (u : Int) (w : World) (h : R3Is R L As cs s 1 0 u w) (hs : s.size ≤ 1000000) (hv : Sg.checkV L = 0) (hl : LR w R L As cs) :
  Calls Tryz.prog 44 #[.pointer (some ⟨R, 0, none⟩)] w (RetT3 R L As cs s 1 u (Cd.parseG s.data.toList 1) w) := by
 have HTK := Lib.hid (fun (j : Nat) (u : Int) (c : UInt8) (W : World) (hr : R3Is R L As cs s 1 j u W) => takes3_any R L As cs s 1 j u c W hr hs)
 have HRl := Lib.hid h.lt
 obtain ⟨p, hp⟩ : ∃ p, p = Cd.groupG s.data.toList := ⟨_, rfl⟩
 have HOV : Hid (∀ (j : Nat) (u : Int) (W : World), w.grownBy W (some R) → R3Is R L As cs s 1 j u W → Calls Tryz.prog 66 #[.pointer (some ⟨R, 0, none⟩)] W (RetR R L As cs s 1 u (p j) W)) := Lib.hid fun j u' W hg hr => by
  rw [hp]
  exact group3_any R L As cs s 1 rfl j u' W hr hs hv (hl.go hg)
 have HMO : Hid (∀ j, j ≤ (p j).pos) := Lib.hid fun j => by rw [hp]; exact Cd.group_mono j
 have HSZ : Hid (∀ j, Cd.Sz j (p j)) := Lib.hid fun j => by rw [hp]; exact Cd.sz_group j
 obtain ⟨T, hT⟩ : ∃ T, T = Cd.sepG s.data.toList p 45 (Cd.N s.data.toList) 0 := ⟨_, rfl⟩
 have HQ : Hid (Cd.parseG s.data.toList 1 = if s.data.toList = [] then .ok [] 0 else T.bind fun xs k => if k < s.data.toList.length then .bad k else .ok xs k) := Lib.hid (by
  rw [hT, hp]
  rfl)
 have hsl : s.data.toList.length = s.size := by simp
 obtain ⟨i1, hi1, hz1, hs1, hb1⟩ := info_parts info_Node
 obtain ⟨Z, hZ⟩ : ∃ Z, Z = w.heap.size := ⟨_, rfl⟩
 have HZ := Lib.hid hZ
 obtain ⟨w1, hw1⟩ : ∃ w1, w1 = (w.alloc (.cells #[.slice none 0 0] 27)).alloc (.cells #[.slice none 0 0] 27) := ⟨_, rfl⟩
 have hbl : Below w.heap.size w w1 := by rw [hw1]; exact ((Below.refl _ _).alloc (Nat.le_refl _) _).alloc (by simp) _
 have HT1 : Hid (T3 w R L As cs s 1 u 0 (.slice none 0 0) [] w1) := Lib.hid ⟨grown_of_below hbl, by rw [show Cd.codesL [] = [] by rw [Cd.codesL]]; exact h.below hbl, by rw [hw1]; exact heap_alloc2_old _ _ _, by rw [hw1]; exact heap_alloc2_new _ _ _, by rw [Cd.nod_nil]; exact World.ownsRow_nil _ _ _ _, h.lt, by rw [Cd.sizeL]; exact Nat.le_refl _⟩
 have HW1 := Lib.hid hw1
 have HTT := Lib.hid hT
 have HSL := Lib.hid hsl
 clear h hl hp hT hw1 hbl hZ hsl
 go_enter Tryz.func44, Tryz.ntmps44
 go_upto_block 0 with fail
 rw [← HW1.out, ← HZ.out]
 clear HW1
 go_wp2_with fail
 go_loopg [5] (s.size + 1) (fun g _ wr => ∃ v xs j n, g = s.size + 1 - j ∧ j ≤ s.size ∧ (s.data.toList = [] → xs = [] ∧ j = 0) ∧ T3 w R L As cs s 1 u j v xs wr ∧ (s.data.toList ≠ [] → Cd.cont xs (Cd.sepG s.data.toList p 45 n j) = T ∧ s.data.toList.length - j < n))
 case atStart => exact ⟨_, [], 0, Cd.N s.data.toList, rfl, Nat.zero_le _, fun _ => ⟨rfl, rfl⟩, HT1.out, fun _ => ⟨by rw [HTT.out]; cases Cd.sepG s.data.toList p 45 (Cd.N s.data.toList) 0 <;> rfl, by unfold Cd.N; omega⟩⟩
 case round =>
  clear HT1
  obtain ⟨v, xs, j, n, rfl, hjs, hemp, ht, htot⟩ := hrel
  obtain ⟨At, ct, rfl⟩ := ht.form
  have HT3 := Lib.hid ht
  have htx := ht.x
  have htz := ht.z
  rw [← HZ.out] at htx htz
  have x0 := bx_cell htx
  have y0 := bx_free htz
  have z0 := bx_cell htz
  have y1 := bx_free htx
  obtain ⟨-, -, c2, c3, c4, -, -, -, -⟩ := ht.r.at
  have HEMP := Lib.hid hemp
  have HTOT := Lib.hid htot
  clear ht htx htz hemp htot
  by_cases hse : s.data.toList = []
  ·have hE : s.toList.isEmpty = true := by rw [Go.Lib.toList_data, hse]; rfl
   obtain ⟨rfl, rfl⟩ := HEMP.out hse
   have HRES := Lib.hid (T3.done (q := Cd.parseG s.data.toList 1) HT3.out (by rw [HQ.out, if_pos hse]))
   rw [← HZ.out] at HRES
   clear hse
   go_wp2_with fail
   refine bodyPost_ret (results_text rfl rfl HRES.out.1) rfl HRES.out.2
  have hE : s.toList.isEmpty = false := by
   rw [Go.Lib.toList_data]
   cases hc : s.data.toList with
   | nil => exact absurd hc hse
   | cons a l => rfl
  have HQ2 : Hid (Cd.parseG s.data.toList 1 = T.bind fun xs k => if k < s.data.toList.length then .bad k else .ok xs k) := Lib.hid (by rw [HQ.out, if_neg hse])
  have HNE := Lib.hid hse
  obtain ⟨htot, hfuel⟩ := HTOT.out hse
  have hn0 : 0 < n := by omega
  have HTB := Lib.hid (fun (jb : Nat) (hp : p j = .bad jb) => htot.symm.trans (Cd.sepl_bad (xs := xs) hn0 hp))
  have HTS := Lib.hid (fun (y : Cd.Item) (j1 : Nat) (hp : p j = .ok y j1) (hq : Cd.sees s.data.toList j1 45 = false) => htot.symm.trans (Cd.sepl_stop (xs := xs) hn0 hp hq))
  have HTM := Lib.hid (fun (y : Cd.Item) (j1 : Nat) (hp : p j = .ok y j1) (hk : j ≤ j1) (hq : Cd.sees s.data.toList j1 45 = true) => Cd.sepl_more (xs := xs) hfuel hp hk hq)
  have HTOT2 := Lib.hid htot
  have HG := Lib.hid (HOV.out j _ wr HT3.out.g HT3.out.r)
  unfold RetR at HG
  have hmo := HMO.out j
  have hzo := HSZ.out j
  clear htot hfuel hn0 hse
  cases hq : p j with
  | bad jb =>
   rw [hq] at HG
   have HTT := Lib.hid (HTB.out jb hq)
   have HQB : Hid (Cd.parseG s.data.toList 1 = .bad jb) := Lib.hid (by rw [HQ2.out, HTT.out]; rfl)
   clear hq hmo hzo
   go_wp2_with fail
   refine HG.out.mono ?_
   rintro e w6 ⟨hg6, A6, n6, c6, u6, rfl, hr6⟩
   have hz6 := (hg6.block _ (lt_of_some HT3.out.z) fun e => by have := HRl.out; cases e; omega).trans HT3.out.z
   have HRES := Lib.hid (retT_bad (u := u) (grown_trans HT3.out.g hg6) hz6 HRl.out hr6 HQB.out)
   rw [← HZ.out] at HRES hz6
   have y0 := bx_free hz6
   have z0 := bx_cell hz6
   clear hg6 hr6 hz6
   go_wp2_with fail
   refine bodyPost_ret (results_text rfl rfl HRES.out.1) rfl HRES.out.2
  | ok y j2 =>
   rw [hq] at HG hmo hzo
   have hj2 : j ≤ j2 := hmo
   have hzy : Cd.sizeI y + j ≤ j2 := hzo.1
   have HPY := Lib.hid hq
   clear hq hmo hzo
   go_wp2_with fail
   refine HG.out.mono ?_
   rintro e w6 ⟨hg6, A6, c6, rfl, hr6, hx6⟩
   have HPRE := Lib.hid (HT3.out.pre hg6 hx6)
   have HG6 := Lib.hid hg6
   have HR6 := Lib.hid hr6
   have hj2s : j2 ≤ s.size := hr6.le
   have hyl : (Cd.nodI L y).length ≤ 1000000 := by
    have h1 := Cd.nod_len L [y]
    rw [Cd.nod_cons, Cd.nod_nil, List.append_nil, Cd.sizeL, Cd.sizeL] at h1
    omega
   have hFl := HT3.out.few hs
   obtain ⟨F, hF⟩ : ∃ F, F = Cd.nodL L xs := ⟨_, rfl⟩
   obtain ⟨Y, hY⟩ : ∃ Y, Y = Cd.nodI L y := ⟨_, rfl⟩
   have HMORE : Hid (∀ (v' : Value) (W2 : World), W2.ownsRow (w.heap.size + 2) 59 8 v' (F.length + Y.length) (F.flatMap encN ++ Y.flatMap encN) → w6.grownBy W2 (Value.slice At F.length ct).ownBlock → T3 w R L As cs s 1 u j2 v' (xs ++ [y]) (W2.setCell ⟨w.heap.size + 1, 0, none⟩ v')) := Lib.hid fun v' W2 q1 q2 => by
    rw [hF] at q1 q2
    rw [hY] at q1
    exact HT3.out.more hg6 hr6 hzy q1 q2
   rw [← hF] at hFl HPRE
   rw [← hY] at hyl HPRE ⊢
   obtain ⟨hpz, hpx, hpo, hps, hpb, hpk⟩ := HPRE.out
   rw [← HZ.out] at hpx hpz
   have x0 := bx_cell hpx
   have y1 := bx_free hpx
   have HPO := Lib.hid hpo
   have HPS := Lib.hid hps
   have HPB := Lib.hid hpb
   have HPK := Lib.hid hpk
   have hm1 : F.length + Y.length ≤ maxLen := by simp [maxLen]; omega
   have hm2 : (F.length + Y.length) * 64 ≤ 140737488355328 := by omega
   have HM1 := Lib.hid hm1
   have HM2 := Lib.hid hm2
   clear hg6 hr6 hx6 hF hY hpz hpx hpo hps hpb hpk hm1 hm2 HPRE c2 c3 c4 y0 z0
   go_wp2_with (at_builtin; (refine wpList_append_rd (enc := encN) rfl (.tmp 32) (.tmp 33) _ rfl (w.heap.size + 2) 59 i1 _ 8 64 len_node one_node Tryz.underlying25 hi1 hz1 hs1 hb1 rfl (by decide) (.slice At F.length ct) F.length (F.flatMap encN) rfl HPO.out _ (.slice A6 Y.length c6) Y rfl HPS.out HM1.out HM2.out HPB.out ?_))
   intro v8 w8 hown8 hg8 hat8
   have HT9 := Lib.hid (HMORE.out v8 w8 hown8 hg8)
   have hx8 := HPK.out w8 hg8
   rw [← HZ.out] at hx8 HT9
   have x0 := bx_cell hx8
   have y1 := bx_free hx8
   obtain ⟨Av, cv, hv8⟩ := HT9.out.form
   subst hv8
   obtain ⟨w9, hw9⟩ : ∃ w9, w9 = w8.setCell ⟨Z + 1, 0, none⟩ (.slice Av (Cd.nodL L (xs ++ [y])).length cv) := ⟨_, rfl⟩
   rw [← hw9] at HT9
   have HW9 := Lib.hid hw9
   clear hown8 hg8 hat8 hx8 hw9
   go_upto_region 11 with fail
   rw [← HW9.out]
   obtain ⟨ys, hys⟩ : ∃ ys, ys = xs ++ [y] := ⟨_, rfl⟩
   rw [← hys] at HT9 ⊢
   have HYS := Lib.hid hys
   obtain ⟨-, -, c2, c3, c4, -, -, -, -⟩ := HT9.out.r.at
   have ht9z := HT9.out.z
   have ht9x := HT9.out.x
   rw [← HZ.out] at ht9z ht9x
   have x0 := bx_cell ht9x
   have y0 := bx_free ht9z
   have z0 := bx_cell ht9z
   have HZ9 := Lib.hid ht9z
   clear hys ht9z ht9x y1 HW9
   by_cases hend : j2 = s.size
   ·have tq : ((j2 : Int) == (s.size : Int)) = true := by simp [hend]
    have HTT : Hid (T = .ok ys j2) := Lib.hid (by
     rw [HYS.out]
     refine HTS.out y j2 HPY.out ?_
     cases hc : Cd.sees s.data.toList j2 45 with
     | false => rfl
     | true => have := Cd.sees_lt' hc; have := HSL.out; omega)
    have HD := Lib.hid (fun (m : Nat) => T3.done (q := Cd.parseG s.data.toList 1) (HT9.out.call (grown_of_below (drew_below m)) (HT9.out.r.below (drew_below m)) (Nat.le_refl _)) (by rw [HQ2.out, HTT.out]; simp only [Cd.R.bind]; rw [if_neg (by have := HSL.out; omega)]))
    rw [← HZ.out] at HD
    clear hend
    go_quiet (fail)
    go_wp2_with fail
    refine bodyPost_ret (results_text rfl rfl (HD.out _).1) rfl (HD.out _).2
   ·have tq : ((j2 : Int) == (s.size : Int)) = false := by simp; omega
    go_quiet (fail)
    have HTA := Lib.hid (HTK.out j2 _ 45 (w9.drewN nq) (HT9.out.r.below (drew_below nq)))
    unfold RetTk at HTA
    have hj2l : j2 < s.size := by omega
    clear hend
    cases hse2 : Cd.sees s.data.toList j2 45
    ·rw [hse2] at HTA
     have HTT : Hid (T = .ok ys j2) := Lib.hid (by
      rw [HYS.out]
      exact HTS.out y j2 HPY.out hse2)
     have HQB : Hid (Cd.parseG s.data.toList 1 = .bad j2) := Lib.hid (by rw [HQ2.out, HTT.out]; simp only [Cd.R.bind]; rw [if_pos (by have := HSL.out; omega)])
     clear hse2
     go_wp2_with fail
     refine HTA.out.mono ?_
     rintro e w10 ⟨rfl, hg10, hr10⟩
     rw [if_neg Bool.false_ne_true] at hr10
     have hz10 := (hg10.block _ (lt_of_some HZ9.out) fun e => by have := HRl.out; have := HZ.out; cases e; omega).trans HZ9.out
     have HRES := Lib.hid (retT_bad (u := u) (grown_trans (grown_drew' HT9.out.g nq) hg10) (by rw [HZ.out] at hz10; exact hz10) HRl.out hr10 HQB.out)
     rw [← HZ.out] at HRES
     have y0 := bx_free hz10
     have z0 := bx_cell hz10
     clear hg10 hr10 hz10
     go_wp2_with fail
     refine bodyPost_ret (results_text rfl rfl HRES.out.1) rfl HRES.out.2
    ·rw [hse2] at HTA
     have HM2' := Lib.hid (HTM.out y j2 HPY.out hj2 hse2)
     clear hse2
     go_wp2_with fail
     refine HTA.out.mono ?_
     rintro e w10 ⟨rfl, hg10, hr10⟩
     rw [if_pos trivial] at hr10
     have HT10 := Lib.hid (HT9.out.call (grown_trans (grown_of_below (drew_below nq)) hg10) hr10 (Nat.le_succ _))
     clear hg10 hr10
     go_wp2_with fail
     go_roundg (s.size + 1 - (j2 + 1))
     case measure => omega
     case rel =>
      obtain ⟨m, hm1, hm2⟩ := HM2'.out
      exact ⟨_, ys, j2 + 1, m, rfl, by omega, fun q => absurd q HNE.out, HT10.out, fun _ => ⟨by rw [HYS.out, ← hm2]; exact HTOT2.out, hm1⟩⟩
set_option maxRecDepth 100000 in
set_option maxHeartbeats 16000000 in
theorem text3_tree (R : Nat) (L : Sg.SList) (As : Option Addr) (cs : Nat) (s : ByteArray) (u : Int) (w : World) (h : R3Is R L As cs s 2 0 u w) (hs : s.size ≤ 1000000) (hv : Sg.checkV L = 0) (hl : LR w R L As cs) :
  Calls Tryz.prog 44 #[.pointer (some ⟨R, 0, none⟩)] w (RetT3 R L As cs s 2 u (Cd.parseG s.data.toList 2) w) := by
 have HTK := Lib.hid (fun (j : Nat) (u : Int) (c : UInt8) (W : World) (hr : R3Is R L As cs s 2 j u W) => takes3_any R L As cs s 2 j u c W hr hs)
 have HRl := Lib.hid h.lt
 obtain ⟨p, hp⟩ : ∃ p, p = Cd.treeG s.data.toList (Cd.N s.data.toList) := ⟨_, rfl⟩
 have HOV : Hid (∀ (j : Nat) (u : Int) (W : World), w.grownBy W (some R) → R3Is R L As cs s 2 j u W → Calls Tryz.prog 67 #[.pointer (some ⟨R, 0, none⟩)] W (RetR R L As cs s 2 u (p j) W)) := Lib.hid fun j u' W hg hr => by
  rw [hp]
  exact item3_any R L As cs s 2 rfl hs hv _ j u' W (by unfold Cd.N; simp) hr (hl.go hg)
 have HMO : Hid (∀ j, j ≤ (p j).pos) := Lib.hid fun j => by rw [hp]; exact Cd.tree_mono _ j
 have HSZ : Hid (∀ j, Cd.Sz j (p j)) := Lib.hid fun j => by rw [hp]; exact Cd.sz_tree _ j
 obtain ⟨T, hT⟩ : ∃ T, T = Cd.sepG s.data.toList p 32 (Cd.N s.data.toList) 0 := ⟨_, rfl⟩
 have HQ : Hid (Cd.parseG s.data.toList 2 = if s.data.toList = [] then .ok [] 0 else T.bind fun xs k => if k < s.data.toList.length then .bad k else .ok xs k) := Lib.hid (by
  rw [hT, hp]
  rfl)
 have hsl : s.data.toList.length = s.size := by simp
 obtain ⟨i1, hi1, hz1, hs1, hb1⟩ := info_parts info_Node
 obtain ⟨Z, hZ⟩ : ∃ Z, Z = w.heap.size := ⟨_, rfl⟩
 have HZ := Lib.hid hZ
 obtain ⟨w1, hw1⟩ : ∃ w1, w1 = (w.alloc (.cells #[.slice none 0 0] 27)).alloc (.cells #[.slice none 0 0] 27) := ⟨_, rfl⟩
 have hbl : Below w.heap.size w w1 := by rw [hw1]; exact ((Below.refl _ _).alloc (Nat.le_refl _) _).alloc (by simp) _
 have HT1 : Hid (T3 w R L As cs s 2 u 0 (.slice none 0 0) [] w1) := Lib.hid ⟨grown_of_below hbl, by rw [show Cd.codesL [] = [] by rw [Cd.codesL]]; exact h.below hbl, by rw [hw1]; exact heap_alloc2_old _ _ _, by rw [hw1]; exact heap_alloc2_new _ _ _, by rw [Cd.nod_nil]; exact World.ownsRow_nil _ _ _ _, h.lt, by rw [Cd.sizeL]; exact Nat.le_refl _⟩
 have HW1 := Lib.hid hw1
 have HTT := Lib.hid hT
 have HSL := Lib.hid hsl
 clear h hl hp hT hw1 hbl hZ hsl
 go_enter Tryz.func44, Tryz.ntmps44
 go_upto_block 0 with fail
 rw [← HW1.out, ← HZ.out]
 clear HW1
 go_wp2_with fail
 go_loopg [5] (s.size + 1) (fun g _ wr => ∃ v xs j n, g = s.size + 1 - j ∧ j ≤ s.size ∧ (s.data.toList = [] → xs = [] ∧ j = 0) ∧ T3 w R L As cs s 2 u j v xs wr ∧ (s.data.toList ≠ [] → Cd.cont xs (Cd.sepG s.data.toList p 32 n j) = T ∧ s.data.toList.length - j < n))
 case atStart => exact ⟨_, [], 0, Cd.N s.data.toList, rfl, Nat.zero_le _, fun _ => ⟨rfl, rfl⟩, HT1.out, fun _ => ⟨by rw [HTT.out]; cases Cd.sepG s.data.toList p 32 (Cd.N s.data.toList) 0 <;> rfl, by unfold Cd.N; omega⟩⟩
 case round =>
  clear HT1
  obtain ⟨v, xs, j, n, rfl, hjs, hemp, ht, htot⟩ := hrel
  obtain ⟨At, ct, rfl⟩ := ht.form
  have HT3 := Lib.hid ht
  have htx := ht.x
  have htz := ht.z
  rw [← HZ.out] at htx htz
  have x0 := bx_cell htx
  have y0 := bx_free htz
  have z0 := bx_cell htz
  have y1 := bx_free htx
  obtain ⟨-, -, c2, c3, c4, -, -, -, -⟩ := ht.r.at
  have HEMP := Lib.hid hemp
  have HTOT := Lib.hid htot
  clear ht htx htz hemp htot
  by_cases hse : s.data.toList = []
  ·have hE : s.toList.isEmpty = true := by rw [Go.Lib.toList_data, hse]; rfl
   obtain ⟨rfl, rfl⟩ := HEMP.out hse
   have HRES := Lib.hid (T3.done (q := Cd.parseG s.data.toList 2) HT3.out (by rw [HQ.out, if_pos hse]))
   rw [← HZ.out] at HRES
   clear hse
   go_wp2_with fail
   refine bodyPost_ret (results_text rfl rfl HRES.out.1) rfl HRES.out.2
  have hE : s.toList.isEmpty = false := by
   rw [Go.Lib.toList_data]
   cases hc : s.data.toList with
   | nil => exact absurd hc hse
   | cons a l => rfl
  have HQ2 : Hid (Cd.parseG s.data.toList 2 = T.bind fun xs k => if k < s.data.toList.length then .bad k else .ok xs k) := Lib.hid (by rw [HQ.out, if_neg hse])
  have HNE := Lib.hid hse
  obtain ⟨htot, hfuel⟩ := HTOT.out hse
  have hn0 : 0 < n := by omega
  have HTB := Lib.hid (fun (jb : Nat) (hp : p j = .bad jb) => htot.symm.trans (Cd.sepl_bad (xs := xs) hn0 hp))
  have HTS := Lib.hid (fun (y : Cd.Item) (j1 : Nat) (hp : p j = .ok y j1) (hq : Cd.sees s.data.toList j1 32 = false) => htot.symm.trans (Cd.sepl_stop (xs := xs) hn0 hp hq))
  have HTM := Lib.hid (fun (y : Cd.Item) (j1 : Nat) (hp : p j = .ok y j1) (hk : j ≤ j1) (hq : Cd.sees s.data.toList j1 32 = true) => Cd.sepl_more (xs := xs) hfuel hp hk hq)
  have HTOT2 := Lib.hid htot
  have HG := Lib.hid (HOV.out j _ wr HT3.out.g HT3.out.r)
  unfold RetR at HG
  have hmo := HMO.out j
  have hzo := HSZ.out j
  clear htot hfuel hn0 hse
  cases hq : p j with
  | bad jb =>
   rw [hq] at HG
   have HTT := Lib.hid (HTB.out jb hq)
   have HQB : Hid (Cd.parseG s.data.toList 2 = .bad jb) := Lib.hid (by rw [HQ2.out, HTT.out]; rfl)
   clear hq hmo hzo
   go_wp2_with fail
   refine HG.out.mono ?_
   rintro e w6 ⟨hg6, A6, n6, c6, u6, rfl, hr6⟩
   have hz6 := (hg6.block _ (lt_of_some HT3.out.z) fun e => by have := HRl.out; cases e; omega).trans HT3.out.z
   have HRES := Lib.hid (retT_bad (u := u) (grown_trans HT3.out.g hg6) hz6 HRl.out hr6 HQB.out)
   rw [← HZ.out] at HRES hz6
   have y0 := bx_free hz6
   have z0 := bx_cell hz6
   clear hg6 hr6 hz6
   go_wp2_with fail
   refine bodyPost_ret (results_text rfl rfl HRES.out.1) rfl HRES.out.2
  | ok y j2 =>
   rw [hq] at HG hmo hzo
   have hj2 : j ≤ j2 := hmo
   have hzy : Cd.sizeI y + j ≤ j2 := hzo.1
   have HPY := Lib.hid hq
   clear hq hmo hzo
   go_wp2_with fail
   refine HG.out.mono ?_
   rintro e w6 ⟨hg6, A6, c6, rfl, hr6, hx6⟩
   have HPRE := Lib.hid (HT3.out.pre hg6 hx6)
   have HG6 := Lib.hid hg6
   have HR6 := Lib.hid hr6
   have hj2s : j2 ≤ s.size := hr6.le
   have hyl : (Cd.nodI L y).length ≤ 1000000 := by
    have h1 := Cd.nod_len L [y]
    rw [Cd.nod_cons, Cd.nod_nil, List.append_nil, Cd.sizeL, Cd.sizeL] at h1
    omega
   have hFl := HT3.out.few hs
   obtain ⟨F, hF⟩ : ∃ F, F = Cd.nodL L xs := ⟨_, rfl⟩
   obtain ⟨Y, hY⟩ : ∃ Y, Y = Cd.nodI L y := ⟨_, rfl⟩
   have HMORE : Hid (∀ (v' : Value) (W2 : World), W2.ownsRow (w.heap.size + 2) 59 8 v' (F.length + Y.length) (F.flatMap encN ++ Y.flatMap encN) → w6.grownBy W2 (Value.slice At F.length ct).ownBlock → T3 w R L As cs s 2 u j2 v' (xs ++ [y]) (W2.setCell ⟨w.heap.size + 1, 0, none⟩ v')) := Lib.hid fun v' W2 q1 q2 => by
    rw [hF] at q1 q2
    rw [hY] at q1
    exact HT3.out.more hg6 hr6 hzy q1 q2
   rw [← hF] at hFl HPRE
   rw [← hY] at hyl HPRE ⊢
   obtain ⟨hpz, hpx, hpo, hps, hpb, hpk⟩ := HPRE.out
   rw [← HZ.out] at hpx hpz
   have x0 := bx_cell hpx
   have y1 := bx_free hpx
   have HPO := Lib.hid hpo
   have HPS := Lib.hid hps
   have HPB := Lib.hid hpb
   have HPK := Lib.hid hpk
   have hm1 : F.length + Y.length ≤ maxLen := by simp [maxLen]; omega
   have hm2 : (F.length + Y.length) * 64 ≤ 140737488355328 := by omega
   have HM1 := Lib.hid hm1
   have HM2 := Lib.hid hm2
   clear hg6 hr6 hx6 hF hY hpz hpx hpo hps hpb hpk hm1 hm2 HPRE c2 c3 c4 y0 z0
   go_wp2_with (at_builtin; (refine wpList_append_rd (enc := encN) rfl (.tmp 32) (.tmp 33) _ rfl (w.heap.size + 2) 59 i1 _ 8 64 len_node one_node Tryz.underlying25 hi1 hz1 hs1 hb1 rfl (by decide) (.slice At F.length ct) F.length (F.flatMap encN) rfl HPO.out _ (.slice A6 Y.length c6) Y rfl HPS.out HM1.out HM2.out HPB.out ?_))
   intro v8 w8 hown8 hg8 hat8
   have HT9 := Lib.hid (HMORE.out v8 w8 hown8 hg8)
   have hx8 := HPK.out w8 hg8
   rw [← HZ.out] at hx8 HT9
   have x0 := bx_cell hx8
   have y1 := bx_free hx8
   obtain ⟨Av, cv, hv8⟩ := HT9.out.form
   subst hv8
   obtain ⟨w9, hw9⟩ : ∃ w9, w9 = w8.setCell ⟨Z + 1, 0, none⟩ (.slice Av (Cd.nodL L (xs ++ [y])).length cv) := ⟨_, rfl⟩
   rw [← hw9] at HT9
   have HW9 := Lib.hid hw9
   clear hown8 hg8 hat8 hx8 hw9
   go_upto_region 11 with fail
   rw [← HW9.out]
   obtain ⟨ys, hys⟩ : ∃ ys, ys = xs ++ [y] := ⟨_, rfl⟩
   rw [← hys] at HT9 ⊢
   have HYS := Lib.hid hys
   obtain ⟨-, -, c2, c3, c4, -, -, -, -⟩ := HT9.out.r.at
   have ht9z := HT9.out.z
   have ht9x := HT9.out.x
   rw [← HZ.out] at ht9z ht9x
   have x0 := bx_cell ht9x
   have y0 := bx_free ht9z
   have z0 := bx_cell ht9z
   have HZ9 := Lib.hid ht9z
   clear hys ht9z ht9x y1 HW9
   by_cases hend : j2 = s.size
   ·have tq : ((j2 : Int) == (s.size : Int)) = true := by simp [hend]
    have HTT : Hid (T = .ok ys j2) := Lib.hid (by
     rw [HYS.out]
     refine HTS.out y j2 HPY.out ?_
     cases hc : Cd.sees s.data.toList j2 32 with
     | false => rfl
     | true => have := Cd.sees_lt' hc; have := HSL.out; omega)
    have HD := Lib.hid (fun (m : Nat) => T3.done (q := Cd.parseG s.data.toList 2) (HT9.out.call (grown_of_below (drew_below m)) (HT9.out.r.below (drew_below m)) (Nat.le_refl _)) (by rw [HQ2.out, HTT.out]; simp only [Cd.R.bind]; rw [if_neg (by have := HSL.out; omega)]))
    rw [← HZ.out] at HD
    clear hend
    go_quiet (fail)
    go_wp2_with fail
    refine bodyPost_ret (results_text rfl rfl (HD.out _).1) rfl (HD.out _).2
   ·have tq : ((j2 : Int) == (s.size : Int)) = false := by simp; omega
    go_quiet (fail)
    have HTA := Lib.hid (HTK.out j2 _ 32 (w9.drewN nq) (HT9.out.r.below (drew_below nq)))
    unfold RetTk at HTA
    have hj2l : j2 < s.size := by omega
    clear hend
    cases hse2 : Cd.sees s.data.toList j2 32
    ·rw [hse2] at HTA
     have HTT : Hid (T = .ok ys j2) := Lib.hid (by
      rw [HYS.out]
      exact HTS.out y j2 HPY.out hse2)
     have HQB : Hid (Cd.parseG s.data.toList 2 = .bad j2) := Lib.hid (by rw [HQ2.out, HTT.out]; simp only [Cd.R.bind]; rw [if_pos (by have := HSL.out; omega)])
     clear hse2
     go_wp2_with fail
     refine HTA.out.mono ?_
     rintro e w10 ⟨rfl, hg10, hr10⟩
     rw [if_neg Bool.false_ne_true] at hr10
     have hz10 := (hg10.block _ (lt_of_some HZ9.out) fun e => by have := HRl.out; have := HZ.out; cases e; omega).trans HZ9.out
     have HRES := Lib.hid (retT_bad (u := u) (grown_trans (grown_drew' HT9.out.g nq) hg10) (by rw [HZ.out] at hz10; exact hz10) HRl.out hr10 HQB.out)
     rw [← HZ.out] at HRES
     have y0 := bx_free hz10
     have z0 := bx_cell hz10
     clear hg10 hr10 hz10
     go_wp2_with fail
     refine bodyPost_ret (results_text rfl rfl HRES.out.1) rfl HRES.out.2
    ·rw [hse2] at HTA
     have HM2' := Lib.hid (HTM.out y j2 HPY.out hj2 hse2)
     clear hse2
     go_wp2_with fail
     refine HTA.out.mono ?_
     rintro e w10 ⟨rfl, hg10, hr10⟩
     rw [if_pos trivial] at hr10
     have HT10 := Lib.hid (HT9.out.call (grown_trans (grown_of_below (drew_below nq)) hg10) hr10 (Nat.le_succ _))
     clear hg10 hr10
     go_wp2_with fail
     go_roundg (s.size + 1 - (j2 + 1))
     case measure => omega
     case rel =>
      obtain ⟨m, hm1, hm2⟩ := HM2'.out
      exact ⟨_, ys, j2 + 1, m, rfl, by omega, fun q => absurd q HNE.out, HT10.out, fun _ => ⟨by rw [HYS.out, ← hm2]; exact HTOT2.out, hm1⟩⟩
end Go.Proofs.YtenmkbpdkfhbjaaGreat
