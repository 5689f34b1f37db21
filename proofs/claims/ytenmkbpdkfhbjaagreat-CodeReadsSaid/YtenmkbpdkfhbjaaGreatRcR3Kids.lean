/- The document's reader: a leaf.; The document's reader: kids that are read one after the other. -/
import Derived.Test.YtenmkbpdkfhbjaaGreatRcR3Glyph
import Derived.Test.YtenmkbpdkfhbjaaGreatRcR3Wrap
namespace Cd
def leaf3G (s : List UInt8) (kind : Int) (k : Nat) : R Item := if kind = 1 then leafG s k else if sees s k 63 = true then .ok (.mk (gapN ((s.drop k).takeWhile fun c => decide (c = 63)).length ((s.drop k).takeWhile fun c => decide (c = 63)).length) [] 0 []) (k + ((s.drop k).takeWhile fun c => decide (c = 63)).length) else glyphG s false k
theorem leaf_line {s : List UInt8} {kind : Int} {k : Nat} (h : kind = 1) : leaf3G s kind k = leafG s k := if_pos h
theorem leaf_run {s : List UInt8} {kind : Int} {k : Nat} (h : kind ≠ 1) (hs : sees s k 63 = true) : leaf3G s kind k = .ok (.mk (gapN ((s.drop k).takeWhile fun c => decide (c = 63)).length ((s.drop k).takeWhile fun c => decide (c = 63)).length) [] 0 []) (k + ((s.drop k).takeWhile fun c => decide (c = 63)).length) := by
 unfold leaf3G
 rw [if_neg h, if_pos hs]
theorem leaf_glyph {s : List UInt8} {kind : Int} {k : Nat} (h : (kind = 1 ∧ sees s k 123 = false) ∨ (kind ≠ 1 ∧ sees s k 63 = false)) : leaf3G s kind k = glyphG s (decide (kind = 1)) k := by
 unfold leaf3G leafG
 rcases h with ⟨h1, h2⟩ | ⟨h1, h2⟩
 ·rw [if_pos h1, if_neg (by rw [h2]; exact Bool.false_ne_true), decide_eq_true h1]
 ·rw [if_neg h1, if_neg (by rw [h2]; exact Bool.false_ne_true), decide_eq_false h1]
theorem leaf_gap {s : List UInt8} {kind : Int} {k : Nat} (h1 : kind = 1) (h2 : sees s k 123 = true) : leaf3G s kind k = (digitG s 48 57 (k + 1)).bind fun a k1 => (must s k1 45).bind fun _ k2 => (digitG s 48 57 k2).bind fun b k3 => (must s k3 125).bind fun _ k4 => .ok (.mk (gapN a b) [] 0 []) k4 := by
 unfold leaf3G leafG
 rw [if_pos h1, if_pos h2]
end Cd
namespace Go.Proofs.YtenmkbpdkfhbjaaGreat
open Go Go.RowKit

theorem digit_at {s : List UInt8} {lo hi : UInt8} {k k1 : Nat} {a : Int} (h : Cd.digitG s lo hi k = .ok a k1) : k1 = k + 1 := by
 unfold Cd.digitG at h
 split at h
 ·split at h
  ·injection h with _ h; exact h.symm
  ·cases h
 ·cases h
def LR (w : World) (R : Nat) (L : Sg.SList) (As : Option Addr) (cs : Nat) : Prop := ∀ W, w.grownBy W (some R) → RdSL W W.heap.size (.agg #[.int .i64 L.periods, .slice As L.signs.length cs]) L
theorem LR.go {w w' : World} {R : Nat} {L : Sg.SList} {As : Option Addr} {cs : Nat} (h : LR w R L As cs) (hg : w.grownBy w' (some R)) : LR w' R L As cs := fun W q => h W (grown_trans hg q)
theorem glyph3_lr {R : Nat} {L : Sg.SList} {As : Option Addr} {cs : Nat} {s : ByteArray} {kind : Int} {k : Nat} {u : Int} {w : World} (h : R3Is R L As cs s kind k u w) (hs : s.size ≤ 1000000) (hv : Sg.checkV L = 0) (hl : LR w R L As cs) :
  Calls Tryz.prog 112 #[.pointer (some ⟨R, 0, none⟩)] w (RetR R L As cs s kind u (Cd.glyphG s.data.toList (decide (kind = 1)) k) w) :=
 glyph3_any R L As cs s kind k u w h hs hv hl
theorem retR_trans {R : Nat} {L : Sg.SList} {As : Option Addr} {cs : Nat} {s : ByteArray} {kind u : Int} {q : Cd.R Cd.Item} {w w1 : World} {e : Ending} {w' : World} (hg : w.grownBy w1 (some R)) (h : RetR R L As cs s kind u q w1 e w') : RetR R L As cs s kind u q w e w' := by
 obtain ⟨h1, h2⟩ := h
 refine ⟨grown_trans hg h1, ?_⟩
 cases q with
 | bad k => exact h2
 | ok x k =>
  obtain ⟨A, c, q1, q2, q3⟩ := h2
  exact ⟨A, c, q1, q2, q3.keep fun b hb => ⟨⟨Nat.le_trans hg.size hb.1, hb.2⟩, rfl⟩⟩
theorem RetR.tup {R : Nat} {L : Sg.SList} {As : Option Addr} {cs : Nat} {s : ByteArray} {kind u : Int} {q : Cd.R Cd.Item} {w : World} {e : Ending} {w' : World} (h : RetR R L As cs s kind u q w e w') : ∃ A n c b, e = .returned (.tuple #[.slice A n c, .bool b]) ∧ RetR R L As cs s kind u q w (.returned (.tuple #[.slice A n c, .bool b])) w' := by
 obtain ⟨h1, h2⟩ := id h
 cases q with
 | bad k =>
  obtain ⟨A, n, c, u', rfl, -⟩ := h2
  exact ⟨A, n, c, _, rfl, h⟩
 | ok x k =>
  obtain ⟨A, c, rfl, -⟩ := h2
  exact ⟨A, _, c, _, rfl, h⟩
theorem retR_one {R : Nat} {L : Sg.SList} {As : Option Addr} {cs : Nat} {s : ByteArray} {kind u u' : Int} {q : Cd.R Cd.Item} {w wr : World} {X k : Nat} {c : Array Value} {x : Cd.Item} {n : Tx.Node} (h : S3 w R L As cs s kind k u' X c wr) (hq : q = .ok x k) (hn : Cd.nodI L x = [n]) (hu : u' = Cd.unkF L u (Cd.codesI x)) (hc : c = (encN n).toArray) :
  RetR R L As cs s kind u q w (.returned (.tuple #[.slice (some ⟨wr.heap.size, 0, none⟩) 1 1, .bool true])) (wr.alloc (.cells c 59)) := by
 subst hq hc
 have hb : Below wr.heap.size wr (wr.alloc (.cells (encN n).toArray 59)) := (Below.refl _ _).alloc (Nat.le_refl _) _
 refine ⟨grown_below h.g hb, some ⟨wr.heap.size, 0, none⟩, 1, by rw [hn]; rfl, ?_, ?_⟩
 ·rw [← hu]
  exact h.r.below hb
 ·rw [hn]
  exact (rdx_one wr n).keep fun b hb2 => ⟨⟨by rw [hb2]; exact h.g.size, by rw [hb2]; simp⟩, rfl⟩
theorem retR_bad {R : Nat} {L : Sg.SList} {As : Option Addr} {cs : Nat} {s : ByteArray} {kind u u' : Int} {q : Cd.R Cd.Item} {w w' : World} {k n c : Nat} {A : Option Addr} (hg : w.grownBy w' (some R)) (hr : R3Is R L As cs s kind k u' w') (hq : q = .bad k) : RetR R L As cs s kind u q w (.returned (.tuple #[.slice A n c, .bool false])) w' := by
 subst hq
 exact ⟨hg, A, n, c, u', rfl, hr⟩
set_option maxRecDepth 100000 in
set_option maxHeartbeats 16000000 in
theorem leaf3_any (R : Nat) (L : Sg.SList) (As : Option Addr) (cs : Nat) (s : ByteArray) (kind : Int) (hkd : kind = 1 ∨ kind = 2) (k : Nat) (u : Int) (w : World) (h : R3Is R L As cs s kind k u w) (hs : s.size ≤ 1000000)
  (hv : Sg.checkV L = 0) (hl : LR w R L As cs) :
  Calls Tryz.prog 91 #[.pointer (some ⟨R, 0, none⟩)] w (RetR R L As cs s kind u (Cd.leaf3G s.data.toList kind k) w) := by
 obtain ⟨X, hX⟩ : ∃ X, X = w.heap.size := ⟨_, rfl⟩
 obtain ⟨w1, hw1⟩ : ∃ w1, w1 = w.alloc (.cells #[.int .i64 6, .int .i64 0, .int .i64 0, .int .i64 0, .bool false, .int .i64 0, .int .i64 0, .int .i64 0] 59) := ⟨_, rfl⟩
 have hb1 : Below w.heap.size w w1 := by rw [hw1]; exact (Below.refl _ _).alloc (Nat.le_refl _) _
 have HS1 : Hid (S3 w R L As cs s kind k u X #[.int .i64 6, .int .i64 0, .int .i64 0, .int .i64 0, .bool false, .int .i64 0, .int .i64 0, .int .i64 0] w1) := Lib.hid ⟨grown_of_below hb1, h.below hb1, by rw [hw1, hX]; exact heap_alloc_new _ _, h.lt, by rw [hX]; exact Nat.le_refl _⟩
 have HXX := Lib.hid hX
 have HW1 := Lib.hid hw1
 have HLR := Lib.hid hl
 have hr1 := HS1.out.r
 obtain ⟨-, -, -, c3, -, -, -, -, -⟩ := hr1.at
 have HGL : Hid ((kind = 1 ∧ Cd.sees s.data.toList k 123 = false) ∨ (kind ≠ 1 ∧ Cd.sees s.data.toList k 63 = false) → ∀ W, w.grownBy W (some R) → R3Is R L As cs s kind k u W → Calls Tryz.prog 112 #[.pointer (some ⟨R, 0, none⟩)] W (fun e w' => ∃ A n c b, e = .returned (.tuple #[.slice A n c, .bool b]) ∧ RetR R L As cs s kind u (Cd.leaf3G s.data.toList kind k) w (.returned (.tuple #[.slice A n c, .bool b])) w')) := Lib.hid fun hc W q1 q2 => by
  rw [Cd.leaf_glyph hc]
  refine (glyph3_lr q2 hs hv (HLR.out.go q1)).mono ?_
  intro e w' hr
  obtain ⟨A, n, c, b, e1, e2⟩ := hr.tup
  exact ⟨A, n, c, b, e1, retR_trans q1 e2⟩
 clear h hX hw1 hb1 hl hr1
 rcases hkd with hk1 | hk2
 ·have t1 : (kind == 1) = true := by simp [hk1]
  have t2 : (kind == 2) = false := by simp [hk1]
  have HK := Lib.hid hk1
  have HTK := Lib.hid (takes3_any R L As cs s kind k u 123 w1 HS1.out.r hs)
  unfold RetTk at HTK
  clear hk1
  cases hsee : Cd.sees s.data.toList k 123
  ·rw [hsee] at HTK
   have HG := Lib.hid (HGL.out (.inl ⟨HK.out, hsee⟩))
   clear hsee
   go_enter Tryz.func91, Tryz.ntmps91
   go_upto_region 2 with fail
   rw [← HXX.out, ← HW1.out]
   go_wp2_with fail
   refine HTK.out.mono ?_
   rintro e w2 ⟨rfl, hg2, hr2⟩
   rw [if_neg Bool.false_ne_true] at hr2
   have HG2 := Lib.hid (grown_trans HS1.out.g hg2)
   have HR2 := Lib.hid hr2
   obtain ⟨-, -, -, d3, -, -, -, -, -⟩ := hr2.at
   clear hg2 hr2 c3
   go_wp2_with fail
   refine (HG.out w2 HG2.out HR2.out).mono ?_
   rintro e w3 ⟨A, n, c, b, rfl, hr3⟩
   have HR3 := Lib.hid hr3
   clear hr3
   go_wp2_with fail
   refine bodyPost_ret (results_tmp2 rfl _ _ _) rfl ?_
   exact HR3.out
  ·rw [hsee] at HTK
   have hks := Cd.sees_lt' hsee
   have hkl : k + 1 ≤ s.size := by simp at hks; omega
   have HQ := Lib.hid (Cd.leaf_gap HK.out hsee)
   clear hsee hks
   go_enter Tryz.func91, Tryz.ntmps91
   go_upto_region 2 with fail
   rw [← HXX.out, ← HW1.out]
   go_wp2_with fail
   refine HTK.out.mono ?_
   rintro e w2 ⟨rfl, hg2, hr2⟩
   rw [if_pos trivial] at hr2
   have HS2 := Lib.hid (HS1.out.call hg2 hr2)
   have HD := Lib.hid (digit3_any R L As cs s kind (k + 1) u 48 57 w2 hr2 hs (by decide))
   unfold RetDg at HD
   clear hg2 hr2 c3
   cases hd1 : Cd.digitG s.data.toList 48 57 (k + 1) with
   | bad jb =>
    rw [hd1] at HD HQ
    clear hd1
    go_wp2_with fail
    refine HD.out.mono ?_
    rintro e w3 ⟨hg3, rfl, hr3⟩
    have HRES := Lib.hid (retR_bad (u := u) (A := none) (n := 0) (c := 0) (grown_trans HS2.out.g hg3) hr3 HQ.out)
    clear hg3 hr3
    go_wp2_with fail
    refine bodyPost_ret (results_tmp2 rfl _ _ _) rfl ?_
    exact HRES.out
   | ok a k1 =>
    rw [hd1] at HD HQ
    have hk1 : k1 = k + 1 + 1 := digit_at hd1
    clear hd1
    go_wp2_with fail
    refine HD.out.mono ?_
    rintro e w3 ⟨hg3, rfl, hr3⟩
    have HS3 := Lib.hid (HS2.out.call hg3 hr3)
    have HT3 := Lib.hid (takes3_any R L As cs s kind k1 u 45 w3 hr3 hs)
    unfold RetTk at HT3
    clear hg3 hr3
    cases hse : Cd.sees s.data.toList k1 45
    ·rw [hse] at HT3
     have HQ2 : Hid (Cd.leaf3G s.data.toList kind k = .bad k1) := Lib.hid (by rw [HQ.out]; simp only [Cd.R.bind]; unfold Cd.must; rw [if_neg (by rw [hse]; exact Bool.false_ne_true)])
     clear hse
     go_wp2_with fail
     refine HT3.out.mono ?_
     rintro e w4 ⟨rfl, hg4, hr4⟩
     rw [if_neg Bool.false_ne_true] at hr4
     have HRES := Lib.hid (retR_bad (u := u) (A := none) (n := 0) (c := 0) (grown_trans HS3.out.g hg4) hr4 HQ2.out)
     clear hg4 hr4
     go_wp2_with fail
     refine bodyPost_ret (results_tmp2 rfl _ _ _) rfl ?_
     exact HRES.out
    ·rw [hse] at HT3
     have HQ2 : Hid (Cd.leaf3G s.data.toList kind k = (Cd.digitG s.data.toList 48 57 (k1 + 1)).bind fun b k3 => (Cd.must s.data.toList k3 125).bind fun _ k4 => .ok (.mk (Cd.gapN a b) [] 0 []) k4) := Lib.hid (by rw [HQ.out]; simp only [Cd.R.bind]; unfold Cd.must; rw [if_pos hse])
     clear hse
     go_wp2_with fail
     refine HT3.out.mono ?_
     rintro e w4 ⟨rfl, hg4, hr4⟩
     rw [if_pos trivial] at hr4
     have HS4 := Lib.hid (HS3.out.call hg4 hr4)
     have HD4 := Lib.hid (digit3_any R L As cs s kind (k1 + 1) u 48 57 w4 hr4 hs (by decide))
     unfold RetDg at HD4
     clear hg4 hr4
     cases hd4 : Cd.digitG s.data.toList 48 57 (k1 + 1) with
     | bad jb =>
      rw [hd4] at HD4 HQ2
      clear hd4
      go_wp2_with fail
      refine HD4.out.mono ?_
      rintro e w5 ⟨hg5, rfl, hr5⟩
      have HRES := Lib.hid (retR_bad (u := u) (A := none) (n := 0) (c := 0) (grown_trans HS4.out.g hg5) hr5 HQ2.out)
      clear hg5 hr5
      go_wp2_with fail
      refine bodyPost_ret (results_tmp2 rfl _ _ _) rfl ?_
      exact HRES.out
     | ok b k3 =>
      rw [hd4] at HD4 HQ2
      clear hd4
      go_wp2_with fail
      refine HD4.out.mono ?_
      rintro e w5 ⟨hg5, rfl, hr5⟩
      have HS5 := Lib.hid (HS4.out.call hg5 hr5)
      have HT5 := Lib.hid (takes3_any R L As cs s kind k3 u 125 w5 hr5 hs)
      unfold RetTk at HT5
      clear hg5 hr5
      cases hse : Cd.sees s.data.toList k3 125
      ·rw [hse] at HT5
       have HQ3 : Hid (Cd.leaf3G s.data.toList kind k = .bad k3) := Lib.hid (by rw [HQ2.out]; simp only [Cd.R.bind]; unfold Cd.must; rw [if_neg (by rw [hse]; exact Bool.false_ne_true)])
       clear hse
       go_wp2_with fail
       refine HT5.out.mono ?_
       rintro e w6 ⟨rfl, hg6, hr6⟩
       rw [if_neg Bool.false_ne_true] at hr6
       have HRES := Lib.hid (retR_bad (u := u) (A := none) (n := 0) (c := 0) (grown_trans HS5.out.g hg6) hr6 HQ3.out)
       clear hg6 hr6
       go_wp2_with fail
       refine bodyPost_ret (results_tmp2 rfl _ _ _) rfl ?_
       exact HRES.out
      ·rw [hse] at HT5
       have HQ3 : Hid (Cd.leaf3G s.data.toList kind k = .ok (.mk (Cd.gapN a b) [] 0 []) (k3 + 1)) := Lib.hid (by rw [HQ2.out]; simp only [Cd.R.bind]; unfold Cd.must; rw [if_pos hse])
       clear hse
       go_wp2_with fail
       refine HT5.out.mono ?_
       rintro e w6 ⟨rfl, hg6, hr6⟩
       rw [if_pos trivial] at hr6
       have HS6 := Lib.hid (HS5.out.call hg6 hr6)
       clear hg6 hr6
       obtain ⟨x0, x1, x2, x3, x4, x5, x6, x7⟩ := box8_cells HS6.out.x
       have y6 := (in_box HS6.out.x 6).2
       have y7 := (in_box HS6.out.x 7).2
       have HS7 : Hid (S3 w R L As cs s kind (k3 + 1) u X #[.int .i64 6, .int .i64 0, .int .i64 0, .int .i64 0, .bool false, .int .i64 0, .int .i64 a, .int .i64 b] ((w6.setCell ⟨X, 6, none⟩ (.int .i64 a)).setCell ⟨X, 7, none⟩ (.int .i64 b))) := Lib.hid ((HS6.out.set 6 (.int .i64 a)).set 7 (.int .i64 b))
       have HRES := Lib.hid (retR_one (q := Cd.leaf3G s.data.toList kind k) (u := u) HS7.out HQ3.out (Cd.nod_gap L a b 0) (by rw [Cd.codesI, Cd.codesL, if_neg (show ¬ (Cd.gapN a b).kind = 1 from (by decide : ¬ (6 : Int) = 1))]; rfl) rfl)
       have hres := HRES.out
       rw [size_set, size_set] at hres
       have HRES := Lib.hid hres
       clear hres
       have hlt := HS6.out.lt
       go_wp2_with fail
       refine bodyPost_ret (results_tmp2 rfl _ _ _) rfl ?_
       exact HRES.out
 ·have t1 : (kind == 1) = false := by simp [hk2]
  have t2 : (kind == 2) = true := by simp [hk2]
  have HK := Lib.hid hk2
  have HSE := Lib.hid (sees3_any R L As cs s kind k u 63 w1 HS1.out.r)
  unfold RetB3 at HSE
  clear hk2
  cases hsee : Cd.sees s.data.toList k 63
  ·rw [hsee] at HSE
   have HG := Lib.hid (HGL.out (.inr ⟨by have := HK.out; omega, hsee⟩))
   clear hsee
   go_enter Tryz.func91, Tryz.ntmps91
   go_upto_region 2 with fail
   rw [← HXX.out, ← HW1.out]
   go_wp2_with fail
   refine HSE.out.mono ?_
   rintro e w2 ⟨rfl, hb2⟩
   have HS2 := Lib.hid (HS1.out.below hb2)
   clear hb2 c3
   go_wp2_with fail
   refine (HG.out w2 HS2.out.g HS2.out.r).mono ?_
   rintro e w3 ⟨A, n, c, b, rfl, hr3⟩
   have HR3 := Lib.hid hr3
   clear hr3
   go_wp2_with fail
   refine bodyPost_ret (results_tmp2 rfl _ _ _) rfl ?_
   exact HR3.out
  ·rw [hsee] at HSE
   have HQ := Lib.hid (Cd.leaf_run (kind := kind) (by have := HK.out; omega) hsee)
   obtain ⟨N, hN⟩ : ∃ N, N = ((s.data.toList.drop k).takeWhile fun c => decide (c = 63)).length := ⟨_, rfl⟩
   have HRUN : Hid (∀ n, n ≤ N → Cd.sees s.data.toList (k + n) 63 = decide (n < N)) := Lib.hid fun n hn => by
    rw [hN] at hn ⊢
    have := Cd.run_more hn
    rw [Bool.eq_iff_iff, decide_eq_true_eq]
    exact this.symm
   rw [← hN] at HQ
   have hNs : k + N ≤ s.size := by
    have h1 := Tx.tw_le (fun c : UInt8 => decide (c = 63)) (s.data.toList.drop k)
    rw [← hN, List.length_drop] at h1
    have h2 := HS1.out.r.le
    simp at h1
    omega
   clear hsee hN
   go_enter Tryz.func91, Tryz.ntmps91
   go_upto_region 2 with fail
   rw [← HXX.out, ← HW1.out]
   go_wp2_with fail
   refine HSE.out.mono ?_
   rintro e w2 ⟨rfl, hb2⟩
   have HS2 := Lib.hid (HS1.out.below hb2)
   clear hb2 c3
   go_wp2_with fail
   go_loopg [58] N (fun g _ wr => ∃ n : Nat, n ≤ N ∧ g = N - n ∧ S3 w R L As cs s kind (k + n) u X #[.int .i64 6, .int .i64 0, .int .i64 0, .int .i64 0, .bool false, .int .i64 0, .int .i64 0, .int .i64 n] wr)
   case atStart => exact ⟨0, Nat.zero_le _, rfl, HS2.out⟩
   case round =>
    clear HS2
    obtain ⟨n, hn, rfl, hs3⟩ := hrel
    have HS3 := Lib.hid hs3
    have HT3 := Lib.hid (takes3_any R L As cs s kind (k + n) u 63 wr hs3.r hs)
    unfold RetTk at HT3
    rw [HRUN.out n hn] at HT3
    clear hs3
    by_cases hlt : n < N
    ·rw [decide_eq_true hlt] at HT3
     go_wp2_with fail
     refine HT3.out.mono ?_
     rintro e w4 ⟨rfl, hg4, hr4⟩
     rw [if_pos trivial] at hr4
     have HS4 := Lib.hid (HS3.out.call hg4 hr4)
     have x7 := (in_box HS4.out.x 7).1
     have y7 := (in_box HS4.out.x 7).2
     simp at x7
     have hnI : (n : Int) ≤ 1000000 := by omega
     have hn0 : (0 : Int) ≤ (n : Int) := by omega
     clear hg4 hr4
     go_wp2_with fail
     go_roundg (N - (n + 1))
     case measure => omega
     case rel => exact ⟨n + 1, by omega, rfl, by have := HS4.out.set 7 (.int .i64 ((n : Int) + 1)); exact this⟩
    ·rw [decide_eq_false hlt] at HT3
     have hnN : n = N := by omega
     subst hnN
     go_wp2_with fail
     refine HT3.out.mono ?_
     rintro e w4 ⟨rfl, hg4, hr4⟩
     rw [if_neg Bool.false_ne_true] at hr4
     have HS4 := Lib.hid (HS3.out.call hg4 hr4)
     obtain ⟨x0, x1, x2, x3, x4, x5, x6, x7⟩ := box8_cells HS4.out.x
     have y6 := (in_box HS4.out.x 6).2
     have HS7 : Hid (S3 w R L As cs s kind (k + n) u X #[.int .i64 6, .int .i64 0, .int .i64 0, .int .i64 0, .bool false, .int .i64 0, .int .i64 n, .int .i64 n] (w4.setCell ⟨X, 6, none⟩ (.int .i64 n))) := Lib.hid (HS4.out.set 6 (.int .i64 n))
     have HRES := Lib.hid (retR_one (q := Cd.leaf3G s.data.toList kind k) (u := u) HS7.out HQ.out (Cd.nod_gap L n n 0) (by rw [Cd.codesI, Cd.codesL, if_neg (show ¬ (Cd.gapN (n : Int) n).kind = 1 from (by decide : ¬ (6 : Int) = 1))]; rfl) rfl)
     have hres := HRES.out
     rw [size_set] at hres
     have HRES := Lib.hid hres
     clear hres
     have hltX := HS4.out.lt
     clear hg4 hr4
     go_wp2_with fail
     refine bodyPost_ret (results_tmp2 rfl _ _ _) rfl ?_
     exact HRES.out
end Go.Proofs.YtenmkbpdkfhbjaaGreat
namespace Cd
theorem nod_len (l : Sg.SList) (xs : List Item) : (nodL l xs).length = sizeL xs := by unfold nodL; rw [flatL_len, size_resL]
theorem size_pos : ∀ x : Item, 0 < sizeI x
 | .mk n c p ks => by rw [sizeI]; omega
theorem size_count : ∀ xs : List Item, xs.length ≤ sizeL xs
 | [] => by rw [sizeL]; exact Nat.le_refl _
 | x :: xs => by
  have := size_count xs
  have := size_pos x
  rw [sizeL, List.length_cons]
  omega
theorem size_snoc (xs : List Item) (x : Item) : sizeL (xs ++ [x]) = sizeL xs + sizeI x := by rw [size_app, sizeL, sizeL, Nat.add_zero]
mutual
theorem flat_depthI (d : Int) : ∀ x : Item, ∀ n ∈ flatI d x, d ≤ n.depth ∧ n.depth < d + sizeI x
 | .mk n c p ks => fun m hm => by
  rw [flatI] at hm
  rw [sizeI]
  rcases List.mem_cons.1 hm with rfl | hm
  ·simp only
   omega
  ·have := flat_depthL (d + 1) ks m hm
   omega
theorem flat_depthL (d : Int) : ∀ xs : List Item, ∀ n ∈ flatL d xs, d ≤ n.depth ∧ n.depth < d + sizeL xs
 | [] => fun m hm => by rw [flatL] at hm; cases hm
 | x :: xs => fun m hm => by
  rw [flatL] at hm
  rw [sizeL]
  rcases List.mem_append.1 hm with hm | hm
  ·have := flat_depthI d x m hm
   omega
  ·have := flat_depthL d xs m hm
   omega
end
theorem nod_depth (l : Sg.SList) (xs : List Item) : ∀ n ∈ nodL l xs, 0 ≤ n.depth ∧ n.depth ≤ sizeL xs := fun n hn => by
 have := flat_depthL 0 _ n hn
 rw [size_resL] at this
 omega
end Cd
namespace Go.Proofs.YtenmkbpdkfhbjaaGreat
open Go Go.RowKit

abbrev Row1 := { cs : List Value // cs.length = 1 ∧ ∀ u ∈ cs, u.oneCell' = true }
def encR1 (q : Row1) : List Value := q.1
theorem len_r1 (q : Row1) : (encR1 q).length = 1 := q.2.1
theorem one_r1 (q : Row1) : ∀ u ∈ encR1 q, u.oneCell' = true := q.2.2
theorem info_sNode : (Tryz.prog.info? 25).map (fun i => (i.zero, i.size, i.bytes)) = some (some (.slice none 0 0), 1, 24) := by kernel_rfl
theorem wp_append_ns {w : World} {o : Oper} {a : Act} {K : Act → World → Prop} {Q : Exit → Act → World → Prop} (s x : Operand)
  (ho : o.op = .call { callee := .builtin .append, args := #[s, x], argTypes := #[152, 152] })
  (base : Nat) (v : Value) (xs : List (List Tx.Node)) (y : List Tx.Node) (hs : a.eval s = v) (hown : OwnG KNs 25 w base v xs) (b c : Nat) (A1 : Option Addr) (c1 : Nat) (hx : a.eval x = .slice (some ⟨b, 0, none⟩) 1 c) (hc : 1 ≤ c ∧ c ≤ 9223372036854775807)
  (hb : w.heap[b]? = some (.cells #[.slice A1 y.length c1] 25 (0, 0))) (hrd : RdX w (fun b => b < w.heap.size ∧ v.ownBlock ≠ some b ∧ base ≤ b) 8 encN (.slice A1 y.length c1) y) (hn : xs.length ≤ 2000000) (hbase : base ≤ w.heap.size)
  (h : ∀ v' w', OwnG KNs 25 w' base v' (xs ++ [y]) → w.grownBy w' v.ownBlock → K (a.put o.dst v') w') : o.wp Tryz.prog a w K Q := by
 obtain ⟨i0, hi0, hz0, hs0, hb0⟩ := info_parts info_sNode
 obtain ⟨cells, hown, hg⟩ := hown
 refine wp_append_rd (enc := encR1) s x _ ho base 25 i0 _ 1 24 len_r1 one_r1 Tryz.underlying152 hi0 hz0 hs0 hb0 rfl (by decide) v xs.length cells hs hown w.heap.size _ [⟨[.slice A1 y.length c1], rfl, by intro u hu; simp at hu; subst hu; rfl⟩] hx ?_ (by simp [maxLen]; omega) (by simp; omega) hbase ?_
 ·refine ⟨_, c, rfl, hc.1, hc.2, fun _ => ⟨b, 0, rfl, lt_of_some hb, fun i q hi j u hj => ?_⟩⟩
  cases i with
  | zero =>
   simp at hi
   subst hi
   rw [(in_box hb _).1]
   simpa [encR1] using hj
  | succ i => simp at hi
 ·intro v' w' hown' hgw hat
  refine h v' w' (OwnG.snoc (K := KNs) (cs := [.slice A1 y.length c1]) hg ⟨A1, c1, rfl, hrd⟩ (by have := hown'; simp only [List.length_singleton, List.flatMap_cons, List.flatMap_nil, List.append_nil] at this; exact this) hgw ?_) hgw
  rcases hat with e | e
  ·exact .inl e
  ·exact .inr ⟨_, e, Nat.le_refl _⟩
theorem wpList_append_ns {w : World} {ops : Array Oper} {rest : List Oper} {o : Oper} {a : Act} {Q : Exit → Act → World → Prop} (hgd : o.guard = none) (s x : Operand)
  (ho : o.op = .call { callee := .builtin .append, args := #[s, x], argTypes := #[152, 152] })
  (base : Nat) (v : Value) (xs : List (List Tx.Node)) (y : List Tx.Node) (hs : a.eval s = v) (hown : OwnG KNs 25 w base v xs) (b c : Nat) (A1 : Option Addr) (c1 : Nat) (hx : a.eval x = .slice (some ⟨b, 0, none⟩) 1 c) (hc : 1 ≤ c ∧ c ≤ 9223372036854775807)
  (hb : w.heap[b]? = some (.cells #[.slice A1 y.length c1] 25 (0, 0))) (hrd : RdX w (fun b => b < w.heap.size ∧ v.ownBlock ≠ some b ∧ base ≤ b) 8 encN (.slice A1 y.length c1) y) (hn : xs.length ≤ 2000000) (hbase : base ≤ w.heap.size)
  (h : ∀ v' w', OwnG KNs 25 w' base v' (xs ++ [y]) → w.grownBy w' v.ownBlock → wpList Tryz.prog ops Q rest (a.put o.dst v') w') : wpList Tryz.prog ops Q (o :: rest) a w :=
 wpList_plain hgd fun _ hK => wp_append_ns s x ho base v xs y hs hown b c A1 c1 hx hc hb hrd hn hbase fun v' w' q1 q2 => hK _ _ (h v' w' q1 q2)
structure K3 (w : World) (R : Nat) (L : Sg.SList) (As : Option Addr) (cs : Nat) (s : ByteArray) (kind : Int) (u : Int) (j : Nat) (kv : Value) (xs : List Cd.Item) (W : World) : Prop where
 g : w.grownBy W (some R)
 r : R3Is R L As cs s kind j (Cd.unkF L u (Cd.codesL xs)) W
 own : OwnG KNs 25 W w.heap.size kv (xs.map (Cd.nodI L))
 hR : R < w.heap.size
 sz : Cd.sizeL xs ≤ j
section
variable {w W W' : World} {R : Nat} {L : Sg.SList} {As : Option Addr} {cs : Nat} {s : ByteArray} {kind : Int} {j j' : Nat} {u u' : Int} {kv : Value} {xs : List Cd.Item}
theorem K3.call (h : K3 w R L As cs s kind u j kv xs W) (hg : W.grownBy W' (some R)) (hr : R3Is R L As cs s kind j' (Cd.unkF L u (Cd.codesL xs)) W') (hj : j ≤ j') : K3 w R L As cs s kind u j' kv xs W' :=
 ⟨grown_trans h.g hg, hr, h.own.aside hg fun k e => by cases e; exact h.hR, h.hR, Nat.le_trans h.sz hj⟩
theorem K3.form (h : K3 w R L As cs s kind u j kv xs W) : ∃ A c, kv = .slice A xs.length c := by
 obtain ⟨A, c, e⟩ := h.own.form
 exact ⟨A, c, by rw [e, List.length_map]⟩
theorem K3.zero (hg : w.grownBy W (some R)) (hr : R3Is R L As cs s kind j u W) (hR : R < w.heap.size) : K3 w R L As cs s kind u j (.slice none 0 0) [] W :=
 ⟨hg, by rw [show Cd.codesL [] = [] by rw [Cd.codesL]]; exact hr, OwnG.nil _ _ _, hR, by rw [Cd.sizeL]; omega⟩
theorem K3.first {x : Cd.Item} {A : Option Addr} {c : Nat} (hg : w.grownBy W (some R)) (hr : R3Is R L As cs s kind j (Cd.unkF L u (Cd.codesI x)) W) (hR : R < w.heap.size) (hx : RdX W (okF w W) 8 encN (.slice A (Cd.nodI L x).length c) (Cd.nodI L x)) (hs : Cd.sizeI x ≤ j) :
  K3 w R L As cs s kind u j (.slice (some ⟨W.heap.size, 0, none⟩) 1 1) [x] (W.alloc (.cells #[.slice A (Cd.nodI L x).length c] 25)) := by
 have hb : Below W.heap.size W (W.alloc (.cells #[.slice A (Cd.nodI L x).length c] 25)) := (Below.refl _ _).alloc (Nat.le_refl _) _
 refine ⟨grown_below hg hb, ?_, ?_, hR, ?_⟩
 ·rw [show Cd.codesL [x] = Cd.codesI x by rw [Cd.codesL, Cd.codesL, List.append_nil]]
  exact hr.below hb
 ·exact OwnG.made (K := KNs) (e := 25) (w := W) (base := w.heap.size) (cs := [.slice A (Cd.nodI L x).length c]) hg.size rfl ⟨A, c, rfl, hx.keep fun b hb => ⟨⟨hb.2, hb.1⟩, rfl⟩⟩
 ·rw [Cd.sizeL, Cd.sizeL]
  exact hs
theorem K3.more {x : Cd.Item} {v' : Value} {W1 W2 : World} (h : K3 w R L As cs s kind u j kv xs W) (hg : W.grownBy W1 (some R)) (hr : R3Is R L As cs s kind j' (Cd.unkF L (Cd.unkF L u (Cd.codesL xs)) (Cd.codesI x)) W1) (hs : Cd.sizeI x + j ≤ j')
  (hb : Below W1.heap.size W1 W2) (hown : OwnG KNs 25 W' w.heap.size v' (xs.map (Cd.nodI L) ++ [Cd.nodI L x])) (hg2 : W2.grownBy W' kv.ownBlock) : K3 w R L As cs s kind u j' v' (xs ++ [x]) W' := by
 have hk : ∀ q, kv.ownBlock = some q → w.heap.size ≤ q ∧ q < W.heap.size := fun q e => h.own.lt q e
 have hg3 : w.grownBy W2 (some R) := grown_below (grown_trans h.g hg) hb
 have hr2 := hr.below hb
 refine ⟨?_, ?_, by rw [List.map_append]; exact hown, h.hR, ?_⟩
 ·cases e : kv.ownBlock with
  | none =>
   rw [e] at hg2
   exact grown_trans hg3 ⟨hg2.os, hg2.tape, hg2.output, hg2.size, fun i hi _ => hg2.block i hi (by simp)⟩
  | some q =>
   rw [e] at hg2
   exact grown_after hg3 hg2 (.inr ⟨q, rfl, (hk q e).1⟩)
 ·rw [Cd.codes_snoc, Cd.unk_append]
  exact hr2.keep (hg2.block R hr2.lt fun e => by have := (hk R e.symm).1; have := h.hR; omega)
 ·rw [Cd.size_snoc]
  have := h.sz
  omega
theorem K3.pre {W1 W2 : World} {A : Option Addr} {n c : Nat} {ns : List Tx.Node} (h : K3 w R L As cs s kind u j kv xs W) (hg : W.grownBy W1 (some R)) (hx : RdX W1 (okF W W1) 8 encN (.slice A n c) ns) (hb : Below W1.heap.size W1 W2) :
  OwnG KNs 25 W2 w.heap.size kv (xs.map (Cd.nodI L)) ∧ RdX W2 (fun b => b < W2.heap.size ∧ kv.ownBlock ≠ some b ∧ w.heap.size ≤ b) 8 encN (.slice A n c) ns ∧ w.heap.size ≤ W2.heap.size := by
 have hk : ∀ q, kv.ownBlock = some q → w.heap.size ≤ q ∧ q < W.heap.size := fun q e => h.own.lt q e
 refine ⟨(h.own.aside hg fun k e => by cases e; exact h.hR).kept hb, hx.keep fun b hbo => ⟨⟨Nat.lt_of_lt_of_le hbo.2 hb.size, fun e => ?_, Nat.le_trans h.g.size hbo.1⟩, hb.block b hbo.2⟩, Nat.le_trans h.g.size (Nat.le_trans hg.size hb.size)⟩
 have h1 := (hk b e).2
 have h2 : W.heap.size ≤ b := hbo.1
 omega
theorem K3.few (h : K3 w R L As cs s kind u j kv xs W) (hs : s.size ≤ 1000000) : xs.length ≤ 2000000 := by
 have h1 := Cd.size_count xs
 have h2 := h.sz
 have h3 := h.r.le
 omega
theorem K3.wrap {q : Int} {A : Option Addr} {c : Nat} (h : K3 w R L As cs s kind u j (.slice A xs.length c) xs W) (hq : q ≠ 1) (hs : s.size ≤ 1000000) :
  Calls Tryz.prog 90 #[.int .i64 q, .slice A xs.length c] W (fun e w' => ∃ A' c', e = .returned (.slice A' (Cd.nodI L (.mk (Cd.kindN q) [] 0 xs)).length c') ∧ Below W.heap.size W w' ∧ RetR R L As cs s kind u (.ok (.mk (Cd.kindN q) [] 0 xs) j) w (.returned (.tuple #[.slice A' (Cd.nodI L (.mk (Cd.kindN q) [] 0 xs)).length c', .bool true])) w') := by
 have hr := h.own.rd
 have hl : (xs.map (Cd.nodI L)).length = xs.length := List.length_map _
 have hsz := h.sz
 have hle := h.r.le
 have hfl : (xs.map (Cd.nodI L)).flatten = Cd.nodL L xs := Cd.nod_flat L xs
 have := wrapped3_any q (xs.map (Cd.nodI L)) A c W (fun b => b < W.heap.size ∧ w.heap.size ≤ b) (by rw [hl]; exact hr) (fun b hb => hb.1) (by rw [hl]; exact h.few hs) (by rw [hfl, Cd.nod_len]; omega) (by
  rw [hfl]
  intro x hx
  have := Cd.nod_depth L xs x hx
  omega)
 rw [hl] at this
 have he : wrapV q (xs.map (Cd.nodI L)) xs.length 0 = Cd.nodI L (.mk (Cd.kindN q) [] 0 xs) := by
  rw [← hl, wrap_end, hfl, Cd.nod_wrap L hq]
 rw [he] at this
 refine this.mono ?_
 rintro e w' ⟨A', c', rfl, hb, hx⟩
 refine ⟨A', c', rfl, hb, grown_below h.g hb, A', c', rfl, ?_, hx.keep fun b hb2 => ⟨⟨Nat.le_trans h.g.size hb2.1, hb2.2⟩, rfl⟩⟩
 rw [Cd.codes_wrap hq]
 exact h.r.below hb
end
structure Lp3 (w : World) (R : Nat) (L : Sg.SList) (As : Option Addr) (cs : Nat) (s : ByteArray) (kind u : Int) (p : Nat → Cd.R Cd.Item) (c : UInt8) (T : Cd.R (List Cd.Item)) (k j n : Nat) (kv : Value) (xs : List Cd.Item) (W : World) : Prop where
 st : K3 w R L As cs s kind u j kv xs W
 tot : Cd.cont xs (Cd.restG s.data.toList p c n j) = T
 fuel : s.data.toList.length - j < n
 le : k ≤ j
end Go.Proofs.YtenmkbpdkfhbjaaGreat
