/- code.resolve's visit: the walk.; code.resolve.; What was read is no larger than the string: plain. -/
import Derived.Test.YtenmkbpdkfhbjaaGreatRcCdVisit
import Derived.StillTailTactics
import Derived.Test.YtenmkbpdkfhbjaaGreatRcSgFmtPlain
import Derived.Laws.EntriesVeiled
import Derived.WalkArith
import Derived.Test.YtenmkbpdkfhbjaaGreatRcCdCode
namespace Go.Proofs.YtenmkbpdkfhbjaaGreat
open Go Go.RowKit

def VisSays (l : Sg.SList) (b1 b2 : Nat) (ok : Nat → Prop) (d : Nat) : Prop := ∀ (A : Option Addr) (c : Nat) (xs : List Cd.Item) (W : World), VEnv l b1 b2 W → RdH (KId (SW (Cd.signIx l)) d) 114 W ok (.slice A xs.length c) xs → (∀ q ∈ Cd.codesL xs, q.1.length ≤ 100) →
  Calls Tryz.prog 62 #[.slice A xs.length c, .pointer (some ⟨b1, 0, none⟩), .pointer (some ⟨b2, 0, none⟩)] W (RetVis l d ok A c xs W)
set_option maxRecDepth 100000 in
set_option maxHeartbeats 16000000 in
theorem visit_step (l : Sg.SList) (hl : Sg.checkV l = 0) (b1 b2 : Nat) (ok : Nat → Prop) (d : Nat) (ih : ∀ e, d = e + 1 → VisSays l b1 b2 ok e) : VisSays l b1 b2 ok d := by
 intro A c xs W henv hr hlen
 have IH := Lib.hid ih
 have HENV := Lib.hid henv
 have HR := Lib.hid hr
 have HLEN := Lib.hid hlen
 have HCHK := Lib.hid hl
 have hb : xs.length ≤ c ∧ c ≤ 9223372036854775807 := by
  obtain ⟨A', c', hv, h1, h2, -⟩ := hr
  cases hv
  exact ⟨h1, h2⟩
 clear ih henv hr hlen hl
 go_enter Tryz.func62, Tryz.ntmps62
 go_wp2_with fail
 go_loopg [12] xs.length (fun g i wr => ∃ k : Nat, k ≤ xs.length ∧ g = xs.length - k ∧ Value.int .i64 k = i ∧ Upd ok (Cd.signIx l) W wr ∧ Cd.unknownV l (Cd.codesL (xs.take k)) = none ∧ RdH (KId (SF (Cd.signIx l)) d) 114 wr ok (.slice A k c) (xs.take k))
 case atStart => exact ⟨0, Nat.zero_le _, rfl, rfl, Upd.refl _ _ _, rfl, ⟨A, c, by simp, Nat.zero_le _, hb.2, fun h => absurd h (by simp)⟩⟩
 case round =>
  obtain ⟨k, hk, rfl, rfl, hu, hno, hdone⟩ := hrel
  have HU := Lib.hid hu
  have HNO := Lib.hid hno
  have HD := Lib.hid hdone
  clear hu hno hdone
  by_cases hlt : k < xs.length
  ·obtain ⟨x, hx⟩ : ∃ x, xs[k]? = some x := ⟨_, List.getElem?_eq_getElem hlt⟩
   obtain ⟨e, b, cur, z, A', c', he, hA, hok, hcur, hz, hkids, hcs⟩ := (HU.out.kid (fun c => .inr rfl) d _ _ HR.out).one_at hx
   have HX := Lib.hid hx
   have HE := Lib.hid he
   have HOK := Lib.hid hok
   have HCUR := Lib.hid hcur
   have HSG := Lib.hid hz
   have HKID := Lib.hid hkids
   have HCS := Lib.hid hcs
   have k0 : cur[k * 11]? = some (.int .i64 x.node.kind) := by have := hcs 0 _ rfl; simpa using this
   have k2 : cur[k * 11 + 2]? = some (.int .i64 z) := hcs 2 _ rfl
   have k8 : cur[k * 11 + 8]? = some (.string (Cd.bs x.code)) := hcs 8 _ rfl
   have k9 : cur[k * 11 + 9]? = some (.int .i64 x.pos) := hcs 9 _ rfl
   have k10 : cur[k * 11 + 10]? = some (.slice A' x.kids.length c') := hcs 10 _ rfl
   have K0 := Lib.hid k0
   have K8 := Lib.hid k8
   have f0 := (in_box hcur (k * 11)).1.trans k0
   have f2 := (in_box hcur (k * 11 + 2)).1.trans k2
   have y2 := (in_box hcur (k * 11 + 2)).2
   have f8 := (in_box hcur (k * 11 + 8)).1.trans k8
   have f9 := (in_box hcur (k * 11 + 9)).1.trans k9
   have hI0 : (0 : Int) ≤ (k : Int) := by omega
   have hI1 : (k : Int) < (xs.length : Int) := by omega
   have d1 : decide ((k : Int) < (xs.length : Int)) = true := by simpa using hlt
   have hsplit : Cd.codesL xs = Cd.codesL (xs.take k) ++ (Cd.codesI x ++ Cd.codesL (xs.drop (k + 1))) := by
    have e1 : xs = xs.take k ++ (x :: xs.drop (k + 1)) := by
     have e2 : xs.drop k = x :: xs.drop (k + 1) := by
      rw [List.drop_eq_getElem_cons hlt]
      congr 1
      have := List.getElem?_eq_getElem hlt
      rw [hx] at this
      exact (Option.some.inj this).symm
     rw [← e2, List.take_append_drop]
    conv => lhs; rw [e1]
    rw [Cd.codesL_app, Cd.codesL]
   have hcI : Cd.codesI x = (if x.node.kind = 1 then [(x.code, x.pos)] else []) ++ Cd.codesL x.kids := by cases x; rw [Cd.codesI]; rfl
   have HUN : Hid (Cd.unknownV l (Cd.codesL xs) = Cd.unknownV l (Cd.codesI x ++ Cd.codesL (xs.drop (k + 1)))) := Lib.hid (by rw [hsplit, Cd.unknown_app, HNO.out])
   have hlenK : ∀ q ∈ Cd.codesL x.kids, q.1.length ≤ 100 := fun q hq => HLEN.out q (by rw [hsplit, hcI]; simp [hq])
   have HLK := Lib.hid hlenK
   have hlen8 : x.node.kind = 1 → x.code.length ≤ 100 := fun h1 => HLEN.out (x.code, x.pos) (by rw [hsplit, hcI, if_pos h1]; simp)
   have HCI := Lib.hid hcI
   have HL8 := Lib.hid hlen8
   subst hA
   clear hx he hok hcur hz hkids hcs k0 k2 k8 k9 k10 hsplit hcI hlenK hlen8
   go_upto_if 23 with fail
   go_cut [24] (fun _ wc => Upd ok (Cd.signIx l) wr wc ∧ ∃ z', wc.cell? ⟨b, k * 11 + 2, none⟩ = some (.int .i64 z') ∧ (if x.node.kind = 1 then z' = Cd.signIx l x.code ∧ Cd.signIx l x.code ≠ -1 else z' = x.node.sign))
   case first =>
    by_cases hk1 : x.node.kind = 1
    ·have hq1 : (x.node.kind == 1) = true := by simpa using hk1
     obtain ⟨⟨bm, nm, hbm, hom⟩, -⟩ := HENV.out.upd HU.out
     have c1 := (in_box hbm 0).1
     simp at c1
     have hsz : (Cd.bs x.code).size ≤ maxLen := by
      have h1 := HL8.out hk1
      have h2 : (Cd.bs x.code).size = x.code.length := rfl
      unfold maxLen
      omega
     have hlk := fun (n : Nat) => run_nums (w := wr.drewN n) HCHK.out (b := bm) (n := nm) hom (c := Cd.bs x.code) hsz
     simp only [Cd.bs_list] at hlk
     have HLKs : Hid (∀ n : Nat, (Instr.lookup 100 (.map (some bm)) (.string (Cd.bs x.code)) true).run Tryz.prog (wr.drewN n) = .ok (.tuple #[.int .i64 (if Cd.signIx l x.code = -1 then 0 else Cd.signIx l x.code), .bool (decide (Cd.signIx l x.code ≠ -1))]) (wr.drewN n)) := Lib.hid hlk
     have HK1 := Lib.hid hk1
     clear hbm hom hsz hlk hk1
     by_cases hq : Cd.signIx l x.code = -1
     ·have hlk : ∀ n : Nat, (Instr.lookup 100 (.map (some bm)) (.string (Cd.bs x.code)) true).run Tryz.prog (wr.drewN n) = .ok (.tuple #[.int .i64 0, .bool false]) (wr.drewN n) := fun n => by
       have := HLKs.out n
       rw [if_pos hq] at this
       rw [this]
       simp [hq]
      have HUX : Hid (Cd.unknownV l (Cd.codesL xs) = some x.pos) := Lib.hid (by
       rw [HUN.out, HCI.out, if_pos HK1.out]
       unfold Cd.unknownV
       simp [hq])
      clear hq
      go_wp2_with fail
      go_quiet (fail)
      go_wp2_with fail
      go_ret
      refine ⟨HU.out.trans ((Upd.refl _ _ _).drew _), ?_⟩
      rw [HUX.out]
      rfl
     ·obtain ⟨q, hqq⟩ : ∃ q, q = Cd.signIx l x.code := ⟨_, rfl⟩
      have hlk : ∀ n : Nat, (Instr.lookup 100 (.map (some bm)) (.string (Cd.bs x.code)) true).run Tryz.prog (wr.drewN n) = .ok (.tuple #[.int .i64 q, .bool true]) (wr.drewN n) := fun n => by
       have := HLKs.out n
       rw [if_neg hq] at this
       rw [this, hqq]
       simp [hq]
      have HQ := Lib.hid hqq
      have HQN := Lib.hid hq
      clear hq hqq
      go_wp2_with fail
      go_quiet (fail)
      go_wp2_with fail
      go_meet
      case rel =>
       have hcc : (wr.drewN nq).heap[b]? = some (.cells cur 114 (0, 0)) := HCUR.out
       have hu2 := Upd.set (f := Cd.signIx l) (j := k) HOK.out hcc (by rw [K0.out, HK1.out]) K8.out
       rw [Cd.bs_list, ← HQ.out] at hu2
       refine ⟨((Upd.refl _ _ _).drew _).trans hu2, q, ?_, by rw [if_pos HK1.out]; exact ⟨HQ.out, HQN.out⟩⟩
       have hlt8 := (Array.getElem?_eq_some_iff.1 K8.out).1
       have hlt2 : k * 11 + 2 < cur.size := by omega
       exact (in_box (Go.Joins.block_setCell (i := k * 11 + 2) hcc (.int .i64 q)) (k * 11 + 2)).1.trans (by simp [hlt2])
    ·have hq1 : (x.node.kind == 1) = false := by simpa using hk1
     have HK1 := Lib.hid hk1
     clear hk1
     go_wp2_with fail
     go_meet
     case rel => exact ⟨Upd.refl _ _ _, z, f2, by have := HSG.out; rw [if_neg HK1.out] at this ⊢; exact this⟩
   case rest =>
    obtain ⟨huc, z', hz', hsg⟩ := hcut
    have HUC := Lib.hid huc
    have HSG2 := Lib.hid hsg
    obtain ⟨e2, b2', cur2, z2, A2, c2, he2, hA2, hok2, hcur2, hz2, hkids2, hcs2⟩ := ((HU.out.trans huc).kid (fun c => .inr rfl) d _ _ HR.out).one_at HX.out
    injection hA2 with hA2
    injection hA2 with hA2
    subst hA2
    have m2 : cur2[k * 11 + 2]? = some (.int .i64 z2) := hcs2 2 _ rfl
    have m8 : cur2[k * 11 + 8]? = some (.string (Cd.bs x.code)) := hcs2 8 _ rfl
    have m10 : cur2[k * 11 + 10]? = some (.slice A2 x.kids.length c2) := hcs2 10 _ rfl
    have hzz : z2 = z' := by
     rw [(in_box hcur2 _).1, m2] at hz'
     injection hz' with hz'
     injection hz' with _ hz'
    subst hzz
    have g10 := (in_box hcur2 (k * 11 + 10)).1.trans m10
    have henv := HENV.out.upd (HU.out.trans huc)
    have v0 := (in_box henv.vis 0).1
    simp at v0
    have HCUR2 := Lib.hid hcur2
    have HK2 := Lib.hid hkids2
    have HEN2 := Lib.hid henv
    have HE2 := Lib.hid he2
    have M2 := Lib.hid m2
    have M8 := Lib.hid m8
    have HCS2 := Lib.hid hcs2
    have HOK2 := Lib.hid hok2
    have HCALL : Hid (Calls Tryz.prog 62 #[.slice A2 x.kids.length c2, .pointer (some ⟨b1, 0, none⟩), .pointer (some ⟨b2, 0, none⟩)] wc.drew (RetVis l e2 ok A2 c2 x.kids wc.drew)) := Lib.hid (IH.out e2 he2 A2 c2 x.kids wc.drew (henv.upd ((Upd.refl ok (Cd.signIx l) _).drew 1)) (hkids2.keep fun b hb => ⟨hb, rfl⟩) HLK.out)
    clear huc hsg hz' hcur2 hz2 hkids2 hcs2 hok2 m2 m8 m10 henv he2 f0 f2 y2 f8 f9
    unfold RetVis at HCALL
    have hx1 : ∀ Z, Cd.unknownV l (Cd.codesL x.kids) = Z → Cd.unknownV l (Cd.codesI x) = Z := fun Z hZ => by
     rw [HCI.out]
     by_cases h1 : x.node.kind = 1
     ·have := HSG2.out
      rw [if_pos h1] at this ⊢
      rw [Cd.unknown_app]
      have h3 : Cd.unknownV l [(x.code, x.pos)] = none := by unfold Cd.unknownV; simp [this.2]
      rw [h3]
      exact hZ
     ·rw [if_neg h1]
      exact hZ
    have HX1 := Lib.hid hx1
    clear hx1
    go_wp2_with fail
    cases hun : Cd.unknownV l (Cd.codesL x.kids) with
    | some p =>
     rw [hun] at HCALL
     have HUP : Hid (Cd.unknownV l (Cd.codesL xs) = some p) := Lib.hid (by rw [HUN.out, Cd.unknown_app, HX1.out _ hun])
     have d2 : decide ((0 : Int) ≤ (p : Int)) = true := by simp
     clear hun
     go_region_with (refine HCALL.out.mono ?_; rintro e w3 ⟨hu3, rfl⟩; have HU3 := Lib.hid hu3; clear hu3)
     all_goals
      go_wp2_with fail
      go_ret
      refine ⟨(HU.out.trans HUC.out).trans (((Upd.refl _ _ _).drew 1).trans HU3.out), ?_⟩
      rw [HUP.out]
      rfl
    | none =>
     rw [hun] at HCALL
     have HNX : Hid (Cd.unknownV l (Cd.codesL (xs.take (k + 1))) = none) := Lib.hid (by
      have e1 : xs.take (k + 1) = xs.take k ++ [x] := by rw [List.take_add_one, HX.out]; rfl
      rw [e1, Cd.codesL_app, Cd.unknown_app, HNO.out]
      show Cd.unknownV l (Cd.codesL [x]) = none
      rw [Cd.codesL, Cd.codesL, List.append_nil]
      exact HX1.out _ hun)
     clear hun
     go_region_with (refine HCALL.out.mono ?_; rintro e w3 ⟨hu3, rfl, hk3⟩; have HU3 := Lib.hid hu3; have HK3 := Lib.hid hk3; clear hu3 hk3)
     all_goals
      go_wp2_with fail
      go_roundg (xs.length - (k + 1))
      case measure => omega
      case rel =>
       have hu4 : Upd ok (Cd.signIx l) wc w3 := ((Upd.refl _ _ _).drew 1).trans HU3.out
       obtain ⟨cur3, z3, hb3, hcs3, hz3⟩ := hu4.row HCUR2.out HCS2.out
       refine ⟨k + 1, by omega, rfl, by go_num, (HU.out.trans HUC.out).trans hu4, HNX.out, ?_⟩
       have hold := (HUC.out.trans hu4).kid (S := SF (Cd.signIx l)) (fun c => rfl) d _ _ HD.out
       have hdd := HE2.out
       subst hdd
       refine hold.grow rfl HOK2.out hb3 HX.out (cs := encNz x.node z3 ++ [.string (Cd.bs x.code), .int .i64 x.pos, .slice A2 x.kids.length c2]) ⟨z3, .slice A2 x.kids.length c2, rfl, ?_, HK3.out⟩ hcs3 (by omega) hb.2
       have h5 := HSG2.out
       by_cases h1 : x.node.kind = 1
       ·rw [if_pos h1] at h5 ⊢
        rcases hz3 with e | ⟨_, e⟩
        ·rw [e]; exact h5.1
        ·exact e
       ·rw [if_neg h1] at h5 ⊢
        rcases hz3 with e | ⟨q, _⟩
        ·rw [e]; exact h5
        ·exact absurd q h1
  ·have hkx : k = xs.length := by omega
   have d1 : decide ((k : Int) < (xs.length : Int)) = false := by simpa using hlt
   have HNX : Hid (Cd.unknownV l (Cd.codesL xs) = none) := Lib.hid (by have := HNO.out; rw [hkx, List.take_length] at this; exact this)
   have HDX : Hid (RdH (KId (SF (Cd.signIx l)) d) 114 wr ok (.slice A xs.length c) xs) := Lib.hid (by have := HD.out; rw [hkx, List.take_length] at this; exact this)
   clear hkx
   go_wp2_with fail
   go_ret
   refine ⟨HU.out, ?_⟩
   rw [HNX.out]
   exact ⟨rfl, HDX.out⟩
theorem visit_any (l : Sg.SList) (hl : Sg.checkV l = 0) (b1 b2 : Nat) (ok : Nat → Prop) : ∀ d, VisSays l b1 b2 ok d
 | 0 => visit_step l hl b1 b2 ok 0 fun e h => by omega
 | d + 1 => visit_step l hl b1 b2 ok (d + 1) fun e h => by
  have : e = d := by omega
  subst this
  exact visit_any l hl b1 b2 ok e
end Go.Proofs.YtenmkbpdkfhbjaaGreat
namespace Go.Proofs.YtenmkbpdkfhbjaaGreat
open Go Go.RowKit

def RetRes (l : Sg.SList) (ok : Nat → Prop) (A : Option Addr) (c : Nat) (xs : List Cd.Item) (w : World) (e : Ending) (w' : World) : Prop :=
 (∃ W, Below w.heap.size w W ∧ Upd ok (Cd.signIx l) W w') ∧ match Cd.unknownV l (Cd.codesL xs) with
  | some k => e = .returned (.int .i64 k)
  | none => e = .returned (.int .i64 (-1)) ∧ RdH (KI (SF (Cd.signIx l))) 114 w' ok (.slice A xs.length c) xs
set_option maxRecDepth 100000 in
set_option maxHeartbeats 16000000 in
theorem resolve_any (v : Value) (l : Sg.SList) (hl : Sg.checkV l = 0) (ok : Nat → Prop) (A : Option Addr) (c : Nat) (xs : List Cd.Item) (w : World) (hr : RdSL w w.heap.size v l) (hok : ∀ b, ok b → b < w.heap.size) (hx : RdH (KI S0) 114 w ok (.slice A xs.length c) xs) (hlen : ∀ q ∈ Cd.codesL xs, q.1.length ≤ 100) :
  Calls Tryz.prog 41 #[v, .slice A xs.length c] w (RetRes l ok A c xs w) := by
 obtain ⟨d, hd⟩ := hx.deep
 have HX : Hid (RdH (KId (SW (Cd.signIx l)) d) 114 w ok (.slice A xs.length c) xs) := Lib.hid (hd.imp ((kid_size _ _).trans (kid_size _ _).symm) fun i cs a _ ha => kid_up (fun c z h => .inl h) d d (Nat.le_refl _) cs a ha)
 have HVA := Lib.hid (fun (b1 b2 : Nat) (W : World) (he : VEnv l b1 b2 W) (hW : RdH (KId (SW (Cd.signIx l)) d) 114 W ok (.slice A xs.length c) xs) => visit_any l hl b1 b2 ok d A c xs W he hW hlen)
 obtain ⟨⟨u, rfl, hg⟩, hf⟩ := hr
 obtain ⟨A0, c0, rfl⟩ := hg.form
 have HG := Lib.hid hg
 have HFS := Lib.hid hf
 have HOK := Lib.hid hok
 have hlen30 : l.signs.length ≤ 200 := (Sg.check_sign hl).2.1
 have hmm := @run_makeMap Tryz.prog
 have hmf : ∀ (fn : Fn) (first cap : Array Value) (w : World), (Instr.makeFunc fn first cap).run Tryz.prog w = .ok (.func fn first cap) w := fun _ _ _ _ => rfl
 clear hd hx hg hf hok hlen
 obtain ⟨W2, hW2⟩ : ∃ W2, W2 = ((w.alloc (.cells #[.int .i64 l.periods, .slice A0 l.signs.length c0] 24)).alloc (.map #[] 0)).alloc (.cells #[.map (some (w.heap.size + 1))] 100) := ⟨_, rfl⟩
 have hb2 : Below w.heap.size w W2 := by rw [hW2]; exact (((Below.refl _ _).alloc (Nat.le_refl _) _).alloc (by simp) _).alloc (by simp; omega) _
 have hN : W2.heap[w.heap.size + 1 + 1]? = some (.cells #[.map (some (w.heap.size + 1))] 100 (0, 0)) := by
  rw [hW2]
  have := heap_alloc_new ((w.alloc (.cells #[.int .i64 l.periods, .slice A0 l.signs.length c0] 24)).alloc (.map #[] 0)) (.cells #[.map (some (w.heap.size + 1))] 100)
  simpa using this
 have hM : W2.ownsMap Tryz.prog 9 (plainElem Tryz.prog 3) (w.heap.size + 1) 0 (numsD l.signs 0) := by
  have q := World.ownsMap_made (H := Unit) (w.alloc (.cells #[.int .i64 l.periods, .slice A0 l.signs.length c0] 24)) Tryz.prog 9 (plainElem Tryz.prog 3)
  have hs : (w.alloc (.cells #[.int .i64 l.periods, .slice A0 l.signs.length c0] 24)).heap.size = w.heap.size + 1 := by simp
  rw [hs] at q
  rw [hW2]
  exact q.alloc _
 have HW2 := Lib.hid hW2
 have HB2 := Lib.hid hb2
 have HN := Lib.hid hN
 have HM := Lib.hid hM
 clear hW2 hb2 hN hM
 go_enter Tryz.func41, Tryz.ntmps41
 go_wp2_with fail
 rw [← HW2.out]
 go_loopg [13] l.signs.length (fun g i wr => ∃ k : Nat, k ≤ l.signs.length ∧ g = l.signs.length - k ∧ Value.int .i64 k = i ∧ Below w.heap.size w wr ∧ wr.heap[w.heap.size + 1 + 1]? = some (.cells #[.map (some (w.heap.size + 1))] 100 (0, 0)) ∧ wr.ownsMap Tryz.prog 9 (plainElem Tryz.prog 3) (w.heap.size + 1) k (numsD l.signs k))
 case atStart => exact ⟨0, Nat.zero_le _, rfl, rfl, HB2.out, HN.out, HM.out⟩
 case round =>
  clear HB2 HN HM
  obtain ⟨k, hk, rfl, rfl, hbel, hnum, hown⟩ := hrel
  have HBW := Lib.hid hbel
  have HNW := Lib.hid hnum
  have HOW := Lib.hid hown
  have n0 := (in_box hnum 0).1
  simp at n0
  have hszk : w.heap.size + 1 < wr.heap.size := hown.lt
  have hszn := lt_of_some hnum
  clear hbel hown hnum hmm
  by_cases hlt : k < l.signs.length
  ·obtain ⟨b, off, rfl, hb, hcell⟩ := HG.out.five (by omega)
   obtain ⟨s, hs⟩ : ∃ s, l.signs[k]? = some s := ⟨_, List.getElem?_eq_getElem hlt⟩
   obtain ⟨uv, hrd, g0, g1, g2, g3, g4⟩ := hcell k s hs
   have f0 := (HBW.out.cell (p := ⟨b, off + k * 5, none⟩) hb).trans g0
   have f1 := (HBW.out.cell (p := ⟨b, off + k * 5 + 1, none⟩) hb).trans g1
   have f2 := (HBW.out.cell (p := ⟨b, off + k * 5 + 2, none⟩) hb).trans g2
   have f3 := (HBW.out.cell (p := ⟨b, off + k * 5 + 3, none⟩) hb).trans g3
   have f4 := (HBW.out.cell (p := ⟨b, off + k * 5 + 4, none⟩) hb).trans g4
   have hcs := (HFS.out s (List.mem_of_getElem? hs)).1
   have HNX : Hid (numsD l.signs (k + 1) = (numsD l.signs k).put (.string s.code.data.toList) (.lit (.int .i64 k))) := Lib.hid (by rw [numsD, hs])
   have HKEY : Hid (keyOf Tryz.prog 9 (.string s.code) = some (.string s.code.data.toList)) := Lib.hid (Go.WideMaps.keyOf_string_mk Tryz.underlying9 hcs)
   have HPE : Hid (plainElem (H := Unit) Tryz.prog 3 (.int .i64 (k : Int)) = some (.lit (.int .i64 (k : Int)), [])) := Lib.hid (plainElem_int Tryz.underlying3 (Go.WalkArith.wf_i64 (by omega)))
   have hI0 : (0 : Int) ≤ (k : Int) := by omega
   have hI1 : (k : Int) < (l.signs.length : Int) := by omega
   have d1 : decide ((k : Int) < (l.signs.length : Int)) = true := by simpa using hlt
   obtain ⟨A2, c2, rfl, -⟩ := hrd
   clear hcell hs g0 g1 g2 g3 g4
   obtain ⟨wS, hwS⟩ : ∃ wS, wS = wr.alloc (.cells #[.string s.code, .int .i64 s.wide, .int .i64 s.high, .bool s.even, .slice A2 s.values.length c2] 66) := ⟨_, rfl⟩
   have hsb : wS.heap[wr.heap.size]? = some (.cells #[.string s.code, .int .i64 s.wide, .int .i64 s.high, .bool s.even, .slice A2 s.values.length c2] 66 (0, 0)) := by rw [hwS]; exact heap_alloc_new _ _
   have hbS : Below wr.heap.size wr wS := by rw [hwS]; exact (Below.refl _ _).alloc (Nat.le_refl _) _
   have s0 : wS.cell? ⟨wr.heap.size, 0, none⟩ = some (.string s.code) := by simp [World.cell?, hsb]
   have HOS := Lib.hid (ownsMap_below HOW.out hbS hszk)
   have HNS := Lib.hid ((hbS.block _ hszn).trans HNW.out)
   have HBS := Lib.hid (HBW.out.trans (hbS.mono HBW.out.size))
   have n0S := (in_box HNS.out 0).1
   simp at n0S
   have HWS := Lib.hid hwS
   clear hwS hsb hbS
   go_upto_region 5 with fail
   rw [← HWS.out]
   clear n0 f0 f1 f2 f3 f4
   go_wp2_with (at_mapUpdate; refine wpList_mapUpdate_own _ rfl _ _ _ 100 rfl 9 3 keyedS Tryz.underlying100 _ (w.heap.size + 1) k _ rfl HOS.out (by unfold maxLen; omega) _ _ _ rfl rfl HKEY.out _ [] HPE.out ?_; intro wm hown1 hgrow1)
   have HOM : Hid (wm.ownsMap Tryz.prog 9 (plainElem Tryz.prog 3) (w.heap.size + 1) (k + 1) (numsD l.signs (k + 1))) := Lib.hid (by rw [HNX.out]; exact hown1)
   have HNM := Lib.hid ((hgrow1.block _ (lt_of_some HNS.out) (by simp)).trans HNS.out)
   have HBM : Hid (Below w.heap.size w wm) := Lib.hid (HBS.out.grown hgrow1 HBS.out.size (fun q e => by cases e; omega))
   clear hown1 hgrow1 n0S s0
   go_wp2_with fail
   go_roundg (l.signs.length - (k + 1))
   case measure => omega
   case rel => exact ⟨k + 1, by omega, rfl, by go_num, HBM.out, HNM.out, HOM.out⟩
  ·have hkx : k = l.signs.length := by omega
   have d1 : decide ((k : Int) < (l.signs.length : Int)) = false := by simpa using hlt
   have HOZ : Hid (wr.ownsMap Tryz.prog 9 (plainElem Tryz.prog 3) (w.heap.size + 1) k (numsD l.signs l.signs.length)) := Lib.hid (by have := HOW.out; rw [hkx] at this ⊢; exact this)
   obtain ⟨wv, hwv⟩ : ∃ wv, wv = wr.alloc (.cells #[.func (.func 62) #[] #[.pointer (some ⟨w.heap.size + 1 + 1, 0, none⟩), .pointer (some ⟨wr.heap.size, 0, none⟩)]] 111) := ⟨_, rfl⟩
   have hbv : Below wr.heap.size wr wv := by rw [hwv]; exact (Below.refl _ _).alloc (Nat.le_refl _) _
   have henv : VEnv l (w.heap.size + 1 + 1) wr.heap.size wv := ⟨⟨_, k, (hbv.block _ hszn).trans HNW.out, ownsMap_below HOZ.out hbv hszk⟩, by rw [hwv]; exact heap_alloc_new _ _⟩
   have HV := Lib.hid (HVA.out _ _ wv henv (HX.out.keep fun b hb => ⟨hb, (hbv.block b (Nat.lt_of_lt_of_le (HOK.out b hb) HBW.out.size)).trans (HBW.out.block b (HOK.out b hb))⟩))
   have HBV := Lib.hid (HBW.out.trans (hbv.mono HBW.out.size))
   have fv := (in_box henv.vis 0).1
   simp at fv
   have HWV := Lib.hid hwv
   clear hkx hwv hbv henv n0
   go_upto_region 9 with fail
   rw [← HWV.out]
   unfold RetVis at HV
   cases hun : Cd.unknownV l (Cd.codesL xs) with
   | some p =>
    rw [hun] at HV
    have HUN := Lib.hid hun
    clear hun
    go_wp2_with fail
    refine HV.out.mono ?_
    rintro e w3 ⟨hu3, rfl⟩
    have HU3 := Lib.hid hu3
    clear hu3
    go_wp2_with fail
    go_ret
    refine ⟨⟨wv, HBV.out, HU3.out⟩, ?_⟩
    rw [HUN.out]
    rfl
   | none =>
    rw [hun] at HV
    have HUN := Lib.hid hun
    clear hun
    go_wp2_with fail
    refine HV.out.mono ?_
    rintro e w3 ⟨hu3, rfl, hk3⟩
    have HU3 := Lib.hid hu3
    have HK3 := Lib.hid hk3
    clear hu3 hk3
    go_wp2_with fail
    go_ret
    refine ⟨⟨wv, HBV.out, HU3.out⟩, ?_⟩
    rw [HUN.out]
    exact ⟨rfl, HK3.out.imp (kid_size _ _).symm fun i cs a _ ha => ⟨d, ha⟩⟩
end Go.Proofs.YtenmkbpdkfhbjaaGreat
namespace Cd
open Go
def Sz (k : Nat) : R Item → Prop
 | .bad _ => True
 | .ok x k1 => sizeI x + k ≤ k1 ∧ ∀ q ∈ codesI x, q.1.length ≤ 8
def SzL (k : Nat) : R (List Item) → Prop
 | .bad _ => True
 | .ok xs k1 => sizeL xs + xs.length + k ≤ k1 + 1 ∧ 0 < xs.length ∧ ∀ q ∈ codesL xs, q.1.length ≤ 8
def SzO (k : Nat) : R (Item × Bool) → Prop
 | .bad _ => True
 | .ok x k1 => sizeI x.1 + k ≤ k1 ∧ ∀ q ∈ codesI x.1, q.1.length ≤ 8
section
variable {s : List UInt8}
theorem size_mk (n : Tx.Node) (c : List UInt8) (p : Nat) (ks : List Item) : sizeI (.mk n c p ks) = sizeL ks + 1 := by rw [sizeI]
theorem codes_mk {n : Tx.Node} {c : List UInt8} {p : Nat} {ks : List Item} (hn : n.kind ≠ 1) : codesI (.mk n c p ks) = codesL ks := by rw [codesI, if_neg hn]; rfl
theorem sz_glyph (line : Bool) (k : Nat) : Sz k (glyphG s line k) := by
 rw [glyph_eq]
 cases s[k]? with
 | none => trivial
 | some c =>
  simp only
  split
  ·unfold glyphE
   have hgt := code_gt (s := s) k
   have h8 := code_len (s := s) k
   have key : ∀ (mi : Bool) (e1 : Nat), codeEnd s k ≤ e1 → Sz k ((turnG s e1).bind fun tn e2 => .ok (.mk (glyphN tn mi (if line = true then stateOf s[e2]? else 0)) ((s.drop k).take (codeEnd s k - k)) k []) (if (if line = true then stateOf s[e2]? else 0) = 0 then e2 else e2 + 1)) := fun mi e1 he => by
    have hm := turn_mono (s := s) e1
    cases ht : turnG s e1 with
    | bad j => trivial
    | ok tn e2 =>
     rw [ht] at hm
     have hm' : e1 ≤ e2 := hm
     have := (st_le ((if line = true then stateOf s[e2]? else 0) = 0) e2).1
     refine ⟨by rw [size_mk, sizeL]; omega, fun q hq => ?_⟩
     rw [codesI, codesL, List.append_nil, if_pos (show (glyphN tn mi (if line = true then stateOf s[e2]? else 0)).kind = 1 from rfl), List.mem_singleton] at hq
     subst hq
     simp only [List.length_take]
     omega
   cases sees s (codeEnd s k) 92 with
   | true => exact key _ _ (by omega)
   | false => exact key _ _ (by omega)
  ·trivial
theorem sz_leaf (k : Nat) : Sz k (leafG s k) := by
 unfold leafG
 split
 ·cases h1 : digitG s 48 57 (k + 1) with
  | bad j => trivial
  | ok a k1 =>
   have m1 := digit_mono (s := s) 48 57 (k + 1)
   rw [h1] at m1
   have m1' : k + 1 ≤ k1 := m1
   simp only [R.bind]
   cases h2 : must s k1 45 with
   | bad j => trivial
   | ok u k2 =>
    have m2 := must_mono (s := s) k1 45
    rw [h2] at m2
    have m2' : k1 ≤ k2 := m2
    dsimp only
    cases h3 : digitG s 48 57 k2 with
    | bad j => trivial
    | ok b k3 =>
     have m3 := digit_mono (s := s) 48 57 k2
     rw [h3] at m3
     have m3' : k2 ≤ k3 := m3
     dsimp only
     cases h4 : must s k3 125 with
     | bad j => trivial
     | ok u2 k4 =>
      have m4 := must_mono (s := s) k3 125
      rw [h4] at m4
      have m4' : k3 ≤ k4 := m4
      refine ⟨by rw [size_mk, sizeL]; omega, fun q hq => ?_⟩
      rw [codes_mk (show (gapN _ _).kind ≠ 1 from (by decide : (6 : Int) ≠ 1)), codesL] at hq
      cases hq
 ·exact sz_glyph true k
theorem sz_sep {p : Nat → R Item} {c : UInt8} (hp : ∀ k, Sz k (p k)) : ∀ (n k : Nat), SzL k (sepG s p c n k)
 | 0, k => trivial
 | n + 1, k => by
  rw [sepG]
  have h1 := hp k
  cases hq : p k with
  | bad j => trivial
  | ok x k1 =>
   rw [hq] at h1
   obtain ⟨h1, h1c⟩ := h1
   simp only [R.bind]
   split
   ·have h2 := sz_sep (c := c) hp n (k1 + 1)
    cases hr : sepG s p c n (k1 + 1) with
    | bad j => trivial
    | ok xs k2 =>
     rw [hr] at h2
     obtain ⟨h2, h2l, h2c⟩ := h2
     refine ⟨by rw [sizeL, List.length_cons]; omega, by simp, fun q hq => ?_⟩
     rw [codesL] at hq
     rcases List.mem_append.1 hq with hq | hq
     ·exact h1c q hq
     ·exact h2c q hq
   ·refine ⟨by rw [sizeL, sizeL, List.length_singleton]; omega, by simp, fun q hq => ?_⟩
    rw [codesL, codesL, List.append_nil] at hq
    exact h1c q hq
theorem sz_one {kind : Int} (hn : kind ≠ 1) {x : Item} {xs : List Item} {k k1 k2 : Nat} (hx : sizeI x + k ≤ k1) (hxc : ∀ q ∈ codesI x, q.1.length ≤ 8) (h : SzL (k1 + 1) (.ok xs k2)) : Sz k (.ok (one kind (x :: xs)) k2) := by
 obtain ⟨h1, h2, h3⟩ := h
 cases xs with
 | nil => simp at h2
 | cons y ys =>
  have e : one kind (x :: y :: ys) = .mk (kindN kind) [] 0 (x :: y :: ys) := rfl
  rw [e]
  refine ⟨by rw [size_mk, sizeL]; simp only [List.length_cons] at h1; omega, fun q hq => ?_⟩
  rw [codes_mk hn, codesL] at hq
  rcases List.mem_append.1 hq with hq | hq
  ·exact hxc q hq
  ·exact h3 q hq
theorem sz_beside {ov : Nat → R (Item × Bool)} (h : ∀ k, SzO k (ov k)) (k : Nat) : Sz k (besideG s ov k) := by
 unfold besideG
 have h1 := h k
 cases hq : ov k with
 | bad j => trivial
 | ok x k1 =>
  rw [hq] at h1
  obtain ⟨h1, h1c⟩ := h1
  simp only [R.bind]
  split
  ·trivial
  ·split
   ·have h2 := sz_sep (s := s) (c := 42) (p := fun j => (ov j).bind fun y j1 => .ok y.1 j1) (fun j => by
     have := h j
     cases hj : ov j with
     | bad _ => trivial
     | ok y j1 => rw [hj] at this; exact this) (N s) (k1 + 1)
    show Sz k ((sepG s (fun j => (ov j).bind fun y j1 => R.ok y.1 j1) 42 (N s) (k1 + 1)).bind fun xs k2 => .ok (one 2 (x.1 :: xs)) k2)
    revert h2
    generalize sepG s (fun j => (ov j).bind fun y j1 => R.ok y.1 j1) 42 (N s) (k1 + 1) = r
    intro h2
    cases r with
    | bad _ => trivial
    | ok xs k2 => exact sz_one (show (_ : Int) ≠ 1 by decide) h1 h1c h2
   ·exact ⟨h1, h1c⟩
theorem sz_above {ov : Nat → R (Item × Bool)} (h : ∀ k, SzO k (ov k)) (b : Bool) (k : Nat) : Sz k (aboveG s ov b k) := by
 unfold aboveG
 have h1 := sz_beside (s := s) h k
 cases hq : besideG s ov k with
 | bad j => trivial
 | ok x k1 =>
  rw [hq] at h1
  obtain ⟨h1, h1c⟩ := h1
  simp only [R.bind]
  split
  ·trivial
  ·split
   ·have h2 := sz_sep (s := s) (c := 58) (p := besideG s ov) (sz_beside h) (N s) (k1 + 1)
    cases hr : sepG s (besideG s ov) 58 (N s) (k1 + 1) with
    | bad _ => trivial
    | ok xs k2 => rw [hr] at h2; exact sz_one (show (_ : Int) ≠ 1 by decide) h1 h1c h2
   ·exact ⟨h1, h1c⟩
theorem sz_over : ∀ (f k : Nat), SzO k (overG s f k)
 | 0, k => trivial
 | f + 1, k => by
  rw [overG]
  split
  ·have h1 := sz_above (s := s) (sz_over f) true (k + 1)
   cases hq : aboveG s (overG s f) true (k + 1) with
   | bad _ => trivial
   | ok x k1 =>
    rw [hq] at h1
    obtain ⟨h1, h1c⟩ := h1
    simp only [R.bind]
    have hm := must_mono (s := s) k1 41
    cases hr : must s k1 41 with
    | bad _ => trivial
    | ok u k2 =>
     rw [hr] at hm
     have hm' : k1 ≤ k2 := hm
     exact ⟨by show sizeI x + k ≤ k2; omega, h1c⟩
  ·have h1 := sz_leaf (s := s) k
   cases hq : leafG s k with
   | bad _ => trivial
   | ok x k1 =>
    rw [hq] at h1
    obtain ⟨h1, h1c⟩ := h1
    simp only [R.bind]
    split
    ·have h2 := sz_leaf (s := s) (k1 + 1)
     cases hr : leafG s (k1 + 1) with
     | bad _ => trivial
     | ok y k2 =>
      rw [hr] at h2
      obtain ⟨h2, h2c⟩ := h2
      refine ⟨by show sizeI _ + k ≤ k2; rw [size_mk, sizeL, sizeL, sizeL]; omega, fun q hq => ?_⟩
      rw [codes_mk (by decide), codesL, codesL, codesL, List.append_nil] at hq
      rcases List.mem_append.1 hq with hq | hq
      ·exact h1c q hq
      ·exact h2c q hq
    ·exact ⟨h1, h1c⟩
theorem sz_br {kind : Int} (hn : kind ≠ 1) {r : R (List Item)} {c : UInt8} {k : Nat} (h : SzL (k + 1) r) : Sz k (r.bind fun xs k1 => (must s k1 c).bind fun _ k2 => .ok (.mk (kindN kind) [] 0 xs) k2) := by
 cases r with
 | bad _ => trivial
 | ok xs k1 =>
  obtain ⟨h1, h2, h3⟩ := h
  simp only [R.bind]
  have hm := must_mono (s := s) k1 c
  cases hr : must s k1 c with
  | bad _ => trivial
  | ok u k2 =>
   rw [hr] at hm
   have hm' : k1 ≤ k2 := hm
   refine ⟨by rw [size_mk]; omega, fun q hq => ?_⟩
   rw [codes_mk hn] at hq
   exact h3 q hq
theorem sz_part (k : Nat) : Sz k (partG s k) := by
 unfold partG
 split
 ·exact sz_br (by decide) (sz_sep (sz_above (sz_over _) false) _ _)
 ·exact sz_above (sz_over _) false k
theorem sz_group (k : Nat) : Sz k (groupG s k) := by
 unfold groupG
 split
 ·exact sz_br (by decide) (sz_sep sz_part _ _)
 ·exact sz_part k
theorem sz_tree : ∀ (f k : Nat), Sz k (treeG s f k)
 | 0, k => trivial
 | f + 1, k => by
  rw [treeG]
  split
  ·rename_i hs
   have h1 := (run_more (s := s) (k := k) (n := 0) (Nat.zero_le _)).2 (by simpa using hs)
   refine ⟨by rw [size_mk, sizeL]; omega, fun q hq => ?_⟩
   rw [codes_mk (show (gapN _ _).kind ≠ 1 from (by decide : (6 : Int) ≠ 1)), codesL] at hq
   cases hq
  ·split
   ·have hwm := word_mono (s := s) (k + 1)
    cases hw : wordG s (k + 1) with
    | bad _ => trivial
    | ok q k1 =>
     rw [hw] at hwm
     have hwm' : k + 1 ≤ k1 := hwm
     have hq1 : q ≠ 1 := by
      unfold wordG at hw
      have := kindAt_ne s[k + 1]?
      simp only at hw
      split at hw
      ·cases hw
      ·split at hw
       ·cases hw; exact this
       ·cases hw
     simp only [R.bind]
     have hm := must_mono (s := s) k1 32
     cases hr : must s k1 32 with
     | bad _ => trivial
     | ok u k2 =>
      rw [hr] at hm
      have hm' : k1 ≤ k2 := hm
      have h1 := sz_sep (s := s) (c := 32) (sz_tree f) (N s) k2
      have h2 : SzL (k + 1) (sepG s (treeG s f) 32 (N s) k2) := by
       cases hx : sepG s (treeG s f) 32 (N s) k2 with
       | bad _ => trivial
       | ok xs k3 =>
        rw [hx] at h1
        exact ⟨by have := h1.1; omega, h1.2⟩
      exact sz_br hq1 h2
   ·exact sz_glyph false k
theorem parse_size {kind : Int} {xs : List Item} {k : Nat} (h : parseG s kind = .ok xs k) : sizeL xs ≤ s.length + 1 ∧ ∀ q ∈ codesL xs, q.1.length ≤ 8 := by
 unfold parseG at h
 split at h
 ·injection h with h _
  subst h
  exact ⟨by rw [sizeL]; omega, fun q hq => by rw [codesL] at hq; cases hq⟩
 ·have key : ∀ (r : R (List Item)), SzL 0 r → (r.bind fun xs k => if k < s.length then R.bad k else .ok xs k) = .ok xs k → (∀ ys j, r = .ok ys j → j ≤ s.length) → sizeL xs ≤ s.length + 1 ∧ ∀ q ∈ codesL xs, q.1.length ≤ 8 := fun r hr he hj => by
   cases r with
   | bad _ => cases he
   | ok ys j =>
    simp only [R.bind] at he
    split at he
    ·cases he
    ·injection he with e1 e2
     subst e1
     obtain ⟨h1, h2, h3⟩ := hr
     have := hj _ _ rfl
     exact ⟨by omega, h3⟩
  have hb := body_pos (s := s) kind
  unfold bodyG at hb
  split at h
  ·rename_i hk
   rw [if_pos hk] at hb
   exact key _ (sz_sep sz_group _ _) h fun ys j e => by rw [e] at hb; exact hb
  ·rename_i hk
   rw [if_neg hk] at hb
   exact key _ (sz_sep (sz_tree _) _ _) h fun ys j e => by rw [e] at hb; exact hb
end
end Cd
