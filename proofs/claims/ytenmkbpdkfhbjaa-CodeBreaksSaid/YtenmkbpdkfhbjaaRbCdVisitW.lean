/- code.resolve's visit: the walk. -/
import Derived.Test.YtenmkbpdkfhbjaaRbCdVisit
import Derived.StillTailTactics
namespace Go.Proofs.Ytenmkbpdkfhbjaa
open Go Go.RowKit

def VisSays (l : Sg.SList) (b1 b2 : Nat) (ok : Nat → Prop) (d : Nat) : Prop := ∀ (A : Option Addr) (c : Nat) (xs : List Cd.Item) (W : World), VEnv l b1 b2 W → RdH (KId (SW (Cd.signIx l)) d) 76 W ok (.slice A xs.length c) xs → (∀ q ∈ Cd.codesL xs, q.1.length ≤ 100) →
    Calls Try.prog 23 #[.slice A xs.length c, .pointer (some ⟨b1, 0, none⟩), .pointer (some ⟨b2, 0, none⟩)] W (RetVis l d ok A c xs W)
set_option maxRecDepth 100000 in
set_option maxHeartbeats 16000000 in
theorem visit_step (l : Sg.SList) (hl : Sg.checkV l = 0) (b1 b2 : Nat) (ok : Nat → Prop) (d : Nat) (ih : ∀ e, d = e + 1 → VisSays l b1 b2 ok e) : VisSays l b1 b2 ok d := by
  intro A c xs W henv hr hlen
  have IH := Lib.hid ih
  have HENV := Lib.hid henv
  have HR := Lib.hid hr
  have HLEN := Lib.hid hlen
  have HCHK := Lib.hid hl
  have hb : xs.length ≤ c ∧ c ≤ 9223372036854775807 := by
    obtain ⟨A', c', hv, h1, h2, -⟩ := hr
    cases hv
    exact ⟨h1, h2⟩
  clear ih henv hr hlen hl
  go_enter Try.func23, Try.ntmps23
  go_wp2_with fail
  go_loopg [12] xs.length (fun g i wr => ∃ k : Nat, k ≤ xs.length ∧ g = xs.length - k ∧ Value.int .i64 k = i ∧ Upd ok (Cd.signIx l) W wr ∧ Cd.unknownV l (Cd.codesL (xs.take k)) = none ∧ RdH (KId (SF (Cd.signIx l)) d) 76 wr ok (.slice A k c) (xs.take k))
  case atStart => exact ⟨0, Nat.zero_le _, rfl, rfl, Upd.refl _ _ _, rfl, ⟨A, c, by simp, Nat.zero_le _, hb.2, fun h => absurd h (by simp)⟩⟩
  case round =>
    obtain ⟨k, hk, rfl, rfl, hu, hno, hdone⟩ := hrel
    have HU := Lib.hid hu
    have HNO := Lib.hid hno
    have HD := Lib.hid hdone
    clear hu hno hdone
    by_cases hlt : k < xs.length
    · obtain ⟨x, hx⟩ : ∃ x, xs[k]? = some x := ⟨_, List.getElem?_eq_getElem hlt⟩
      obtain ⟨e, b, cur, z, A', c', he, hA, hok, hcur, hz, hkids, hcs⟩ := (HU.out.kid (fun c => .inr rfl) d _ _ HR.out).one_at hx
      have HX := Lib.hid hx
      have HE := Lib.hid he
      have HOK := Lib.hid hok
      have HCUR := Lib.hid hcur
      have HSG := Lib.hid hz
      have HKID := Lib.hid hkids
      have HCS := Lib.hid hcs
      have k0 : cur[k * 11]? = some (.int .i64 x.node.kind) := by have := hcs 0 _ rfl; simpa using this
      have k2 : cur[k * 11 + 2]? = some (.int .i64 z) := hcs 2 _ rfl
      have k8 : cur[k * 11 + 8]? = some (.string (Cd.bs x.code)) := hcs 8 _ rfl
      have k9 : cur[k * 11 + 9]? = some (.int .i64 x.pos) := hcs 9 _ rfl
      have k10 : cur[k * 11 + 10]? = some (.slice A' x.kids.length c') := hcs 10 _ rfl
      have K0 := Lib.hid k0
      have K8 := Lib.hid k8
      have f0 := (in_box hcur (k * 11)).1.trans k0
      have f2 := (in_box hcur (k * 11 + 2)).1.trans k2
      have y2 := (in_box hcur (k * 11 + 2)).2
      have f8 := (in_box hcur (k * 11 + 8)).1.trans k8
      have f9 := (in_box hcur (k * 11 + 9)).1.trans k9
      have hI0 : (0 : Int) ≤ (k : Int) := by omega
      have hI1 : (k : Int) < (xs.length : Int) := by omega
      have d1 : decide ((k : Int) < (xs.length : Int)) = true := by simpa using hlt
      have hsplit : Cd.codesL xs = Cd.codesL (xs.take k) ++ (Cd.codesI x ++ Cd.codesL (xs.drop (k + 1))) := by
        have e1 : xs = xs.take k ++ (x :: xs.drop (k + 1)) := by
          have e2 : xs.drop k = x :: xs.drop (k + 1) := by
            rw [List.drop_eq_getElem_cons hlt]
            congr 1
            have := List.getElem?_eq_getElem hlt
            rw [hx] at this
            exact (Option.some.inj this).symm
          rw [← e2, List.take_append_drop]
        conv => lhs; rw [e1]
        rw [Cd.codesL_app, Cd.codesL]
      have hcI : Cd.codesI x = (if x.node.kind = 1 then [(x.code, x.pos)] else []) ++ Cd.codesL x.kids := by cases x; rw [Cd.codesI]; rfl
      have HUN : Hid (Cd.unknownV l (Cd.codesL xs) = Cd.unknownV l (Cd.codesI x ++ Cd.codesL (xs.drop (k + 1)))) := Lib.hid (by rw [hsplit, Cd.unknown_app, HNO.out])
      have hlenK : ∀ q ∈ Cd.codesL x.kids, q.1.length ≤ 100 := fun q hq => HLEN.out q (by rw [hsplit, hcI]; simp [hq])
      have HLK := Lib.hid hlenK
      have hlen8 : x.node.kind = 1 → x.code.length ≤ 100 := fun h1 => HLEN.out (x.code, x.pos) (by rw [hsplit, hcI, if_pos h1]; simp)
      have HCI := Lib.hid hcI
      have HL8 := Lib.hid hlen8
      subst hA
      clear hx he hok hcur hz hkids hcs k0 k2 k8 k9 k10 hsplit hcI hlenK hlen8
      go_upto_if 23 with fail
      go_cut [24] (fun _ wc => Upd ok (Cd.signIx l) wr wc ∧ ∃ z', wc.cell? ⟨b, k * 11 + 2, none⟩ = some (.int .i64 z') ∧ (if x.node.kind = 1 then z' = Cd.signIx l x.code ∧ Cd.signIx l x.code ≠ -1 else z' = x.node.sign))
      case first =>
        by_cases hk1 : x.node.kind = 1
        · have hq1 : (x.node.kind == 1) = true := by simpa using hk1
          obtain ⟨⟨bm, nm, hbm, hom⟩, -⟩ := HENV.out.upd HU.out
          have c1 := (in_box hbm 0).1
          simp at c1
          have hsz : (Cd.bs x.code).size ≤ maxLen := by
            have h1 := HL8.out hk1
            have h2 : (Cd.bs x.code).size = x.code.length := rfl
            unfold maxLen
            omega
          have hlk := fun (n : Nat) => run_nums (w := wr.drewN n) HCHK.out (b := bm) (n := nm) hom (c := Cd.bs x.code) hsz
          simp only [Cd.bs_list] at hlk
          have HLKs : Hid (∀ n : Nat, (Instr.lookup 60 (.map (some bm)) (.string (Cd.bs x.code)) true).run Try.prog (wr.drewN n) = .ok (.tuple #[.int .i64 (if Cd.signIx l x.code = -1 then 0 else Cd.signIx l x.code), .bool (decide (Cd.signIx l x.code ≠ -1))]) (wr.drewN n)) := Lib.hid hlk
          have HK1 := Lib.hid hk1
          clear hbm hom hsz hlk hk1
          by_cases hq : Cd.signIx l x.code = -1
          · have hlk : ∀ n : Nat, (Instr.lookup 60 (.map (some bm)) (.string (Cd.bs x.code)) true).run Try.prog (wr.drewN n) = .ok (.tuple #[.int .i64 0, .bool false]) (wr.drewN n) := fun n => by
              have := HLKs.out n
              rw [if_pos hq] at this
              rw [this]
              simp [hq]
            have HUX : Hid (Cd.unknownV l (Cd.codesL xs) = some x.pos) := Lib.hid (by
              rw [HUN.out, HCI.out, if_pos HK1.out]
              unfold Cd.unknownV
              simp [hq])
            clear hq
            go_wp2_with fail
            go_quiet (fail)
            go_wp2_with fail
            go_ret
            refine ⟨HU.out.trans ((Upd.refl _ _ _).drew _), ?_⟩
            rw [HUX.out]
            rfl
          · obtain ⟨q, hqq⟩ : ∃ q, q = Cd.signIx l x.code := ⟨_, rfl⟩
            have hlk : ∀ n : Nat, (Instr.lookup 60 (.map (some bm)) (.string (Cd.bs x.code)) true).run Try.prog (wr.drewN n) = .ok (.tuple #[.int .i64 q, .bool true]) (wr.drewN n) := fun n => by
              have := HLKs.out n
              rw [if_neg hq] at this
              rw [this, hqq]
              simp [hq]
            have HQ := Lib.hid hqq
            have HQN := Lib.hid hq
            clear hq hqq
            go_wp2_with fail
            go_quiet (fail)
            go_wp2_with fail
            go_meet
            case rel =>
              have hcc : (wr.drewN nq).heap[b]? = some (.cells cur 76 (0, 0)) := HCUR.out
              have hu2 := Upd.set (f := Cd.signIx l) (j := k) HOK.out hcc (by rw [K0.out, HK1.out]) K8.out
              rw [Cd.bs_list, ← HQ.out] at hu2
              refine ⟨((Upd.refl _ _ _).drew _).trans hu2, q, ?_, by rw [if_pos HK1.out]; exact ⟨HQ.out, HQN.out⟩⟩
              have hlt8 := (Array.getElem?_eq_some_iff.1 K8.out).1
              have hlt2 : k * 11 + 2 < cur.size := by omega
              exact (in_box (Go.Joins.block_setCell (i := k * 11 + 2) hcc (.int .i64 q)) (k * 11 + 2)).1.trans (by simp [hlt2])
        · have hq1 : (x.node.kind == 1) = false := by simpa using hk1
          have HK1 := Lib.hid hk1
          clear hk1
          go_wp2_with fail
          go_meet
          case rel => exact ⟨Upd.refl _ _ _, z, f2, by have := HSG.out; rw [if_neg HK1.out] at this ⊢; exact this⟩
      case rest =>
        obtain ⟨huc, z', hz', hsg⟩ := hcut
        have HUC := Lib.hid huc
        have HSG2 := Lib.hid hsg
        obtain ⟨e2, b2', cur2, z2, A2, c2, he2, hA2, hok2, hcur2, hz2, hkids2, hcs2⟩ := ((HU.out.trans huc).kid (fun c => .inr rfl) d _ _ HR.out).one_at HX.out
        injection hA2 with hA2
        injection hA2 with hA2
        subst hA2
        have m2 : cur2[k * 11 + 2]? = some (.int .i64 z2) := hcs2 2 _ rfl
        have m8 : cur2[k * 11 + 8]? = some (.string (Cd.bs x.code)) := hcs2 8 _ rfl
        have m10 : cur2[k * 11 + 10]? = some (.slice A2 x.kids.length c2) := hcs2 10 _ rfl
        have hzz : z2 = z' := by
          rw [(in_box hcur2 _).1, m2] at hz'
          injection hz' with hz'
          injection hz' with _ hz'
        subst hzz
        have g10 := (in_box hcur2 (k * 11 + 10)).1.trans m10
        have henv := HENV.out.upd (HU.out.trans huc)
        have v0 := (in_box henv.vis 0).1
        simp at v0
        have HCUR2 := Lib.hid hcur2
        have HK2 := Lib.hid hkids2
        have HEN2 := Lib.hid henv
        have HE2 := Lib.hid he2
        have M2 := Lib.hid m2
        have M8 := Lib.hid m8
        have HCS2 := Lib.hid hcs2
        have HOK2 := Lib.hid hok2
        have HCALL : Hid (Calls Try.prog 23 #[.slice A2 x.kids.length c2, .pointer (some ⟨b1, 0, none⟩), .pointer (some ⟨b2, 0, none⟩)] wc.drew (RetVis l e2 ok A2 c2 x.kids wc.drew)) := Lib.hid (IH.out e2 he2 A2 c2 x.kids wc.drew (henv.upd ((Upd.refl ok (Cd.signIx l) _).drew 1)) (hkids2.keep fun b hb => ⟨hb, rfl⟩) HLK.out)
        clear huc hsg hz' hcur2 hz2 hkids2 hcs2 hok2 m2 m8 m10 henv he2 f0 f2 y2 f8 f9
        unfold RetVis at HCALL
        have hx1 : ∀ Z, Cd.unknownV l (Cd.codesL x.kids) = Z → Cd.unknownV l (Cd.codesI x) = Z := fun Z hZ => by
          rw [HCI.out]
          by_cases h1 : x.node.kind = 1
          · have := HSG2.out
            rw [if_pos h1] at this ⊢
            rw [Cd.unknown_app]
            have h3 : Cd.unknownV l [(x.code, x.pos)] = none := by unfold Cd.unknownV; simp [this.2]
            rw [h3]
            exact hZ
          · rw [if_neg h1]
            exact hZ
        have HX1 := Lib.hid hx1
        clear hx1
        go_wp2_with fail
        cases hun : Cd.unknownV l (Cd.codesL x.kids) with
        | some p =>
          rw [hun] at HCALL
          have HUP : Hid (Cd.unknownV l (Cd.codesL xs) = some p) := Lib.hid (by rw [HUN.out, Cd.unknown_app, HX1.out _ hun])
          have d2 : decide ((0 : Int) ≤ (p : Int)) = true := by simp
          clear hun
          go_region_with (refine HCALL.out.mono ?_; rintro e w3 ⟨hu3, rfl⟩; have HU3 := Lib.hid hu3; clear hu3)
          all_goals
            go_wp2_with fail
            go_ret
            refine ⟨(HU.out.trans HUC.out).trans (((Upd.refl _ _ _).drew 1).trans HU3.out), ?_⟩
            rw [HUP.out]
            rfl
        | none =>
          rw [hun] at HCALL
          have HNX : Hid (Cd.unknownV l (Cd.codesL (xs.take (k + 1))) = none) := Lib.hid (by
            have e1 : xs.take (k + 1) = xs.take k ++ [x] := by rw [List.take_add_one, HX.out]; rfl
            rw [e1, Cd.codesL_app, Cd.unknown_app, HNO.out]
            show Cd.unknownV l (Cd.codesL [x]) = none
            rw [Cd.codesL, Cd.codesL, List.append_nil]
            exact HX1.out _ hun)
          clear hun
          go_region_with (refine HCALL.out.mono ?_; rintro e w3 ⟨hu3, rfl, hk3⟩; have HU3 := Lib.hid hu3; have HK3 := Lib.hid hk3; clear hu3 hk3)
          all_goals
            go_wp2_with fail
            go_roundg (xs.length - (k + 1))
            case measure => omega
            case rel =>
              have hu4 : Upd ok (Cd.signIx l) wc w3 := ((Upd.refl _ _ _).drew 1).trans HU3.out
              obtain ⟨cur3, z3, hb3, hcs3, hz3⟩ := hu4.row HCUR2.out HCS2.out
              refine ⟨k + 1, by omega, rfl, by go_num, (HU.out.trans HUC.out).trans hu4, HNX.out, ?_⟩
              have hold := (HUC.out.trans hu4).kid (S := SF (Cd.signIx l)) (fun c => rfl) d _ _ HD.out
              have hdd := HE2.out
              subst hdd
              refine hold.grow rfl HOK2.out hb3 HX.out (cs := encNz x.node z3 ++ [.string (Cd.bs x.code), .int .i64 x.pos, .slice A2 x.kids.length c2]) ⟨z3, .slice A2 x.kids.length c2, rfl, ?_, HK3.out⟩ hcs3 (by omega) hb.2
              have h5 := HSG2.out
              by_cases h1 : x.node.kind = 1
              · rw [if_pos h1] at h5 ⊢
                rcases hz3 with e | ⟨_, e⟩
                · rw [e]; exact h5.1
                · exact e
              · rw [if_neg h1] at h5 ⊢
                rcases hz3 with e | ⟨q, _⟩
                · rw [e]; exact h5
                · exact absurd q h1
    · have hkx : k = xs.length := by omega
      have d1 : decide ((k : Int) < (xs.length : Int)) = false := by simpa using hlt
      have HNX : Hid (Cd.unknownV l (Cd.codesL xs) = none) := Lib.hid (by have := HNO.out; rw [hkx, List.take_length] at this; exact this)
      have HDX : Hid (RdH (KId (SF (Cd.signIx l)) d) 76 wr ok (.slice A xs.length c) xs) := Lib.hid (by have := HD.out; rw [hkx, List.take_length] at this; exact this)
      clear hkx
      go_wp2_with fail
      go_ret
      refine ⟨HU.out, ?_⟩
      rw [HNX.out]
      exact ⟨rfl, HDX.out⟩
theorem visit_any (l : Sg.SList) (hl : Sg.checkV l = 0) (b1 b2 : Nat) (ok : Nat → Prop) : ∀ d, VisSays l b1 b2 ok d
  | 0 => visit_step l hl b1 b2 ok 0 fun e h => by omega
  | d + 1 => visit_step l hl b1 b2 ok (d + 1) fun e h => by
    have : e = d := by omega
    subst this
    exact visit_any l hl b1 b2 ok e
end Go.Proofs.Ytenmkbpdkfhbjaa
