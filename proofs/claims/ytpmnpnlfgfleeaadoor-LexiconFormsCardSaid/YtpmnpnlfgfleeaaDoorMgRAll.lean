/- ostraconref05.all: all forms of an entry. -/
import Derived.Test.YtpmnpnlfgfleeaaDoorMgRLists
import Derived.BigQuiet
import Derived.Deep.DeepCutAuto
namespace Go.Proofs.YtpmnpnlfgfleeaaDoor
open Go Go.RowKit

theorem Lx.skipE_at {x : Lx.Lexicon} {i : Nat} {p : Int} {g : Lx.Ending} {e : Lx.Entry} (h0 : 0 ≤ p) (hg : x.endings[p.toNat]? = some g) (he : x.entries[i]? = some e) : Lx.skipE x i (p + 1).toNat = (!(g.kind == e.kind)) := by
  obtain ⟨q, hq⟩ : ∃ q : Nat, p = (q : Int) := ⟨p.toNat, by omega⟩
  subst hq
  rw [show ((q : Int) + 1).toNat = q + 1 by omega]
  rw [Int.toNat_natCast] at hg
  unfold Lx.skipE
  simp only [hg, he]
  by_cases hk : g.kind = e.kind <;> simp [hk]
theorem Lx.formsQ_yes {x : Lx.Lexicon} {i : Nat} {p : Int} (h : -1 ≤ p) (hs : Lx.skipE x i (p + 1).toNat = false) : Lx.formsTo x i (p + 1 + 1).toNat = Lx.formsTo x i (p + 1).toNat ++ (Lx.listsV x.clitics.length 3 [] 0).map fun c => ⟨(i : Int), p, c⟩ := by
  rw [show (p + 1 + 1).toNat = (p + 1).toNat + 1 by omega, Lx.formsTo_succ]
  unfold Lx.formsQ
  rw [hs, show (((p + 1).toNat : Nat) : Int) - 1 = p by omega]
  rfl
theorem Lx.formsQ_no {x : Lx.Lexicon} {i : Nat} {p : Int} (h : -1 ≤ p) (hs : Lx.skipE x i (p + 1).toNat = true) : Lx.formsTo x i (p + 1 + 1).toNat = Lx.formsTo x i (p + 1).toNat := by
  rw [show (p + 1 + 1).toNat = (p + 1).toNat + 1 by omega, Lx.formsTo_succ]
  unfold Lx.formsQ
  rw [hs]
  simp

set_option maxRecDepth 100000 in
set_option maxHeartbeats 8000000 in
theorem rall_any (x : Lx.Lexicon) (i : Nat) (hi : i < x.entries.length) (hE : x.endings.length ≤ 40) (hEn : x.entries.length ≤ 200) (hC : x.clitics.length ≤ 10) (vx : Value) (w : World) (hr : RdL w w.heap.size vx x) :
    Calls Tryd.prog 18 #[vx, .int .i64 (i : Int)] w (fun e w' => ∃ v, e = .returned v ∧ OwnG KForm 49 w' w.heap.size v (Lx.formsV x i) ∧ Below w.heap.size w w') := by
  obtain ⟨⟨v0, v1, v2, rfl, ⟨A0, c0, rfl, -, -, hc0⟩, ⟨A1, c1, rfl, -, -, hc1⟩, ⟨A2, c2, rfl, -⟩⟩, -, -, -⟩ := hr
  obtain ⟨b0, off0, rfl, hb0, hcell0⟩ := hc0 (by omega)
  obtain ⟨en, he⟩ : ∃ e, x.entries[i]? = some e := ⟨_, List.getElem?_eq_getElem hi⟩
  have hk0 := hcell0 i en he 1 _ rfl
  have HK0 := Lib.hid hk0
  have HE := Lib.hid he
  have HC1 := Lib.hid hc1
  have hiI : (i : Int) < (x.entries.length : Int) := by omega
  clear hc0 hc1 hcell0 hk0 he
  obtain ⟨i1, hi1, hz1, hs1, hb1⟩ := info_parts info_int
  obtain ⟨i3, hi3, hz3, hs3', hb3'⟩ := info_parts info_Form
  go_enter Tryd.func18, Tryd.ntmps18
  go_wp2_with fail
  obtain ⟨w1, hw1⟩ : ∃ w1, w1 = w.alloc (.cells #[.slice (some ⟨b0, off0, none⟩) x.entries.length c0, .slice A1 x.endings.length c1, .slice A2 x.clitics.length c2] 26) := ⟨_, rfl⟩
  have hba : Below w.heap.size w w1 := by rw [hw1]; exact (Below.refl _ _).alloc (Nat.le_refl _) _
  have hx1 : w1.heap[w.heap.size]? = some (.cells #[.slice (some ⟨b0, off0, none⟩) x.entries.length c0, .slice A1 x.endings.length c1, .slice A2 x.clitics.length c2] 26 (0, 0)) := by rw [hw1]; exact heap_alloc_new _ _
  have hs1w : w1.heap.size = w.heap.size + 1 := by rw [hw1]; simp
  rw [← hw1]
  refine (rlists_any x hC 3 [] 0 (fun _ => False) (some ⟨b0, off0, none⟩) A1 A2 x.entries.length c0 x.endings.length c1 c2 (.slice none 0 0) w1 rfl (Nat.zero_le _) (fun b h => h.elim) ⟨none, 0, rfl, by simp, by omega, fun h => absurd h (by simp)⟩).mono ?_
  rintro e2 w2 ⟨vl, rfl, hrl, hb2⟩
  obtain ⟨Al, cl, rfl⟩ := hrl.form
  obtain ⟨ls, hls⟩ : ∃ ls, ls = Lx.listsV x.clitics.length 3 [] 0 := ⟨_, rfl⟩
  rw [← hls] at hrl
  have hll : ls.length ≤ 1331 := by
    have h1 := Lx.listsV_count x.clitics.length 3 [] 0
    have h2 : (x.clitics.length + 1) ^ 3 ≤ 11 ^ 3 := Nat.pow_le_pow_left (by omega) 3
    rw [hls]
    omega
  have hl3 : ∀ c ∈ ls, c.length ≤ 3 := fun c hc => by
    rw [hls] at hc
    have := Lx.listsV_len _ _ _ _ c hc
    simpa using this
  have HLS := Lib.hid hls
  have hsz2 : w.heap.size + 1 ≤ w2.heap.size := by have := hb2.size; omega
  have HB2 : Hid (Below w.heap.size w w2) := Lib.hid (hba.trans (hb2.mono (by omega)))
  have HX2 : Hid (∀ W, Below w2.heap.size w2 W → W.cell? ⟨w.heap.size, 0, none⟩ = some (.slice (some ⟨b0, off0, none⟩) x.entries.length c0) ∧ W.cell? ⟨w.heap.size, 1, none⟩ = some (.slice A1 x.endings.length c1) ∧ W.cell? ⟨w.heap.size, 2, none⟩ = some (.slice A2 x.clitics.length c2) ∧ W.cell? ⟨b0, off0 + i * 4 + 1, none⟩ = some (.int .i64 en.kind)) := Lib.hid fun W hW => by
    have e := (hW.block w.heap.size (by omega)).trans ((hb2.block w.heap.size (by omega)).trans hx1)
    exact ⟨by simp [World.cell?, e], by simp [World.cell?, e], by simp [World.cell?, e], (hW.cell (p := ⟨b0, _, none⟩) (by show b0 < _; omega)).trans ((HB2.out.cell (p := ⟨b0, _, none⟩) hb0).trans HK0.out)⟩
  have HRL : Hid (∀ W, Below w2.heap.size w2 W → RdG KInts W (fun b => b < w2.heap.size) (.slice Al ls.length cl) ls) := Lib.hid fun W hW => hrl.keep fun b hk => ⟨hk.1, hW.block b hk.1⟩
  have hle : (Lx.listsV x.clitics.length 3 [] 0).length = ls.length := by rw [hls]
  rw [hle]
  clear hba hx1 hs1w hw1 hrl hb2 hls hle
  go_wp2_with fail
  go_loopg [5, 7] (x.endings.length + 1) (fun g v k wi => ∃ p : Int, -1 ≤ p ∧ p ≤ x.endings.length ∧ g = (x.endings.length - p).toNat ∧ k = .int .i64 p ∧ (∃ A n c, v = .slice A n c) ∧ OwnG KForm 49 wi w2.heap.size v (Lx.formsTo x i (p + 1).toNat) ∧ Below w2.heap.size w2 wi)
  case atStart => exact ⟨-1, by omega, by omega, by omega, rfl, ⟨_, _, _, rfl⟩, by rw [show ((-1 : Int) + 1).toNat = 0 by decide]; exact OwnG.nil _ _ _, Below.refl _ _⟩
  case round =>
    rename World => wi
    obtain ⟨p, hp0, hp1, rfl, rfl, ⟨Aq, nq, cq, rfl⟩, hom, hbel⟩ := hrel
    obtain ⟨x0, x1, x2, x3⟩ := HX2.out wi hbel
    have HOM := Lib.hid hom
    have HBEL := Lib.hid hbel
    have hszi := hbel.size
    clear hom hbel
    by_cases hp2 : p < (x.endings.length : Int)
    · go_upto_region 6 with fail
      go_cut [34] (fun t wc => t = .bool (Lx.skipE x i (p + 1).toNat) ∧ ∃ n, wc = wi.drewN n)
      case first =>
        by_cases hq0 : 0 ≤ p
        · obtain ⟨b1, off1, rfl, hb1', hcell1⟩ := HC1.out (by omega)
          have hg : decide ((0 : Int) ≤ p) = true := by simp [hq0]
          obtain ⟨g, he1⟩ : ∃ g, x.endings[p.toNat]? = some g := ⟨_, List.getElem?_eq_getElem (by omega)⟩
          have g0 : wi.cell? ⟨b1, off1 + p.toNat * 4, none⟩ = some (.int .i64 g.kind) := (HBEL.out.cell (p := ⟨b1, _, none⟩) (by show b1 < _; omega)).trans ((HB2.out.cell (p := ⟨b1, _, none⟩) hb1').trans (hcell1 p.toNat g he1 0 _ rfl))
          have HS := Lib.hid (Lx.skipE_at (i := i) hq0 he1 HE.out)
          clear hcell1 he1
          go_quiet (fail)
          all_goals go_wp2_with fail
          all_goals
            go_meet
            go_light
            refine ⟨?_, _, rfl⟩
            rw [HS.out]
            rfl
        · have hg : decide ((0 : Int) ≤ p) = false := by simp; omega
          have HS : Hid (Lx.skipE x i (p + 1).toNat = false) := Lib.hid (by
            have hq : p = -1 := by omega
            subst hq
            rfl)
          clear hq0
          go_quiet (fail)
          all_goals go_wp2_with fail
          all_goals
            go_meet
            go_light
            refine ⟨?_, _, rfl⟩
            rw [HS.out]
      case rest =>
        rename World => wk
        obtain ⟨rfl, nd, hwk⟩ := hcut
        have hwb : Below wi.heap.size wi wk := by rw [hwk]; exact below_drewN (Below.refl _ _) _
        have hsk1 : wi.heap.size ≤ wk.heap.size := hwb.size
        have HBK := Lib.hid (HBEL.out.trans (hwb.mono hszi))
        have HOMK := Lib.hid (HOM.out.kept hwb)
        clear hwk hwb HOM HBEL x0 x1 x2 x3
        obtain ⟨x0, x1, x2, x3⟩ := HX2.out wk HBK.out
        cases hsk : Lx.skipE x i (p + 1).toNat
        · have HN := Lib.hid (Lx.formsQ_yes hp0 hsk)
          clear hsk
          obtain ⟨bb, hbb⟩ : ∃ bb, bb = Lx.formsTo x i (p + 1).toNat := ⟨_, rfl⟩
          have hbl0 : bb.length ≤ 208896 := by
            have h1 := (Lx.formsTo_prefix x i (p := (p + 1).toNat) (by omega)).length_le
            have h2 := Lx.formsV_count x i (by omega) (by omega)
            rw [hbb]
            omega
          rw [← hbb] at HN HOMK
          rw [← HLS.out] at HN
          go_wp2_with fail
          go_loopg [5, 8] ls.length (fun g v k wz => ∃ q : Nat, q ≤ ls.length ∧ g = ls.length - q ∧ k = .int .i64 q ∧ (∃ A n c, v = .slice A n c) ∧ OwnG KForm 49 wz w2.heap.size v (bb ++ (ls.take q).map fun c => ⟨(i : Int), p, c⟩) ∧ Below w2.heap.size w2 wz)
          case atStart => exact ⟨0, Nat.zero_le _, rfl, rfl, ⟨_, _, _, rfl⟩, by simpa using HOMK.out, HBK.out⟩
          case round =>
            rename World => wz
            obtain ⟨q, hq, rfl, rfl, ⟨Av, nv, cv, rfl⟩, hog, hbel⟩ := hrel
            have HBEL := Lib.hid hbel
            have hszz := hbel.size
            clear x0 x1 x2 x3
            by_cases hlt : q < ls.length
            · obtain ⟨c, hc⟩ : ∃ c, ls[q]? = some c := ⟨_, List.getElem?_eq_getElem hlt⟩
              obtain ⟨bl, ol, rfl, hbl, hcell⟩ := (HRL.out wz hbel).at (by omega)
              obtain ⟨cs, ⟨vc, rfl, hrx⟩, hcell'⟩ := hcell q c hc
              have y0 : wz.cell? ⟨bl, ol + q, none⟩ = some vc := by have := hcell' 0 vc rfl; simpa [KInts] using this
              have hc3 : c.length ≤ 3 := hl3 c (List.mem_of_getElem? hc)
              have hqI : (q : Int) < (ls.length : Int) := by omega
              have HRS := Lib.hid (hrx.to (B := w2.heap.size) (fun b hb => hb))
              have HC := Lib.hid hc
              obtain ⟨Ac, cc, rfl, -⟩ := hrx
              obtain ⟨cells, hownF, hrowsF⟩ := hog
              obtain ⟨out, hout⟩ : ∃ out, out = bb ++ (ls.take q).map fun c => (⟨(i : Int), p, c⟩ : Lx.Form) := ⟨_, rfl⟩
              have hol : out.length ≤ 300000 := by rw [hout, List.length_append, List.length_map, List.length_take]; omega
              rw [← hout] at hownF hrowsF
              obtain rfl : nv = out.length := by
                obtain ⟨_, _, e⟩ := own_form hownF
                injection e
              have HOUT := Lib.hid hout
              have HOWNF := Lib.hid hownF
              have HROWSF := Lib.hid hrowsF
              clear hownF hrowsF hout hc hcell hcell' hbel
              go_wp2_with (at_builtin; go_must (refine wpList_append_rd (enc := encInt) rfl (.const (.slice none 0 0)) (.tmp 47) _ rfl wz.heap.size 3 i1 _ 1 8 len_int one_int Tryd.underlying47 hi1 hz1 hs1 hb1 rfl (by decide) (.slice none 0 0) 0 [] rfl (World.ownsRow_nil wz wz.heap.size _ _) w2.heap.size _ c rfl HRS.out ?h63 ?hb (Nat.le_refl _) ?_))
              case h63 => simp only [maxLen]; omega
              case hb => omega
              intro v6 w6 hown6 hg6 hat6
              obtain ⟨A6, c6, rfl⟩ := own_form hown6
              have hb6 : Below wz.heap.size wz w6 := below_own_grown (Below.refl _ _) hg6 (World.ownsRow_nil wz wz.heap.size 3 1) (Nat.le_refl _) (Nat.le_refl _)
              have hs6 := hb6.size
              obtain ⟨W7, hW7⟩ : ∃ W7, W7 = w6.alloc (.cells #[.int .i64 (i : Int), .int .i64 p, .slice A6 c.length c6] 49) := ⟨_, rfl⟩
              have hs7 : W7.heap.size = w6.heap.size + 1 := by rw [hW7]; simp
              have hb67 : Below w6.heap.size w6 W7 := by rw [hW7]; exact (Below.refl _ _).alloc (Nat.le_refl _) _
              have hb7 : Below wz.heap.size wz W7 := hb6.trans (hb67.mono hs6)
              have hvb : ∀ k, (Value.slice Av out.length cv).ownBlock = some k → w2.heap.size ≤ k ∧ k < wz.heap.size := fun k hk => HOWNF.out.lt k hk
              have HOWN7 : Hid (W7.ownsRow w2.heap.size 49 3 (.slice Av out.length cv) out.length cells) := Lib.hid (keep_own HOWNF.out hb7)
              have HB7 : Hid (Below w2.heap.size w2 W7) := Lib.hid (HBEL.out.trans (hb7.mono hszz))
              have HBZ7 := Lib.hid hb7
              have HR7 : Hid (RdS W7 (w6.heap.size + 1) 3 enc3 (.slice (some ⟨w6.heap.size, 0, none⟩) 1 1) [((i : Int), p, (A6, c.length, c6))]) := Lib.hid (by
                have hn := heap_alloc_new w6 (.cells #[.int .i64 (i : Int), .int .i64 p, .slice A6 c.length c6] 49)
                rw [hW7]
                exact rds_block (xs := [((i : Int), p, (A6, c.length, c6))]) len_3 hn rfl (by omega) (Nat.le_refl 1) (by decide))
              have HRX7 : Hid (RdX W7 (fun b => b < W7.heap.size ∧ (Value.slice Av out.length cv).ownBlock ≠ some b ∧ w2.heap.size ≤ b) 1 encInt (.slice A6 c.length c6) c) :=
                Lib.hid ((rdx_of_own len_int hown6).keep (fun b hb => ⟨⟨by omega, (fun e => by have := (hvb _ e).2; omega), by omega⟩, hb67.block b hb.2⟩))
              have HW7 := Lib.hid hW7
              clear hown6 hg6 hat6 hb6 hb67 hb7 hW7
              go_wp2_with (at_builtin; go_must (rw [← HW7.out]; refine wpList_append_rd (enc := enc3) rfl (.tmp 41) (.tmp 50) _ rfl w2.heap.size 49 i3 _ 3 40 len_3 one_3 Tryd.underlying29 hi3 hz3 hs3' hb3' rfl (by decide) (.slice Av out.length cv) out.length cells rfl HOWN7.out (w6.heap.size + 1) (.slice (some ⟨w6.heap.size, 0, none⟩) 1 1) [((i : Int), p, (A6, c.length, c6))] ?hsv HR7.out ?h63 ?hb ?hB ?_))
              case hsv => rfl
              case h63 => simp only [maxLen]; show out.length + 1 ≤ _; omega
              case hb => show (out.length + 1) * 40 ≤ _; omega
              case hB => omega
              intro v8 w8 hown8 hg8 hat8
              obtain ⟨A8, c8, rfl⟩ := own_form hown8
              have HOG8 : Hid (OwnG KForm 49 w8 w2.heap.size (.slice A8 (out.length + 1) c8) (bb ++ (ls.take (q + 1)).map fun c => ⟨(i : Int), p, c⟩)) := Lib.hid (by
                have he : bb ++ (ls.take (q + 1)).map (fun c => (⟨(i : Int), p, c⟩ : Lx.Form)) = out ++ [⟨(i : Int), p, c⟩] := by
                  obtain ⟨hq', hq2⟩ := List.getElem?_eq_some_iff.1 HC.out
                  rw [HOUT.out, List.take_succ_eq_append_getElem hq', List.map_append, ← List.append_assoc, hq2]
                  rfl
                rw [he]
                refine OwnG.snoc (K := KForm) (w := W7) (v := .slice Av out.length cv) (cells := cells) (cs := [.int .i64 (i : Int), .int .i64 p, .slice A6 c.length c6]) ?_ ⟨_, rfl, HRX7.out⟩ ?_ hg8 (hat8.imp id fun e => ⟨_, e, by omega⟩)
                · exact HROWSF.out.keep (fun b hb => ⟨⟨by omega, hb.2⟩, HBZ7.out.block b hb.1⟩)
                · have h8 : w8.ownsRow w2.heap.size 49 3 (.slice A8 (out.length + 1) c8) (out.length + 1) (cells ++ [.int .i64 (i : Int), .int .i64 p, .slice A6 c.length c6]) := by simpa [enc3] using hown8
                  exact h8)
              have HB8 : Hid (Below w2.heap.size w2 w8) := Lib.hid (HB7.out.grown hg8 (by omega) (fun k hk => (hvb k hk).1))
              clear hown8 hg8 hat8 y0 hbl
              go_wp2_with fail
              go_roundg (ls.length - (q + 1))
              case measure => omega
              case rel => exact ⟨q + 1, by omega, rfl, by go_num, ⟨_, _, _, rfl⟩, HOG8.out, HB8.out⟩
            · have HFIN : Hid (OwnG KForm 49 wz w2.heap.size (.slice Av nv cv) (Lx.formsTo x i (p + 1 + 1).toNat)) := Lib.hid (by
                rw [HN.out]
                rwa [List.take_of_length_le (by omega)] at hog)
              clear hog hbel
              go_wp2_with fail
              go_roundg ((x.endings.length - (p + 1)).toNat)
              case measure => omega
              case rel => exact ⟨p + 1, by omega, by omega, rfl, rfl, ⟨_, _, _, rfl⟩, HFIN.out, HBEL.out⟩
        · have HN := Lib.hid (Lx.formsQ_no hp0 hsk)
          clear hsk
          go_wp2_with fail
          go_roundg ((x.endings.length - (p + 1)).toNat)
          case measure => omega
          case rel => exact ⟨p + 1, by omega, by omega, rfl, rfl, ⟨_, _, _, rfl⟩, by rw [HN.out]; exact HOMK.out, HBK.out⟩
    · have hpe : p = (x.endings.length : Int) := by omega
      have HFIN : Hid (OwnG KForm 49 wi w.heap.size (.slice Aq nq cq) (Lx.formsV x i)) := Lib.hid (by
        have := HOM.out
        rw [hpe, show ((x.endings.length : Int) + 1).toNat = x.endings.length + 1 by omega] at this
        exact this.mono (by omega))
      go_wp2_with fail
      go_ret
      exact ⟨_, rfl, HFIN.out, HB2.out.trans (HBEL.out.mono (by omega))⟩
end Go.Proofs.YtpmnpnlfgfleeaaDoor
