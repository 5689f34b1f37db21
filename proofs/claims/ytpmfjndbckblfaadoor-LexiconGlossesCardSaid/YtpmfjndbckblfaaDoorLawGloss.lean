/- ostraconlaw05.LexiconGlosses: the walk. Made by gen_lawgloss.py. -/
import Derived.Test.YtpmfjndbckblfaaDoorParse
import Derived.Test.YtpmfjndbckblfaaDoorRParse
import Derived.Test.YtpmfjndbckblfaaDoorMgWorks
import Derived.Test.YtpmfjndbckblfaaDoorMgWorks
import Derived.Test.YtpmfjndbckblfaaDoorMgCopy
import Derived.Test.YtpmfjndbckblfaaDoorMgSameForms
import Derived.Test.YtpmfjndbckblfaaDoorMgRWith
import Derived.Test.YtpmfjndbckblfaaDoorMgRegion4
namespace Go.Proofs.YtpmfjndbckblfaaDoor
open Go.RowKit

theorem Lx.read_small {x : Lx.Lexicon} {s : ByteArray} {f : Lx.Form} {n : Int} (h : Lx.ReadG x s f n) : FSmall f := by
  have hz : FSmall ⟨0, 0, []⟩ := ⟨by simp, by simp, by simp, fun k c hc => by simp at hc⟩
  rcases h with ⟨_, _, rfl⟩ | ⟨_, ⟨_, hf, _⟩ | ⟨_, rfl, _⟩⟩
  · exact hz
  · have hv := Lx.valid_of hf
    obtain ⟨t0, t1, t2⟩ := Lx.tooMany_no (Lx.check_parts hv.chk).1
    exact FitsC.small hv.fitsC (by omega) (by omega) (by omega) (by have := hv.fin; omega)
  · exact hz
theorem Lx.not_big {x : Lx.Lexicon} (h : Lx.largeV x = false) : x.entries.length ≤ 210 ∧ x.endings.length ≤ 50 ∧ x.clitics.length ≤ 15 := by
  simp [Lx.largeV] at h
  omega
structure LgR (T0 : Array Value) (W0 : World) (xv fv : Value) (bx bf : Nat) (x : Lx.Lexicon) (f : Lx.Form) (sg : ByteArray) (n : Int) (d : Array Bool) (t : Array Value) (wc : World) : Prop where
  bel : Below W0.heap.size W0 wc
  siz : t.size = 77
  kp : ∀ i, i ∉ ([7, 8, 29, 30, 31, 32, 33, 34, 35, 36] : List Nat) → t[i]? = T0[i]?
  k3 : t[3]? = some (.pointer (some ⟨bx, 0, none⟩))
  k4 : t[4]? = some (.pointer (some ⟨bf, 0, none⟩))
  p0 : dn d 0 → t[30]? = some (xv)
  p1 : dn d 1 → ∃ v, t[31]? = some v ∧ RdL wc wc.heap.size v x
  p2 : dn d 2 → t[32]? = some (fv)
  p3 : dn d 3 → ∃ v, t[33]? = some v ∧ RdF wc wc.heap.size v f
  p4 : dn d 4 → t[34]? = some (.tuple #[.string sg, .int .i64 n])
  p5 : dn d 5 → t[29]? = some (.tuple #[.string sg, .int .i64 n])
  p6 : dn d 6 → t[35]? = some (.string sg)
  p7 : dn d 7 → t[36]? = some (.int .i64 n)
  p8 : dn d 8 → t[7]? = some (.string sg)
  p9 : dn d 9 → t[8]? = some (.int .i64 n)
def LgI (T0 : Array Value) (W0 : World) (xv fv : Value) (bx bf : Nat) (x : Lx.Lexicon) (f : Lx.Form) (sg : ByteArray) (n : Int) (d : Array Bool) (a : Act) (wc : World) : Prop := ∃ t : Array Value, a = ⟨t, []⟩ ∧ LgR T0 W0 xv fv bx bf x f sg n d t wc

set_option maxRecDepth 100000 in
set_option maxHeartbeats 8000000 in
theorem LexiconGlosses_any (v vf : Value) (x : Lx.Lexicon) (f : Lx.Form) (s : ByteArray) (w : World) (hr : RdL w w.heap.size v x) (hf : RdF w w.heap.size vf f) (hsz : s.size ≤ maxLen) (hm0 : ∃ m : Int, w.cell? ⟨0, 0, none⟩ = some (.int .i64 m)) :
    Calls Tryd.prog 10 #[v, vf, .string s] w (RetBB true w) := by
  obtain ⟨m, hm⟩ := hm0
  have h0lt := cell_lt hm
  have HR := Lib.hid hr
  have HF := Lib.hid hf
  have hs0 : s.size ≤ 9223372036854775807 := by simpa [maxLen] using hsz
  obtain ⟨⟨v0, v1, v2, rfl, ⟨A0, c0, rfl, -⟩, ⟨A1, c1, rfl, -⟩, ⟨A2, c2, rfl, -⟩⟩, -, -, -⟩ := hr
  obtain ⟨⟨sf, rfl, ⟨A3, c3, rfl, hl3, hm3, -⟩⟩⟩ := hf
  have hn3 : f.clitics.length ≤ 9223372036854775807 := by omega
  clear hl3 hm3 hsz
  obtain ⟨wA, hwA⟩ : ∃ wA, wA = (w.alloc (.cells #[.slice A0 x.entries.length c0, .slice A1 x.endings.length c1, .slice A2 x.clitics.length c2] 26)).alloc (.cells #[.int .i64 f.entry, .int .i64 f.ending, .slice A3 f.clitics.length c3] 29) := ⟨_, rfl⟩
  have hba : Below w.heap.size w wA := by rw [hwA]; exact ((Below.refl _ _).alloc (Nat.le_refl _) _).alloc (by simp) _
  have hsa : w.heap.size + 1 < wA.heap.size := by rw [hwA]; simp
  have hX : wA.heap[w.heap.size]? = some (.cells #[.slice A0 x.entries.length c0, .slice A1 x.endings.length c1, .slice A2 x.clitics.length c2] 26 (0, 0)) := by rw [hwA]; exact start_fst w _ _
  have hF : wA.heap[w.heap.size + 1]? = some (.cells #[.int .i64 f.entry, .int .i64 f.ending, .slice A3 f.clitics.length c3] 29 (0, 0)) := by rw [hwA]; exact start_res' w _ _
  have BXA : Hid (∀ W, Below wA.heap.size wA W → W.cell? ⟨w.heap.size, 0, none⟩ = some (.slice A0 x.entries.length c0) ∧ W.cell? ⟨w.heap.size, 1, none⟩ = some (.slice A1 x.endings.length c1) ∧ W.cell? ⟨w.heap.size, 2, none⟩ = some (.slice A2 x.clitics.length c2) ∧
      W.cell? ⟨w.heap.size + 1, 0, none⟩ = some (.int .i64 f.entry) ∧ W.cell? ⟨w.heap.size + 1, 1, none⟩ = some (.int .i64 f.ending) ∧ W.cell? ⟨w.heap.size + 1, 2, none⟩ = some (.slice A3 f.clitics.length c3)) := Lib.hid fun W hW => by
    have a := (hW.block w.heap.size (by omega)).trans hX
    have b := (hW.block (w.heap.size + 1) (by omega)).trans hF
    exact ⟨by simp [World.cell?, a], by simp [World.cell?, a], by simp [World.cell?, a], by simp [World.cell?, b], by simp [World.cell?, b], by simp [World.cell?, b]⟩
  have HBA := Lib.hid hba
  have HM : Hid (∀ W, Below wA.heap.size wA W → ∃ m : Int, W.cell? ⟨0, 0, none⟩ = some (.int .i64 m)) := Lib.hid fun W hW => ⟨m, ((hba.trans (hW.mono hba.size)).cell (p := ⟨0, 0, none⟩) h0lt).trans hm⟩
  have HGL := Lib.hid (fun (W : World) (hW : Below wA.heap.size wA W) => rdl_keep' (hba.trans (hW.mono hba.size)) HR.out)
  have HGF := Lib.hid (fun (W : World) (hW : Below wA.heap.size wA W) => rdf_keep' (hba.trans (hW.mono hba.size)) HF.out)
  have HLG := Lib.hid (fun (W : World) (hW : Below wA.heap.size wA W) => Large_any _ x W (HGL.out W hW))
  have HRG := Lib.hid (fun (W : World) (hW : Below wA.heap.size wA W) => rGloss_any _ _ x f W (HGL.out W hW) (HGF.out W hW))
  have HWA := Lib.hid hwA
  clear hba hX hF hm hwA
  go_enter Tryd.func10, Tryd.ntmps10
  go_wp2_with fail
  rw [← HWA.out]
  obtain ⟨g0, g1, g2, g3, g4, g5⟩ := BXA.out wA (Below.refl _ _)
  go_wp2_with fail
  refine (HLG.out wA (Below.refl _ _)).mono ?_
  rintro e1 w1 ⟨rfl, hb1⟩
  have H1 := Lib.hid hb1
  clear g0 g1 g2 g3 g4 g5
  obtain ⟨g0, g1, g2, g3, g4, g5⟩ := BXA.out w1 hb1
  clear hb1 HWA
  cases hbig : Lx.largeV x
  · obtain ⟨hs1, hs2, hs3⟩ := Lx.not_big hbig
    clear hbig
    by_cases h100 : 100 < f.clitics.length
    · have h100I : (100 : Int) < (f.clitics.length : Int) := by omega
      go_wp2_with (go_at_call 12; refine (works_any _).mono ?_; rintro e2 w2 ⟨rfl, hb2⟩)
      go_ret
      exact ⟨rfl, HBA.out.trans ((H1.out.trans (hb2.mono H1.out.size)).mono HBA.out.size)⟩
    · have h100I : ¬ (100 : Int) < (f.clitics.length : Int) := by omega
      by_cases h200 : 200 < s.size
      · have h200I : (200 : Int) < (s.size : Int) := by omega
        go_wp2_with (go_at_call 12; refine (works_any _).mono ?_; rintro e2 w2 ⟨rfl, hb2⟩)
        go_ret
        exact ⟨rfl, HBA.out.trans ((H1.out.trans (hb2.mono H1.out.size)).mono HBA.out.size)⟩
      · have h200I : ¬ (200 : Int) < (s.size : Int) := by omega
        have HCPY := Lib.hid (fun (W : World) (hW : Below wA.heap.size wA W) => rCopy_any _ x W (HGL.out W hW) (by omega) (by omega) (by omega))
        have HCOP := Lib.hid (fun (W : World) (hW : Below wA.heap.size wA W) => copied_any _ f W (HGF.out W hW) (by omega))
        go_wp2_with fail
        clear g0 g1 g2 g3 g4 g5
        refine wp_region_inv2T (fun T0 => LgI T0 w1 (.agg #[.slice A0 x.entries.length c0, .slice A1 x.endings.length c1, .slice A2 x.clitics.length c2]) (.agg #[.int .i64 f.entry, .int .i64 f.ending, .slice A3 f.clitics.length c3]) w.heap.size (w.heap.size + 1) x f (Lx.glossR x f) (Lx.formV x f)) (by kernel_rfl) (by kernel_rfl) ?g0a ?gstepa ?genda
        case g0a =>
          have hno : ∀ j, ¬ dn (Array.replicate 10 false) j := by
            intro j; unfold dn; by_cases hj : j < 10 <;> simp [Array.getD, hj]
          have na : ∀ {j : Nat} {Z : Prop}, dn (Array.replicate 10 false) j → Z := fun hj => absurd hj (hno _)
          exact ⟨_, rfl, { bel := (Below.refl _ _).drew, siz := rfl, kp := fun _ _ => rfl, k3 := rfl, k4 := rfl, p0 := na, p1 := fun hj => absurd hj (hno _), p2 := na, p3 := fun hj => absurd hj (hno _), p4 := na, p5 := na, p6 := na, p7 := na, p8 := na, p9 := na }⟩
        case gstepa =>
          intro T0 d a wc i hd hI hi
          obtain ⟨hlt, hnd, hpre⟩ := mem_ready hi
          have hd' : d.size = 10 := hd
          have hin : i < 10 := hlt
          clear hi hd hlt
          obtain ⟨t, rfl, h⟩ := hI
          have hcs : i = 0 ∨ i = 1 ∨ i = 2 ∨ i = 3 ∨ i = 4 ∨ i = 5 ∨ i = 6 ∨ i = 7 ∨ i = 8 ∨ i = 9 := by omega
          rcases hcs with rfl | rfl | rfl | rfl | rfl | rfl | rfl | rfl | rfl | rfl
          · have hi : 0 < d.size := by omega
            have q3 := h.k3
            obtain ⟨m0, m1, m2, m3, m4, m5⟩ := BXA.out wc (H1.out.trans (h.bel.mono H1.out.size))
            refine wpOp_plain rfl rfl ?_
            go_simp
            exact ⟨_, rfl, { bel := h.bel, siz := (by simpa using h.siz), kp := rk h.kp, k3 := rs h.k3, k4 := rs h.k4, p0 := fun _ => set_same (by have := h.siz; omega), p1 := rc hi h.p1 (fun v h2 => rdl_keep' (Below.refl _ _) h2), p2 := rp hi h.p2, p3 := rc hi h.p3 (fun v h2 => rdf_keep' (Below.refl _ _) h2), p4 := rp hi h.p4, p5 := rp hi h.p5, p6 := rp hi h.p6, p7 := rp hi h.p7, p8 := rp hi h.p8, p9 := rp hi h.p9 }⟩
          · have hi : 1 < d.size := by omega
            have e0 := h.p0 (hpre _ rfl ⟨0, .data⟩ (by simp) rfl)
            refine wpOp_plain rfl rfl ?_
            go_simp
            refine (HCPY.out wc (H1.out.trans (h.bel.mono H1.out.size))).mono ?_
            rintro e1 w1 ⟨v1, rfl, hr1, hb⟩
            exact ⟨_, rfl, { bel := h.bel.trans (hb.mono h.bel.size), siz := (by simpa using h.siz), kp := rk h.kp, k3 := rs h.k3, k4 := rs h.k4, p0 := rp hi h.p0, p1 := fun _ => ⟨v1, set_same (by have := h.siz; omega), hr1⟩, p2 := rp hi h.p2, p3 := rc hi h.p3 (fun v h2 => rdf_keep' hb h2), p4 := rp hi h.p4, p5 := rp hi h.p5, p6 := rp hi h.p6, p7 := rp hi h.p7, p8 := rp hi h.p8, p9 := rp hi h.p9 }⟩
          · have hi : 2 < d.size := by omega
            have q4 := h.k4
            obtain ⟨m0, m1, m2, m3, m4, m5⟩ := BXA.out wc (H1.out.trans (h.bel.mono H1.out.size))
            refine wpOp_plain rfl rfl ?_
            go_simp
            exact ⟨_, rfl, { bel := h.bel, siz := (by simpa using h.siz), kp := rk h.kp, k3 := rs h.k3, k4 := rs h.k4, p0 := rp hi h.p0, p1 := rc hi h.p1 (fun v h2 => rdl_keep' (Below.refl _ _) h2), p2 := fun _ => set_same (by have := h.siz; omega), p3 := rc hi h.p3 (fun v h2 => rdf_keep' (Below.refl _ _) h2), p4 := rp hi h.p4, p5 := rp hi h.p5, p6 := rp hi h.p6, p7 := rp hi h.p7, p8 := rp hi h.p8, p9 := rp hi h.p9 }⟩
          · have hi : 3 < d.size := by omega
            have e2 := h.p2 (hpre _ rfl ⟨2, .data⟩ (by simp) rfl)
            refine wpOp_plain rfl rfl ?_
            go_simp
            refine (HCOP.out wc (H1.out.trans (h.bel.mono H1.out.size))).mono ?_
            rintro e1 w1 ⟨v1, rfl, hr1, hb⟩
            exact ⟨_, rfl, { bel := h.bel.trans (hb.mono h.bel.size), siz := (by simpa using h.siz), kp := rk h.kp, k3 := rs h.k3, k4 := rs h.k4, p0 := rp hi h.p0, p1 := rc hi h.p1 (fun v h2 => rdl_keep' hb h2), p2 := rp hi h.p2, p3 := fun _ => ⟨v1, set_same (by have := h.siz; omega), hr1⟩, p4 := rp hi h.p4, p5 := rp hi h.p5, p6 := rp hi h.p6, p7 := rp hi h.p7, p8 := rp hi h.p8, p9 := rp hi h.p9 }⟩
          · have hi : 4 < d.size := by omega
            obtain ⟨v1, e1, r1⟩ := h.p1 (hpre _ rfl ⟨1, .data⟩ (by simp) rfl)
            obtain ⟨v3, e3, r3⟩ := h.p3 (hpre _ rfl ⟨3, .data⟩ (by simp) rfl)
            refine wpOp_plain rfl rfl ?_
            go_simp
            refine (Gloss_any v1 v3 x f wc r1 r3).mono ?_
            rintro e1 w1 ⟨rfl, hb⟩
            exact ⟨_, rfl, { bel := h.bel.trans (hb.mono h.bel.size), siz := (by simpa using h.siz), kp := rk h.kp, k3 := rs h.k3, k4 := rs h.k4, p0 := rp hi h.p0, p1 := rc hi h.p1 (fun v h2 => rdl_keep' hb h2), p2 := rp hi h.p2, p3 := rc hi h.p3 (fun v h2 => rdf_keep' hb h2), p4 := fun _ => set_same (by have := h.siz; omega), p5 := rp hi h.p5, p6 := rp hi h.p6, p7 := rp hi h.p7, p8 := rp hi h.p8, p9 := rp hi h.p9 }⟩
          · have hi : 5 < d.size := by omega
            have e4 := h.p4 (hpre _ rfl ⟨4, .data⟩ (by simp) rfl)
            refine wpOp_plain rfl rfl ?_
            go_simp
            exact ⟨_, rfl, { bel := h.bel, siz := (by simpa using h.siz), kp := rk h.kp, k3 := rs h.k3, k4 := rs h.k4, p0 := rp hi h.p0, p1 := rc hi h.p1 (fun v h2 => rdl_keep' (Below.refl _ _) h2), p2 := rp hi h.p2, p3 := rc hi h.p3 (fun v h2 => rdf_keep' (Below.refl _ _) h2), p4 := rp hi h.p4, p5 := fun _ => set_same (by have := h.siz; omega), p6 := rp hi h.p6, p7 := rp hi h.p7, p8 := rp hi h.p8, p9 := rp hi h.p9 }⟩
          · have hi : 6 < d.size := by omega
            have e5 := h.p5 (hpre _ rfl ⟨5, .data⟩ (by simp) rfl)
            refine wpOp_plain rfl rfl ?_
            go_simp
            exact ⟨_, rfl, { bel := h.bel, siz := (by simpa using h.siz), kp := rk h.kp, k3 := rs h.k3, k4 := rs h.k4, p0 := rp hi h.p0, p1 := rc hi h.p1 (fun v h2 => rdl_keep' (Below.refl _ _) h2), p2 := rp hi h.p2, p3 := rc hi h.p3 (fun v h2 => rdf_keep' (Below.refl _ _) h2), p4 := rp hi h.p4, p5 := rp hi h.p5, p6 := fun _ => set_same (by have := h.siz; omega), p7 := rp hi h.p7, p8 := rp hi h.p8, p9 := rp hi h.p9 }⟩
          · have hi : 7 < d.size := by omega
            have e5 := h.p5 (hpre _ rfl ⟨5, .data⟩ (by simp) rfl)
            refine wpOp_plain rfl rfl ?_
            go_simp
            exact ⟨_, rfl, { bel := h.bel, siz := (by simpa using h.siz), kp := rk h.kp, k3 := rs h.k3, k4 := rs h.k4, p0 := rp hi h.p0, p1 := rc hi h.p1 (fun v h2 => rdl_keep' (Below.refl _ _) h2), p2 := rp hi h.p2, p3 := rc hi h.p3 (fun v h2 => rdf_keep' (Below.refl _ _) h2), p4 := rp hi h.p4, p5 := rp hi h.p5, p6 := rp hi h.p6, p7 := fun _ => set_same (by have := h.siz; omega), p8 := rp hi h.p8, p9 := rp hi h.p9 }⟩
          · have hi : 8 < d.size := by omega
            have e6 := h.p6 (hpre _ rfl ⟨6, .data⟩ (by simp) rfl)
            refine wpOp_plain rfl rfl ?_
            go_simp
            exact ⟨_, rfl, { bel := h.bel, siz := (by simpa using h.siz), kp := rk h.kp, k3 := rs h.k3, k4 := rs h.k4, p0 := rp hi h.p0, p1 := rc hi h.p1 (fun v h2 => rdl_keep' (Below.refl _ _) h2), p2 := rp hi h.p2, p3 := rc hi h.p3 (fun v h2 => rdf_keep' (Below.refl _ _) h2), p4 := rp hi h.p4, p5 := rp hi h.p5, p6 := rp hi h.p6, p7 := rp hi h.p7, p8 := fun _ => set_same (by have := h.siz; omega), p9 := rp hi h.p9 }⟩
          · have hi : 9 < d.size := by omega
            have e7 := h.p7 (hpre _ rfl ⟨7, .data⟩ (by simp) rfl)
            refine wpOp_plain rfl rfl ?_
            go_simp
            exact ⟨_, rfl, { bel := h.bel, siz := (by simpa using h.siz), kp := rk h.kp, k3 := rs h.k3, k4 := rs h.k4, p0 := rp hi h.p0, p1 := rc hi h.p1 (fun v h2 => rdl_keep' (Below.refl _ _) h2), p2 := rp hi h.p2, p3 := rc hi h.p3 (fun v h2 => rdf_keep' (Below.refl _ _) h2), p4 := rp hi h.p4, p5 := rp hi h.p5, p6 := rp hi h.p6, p7 := rp hi h.p7, p8 := rp hi h.p8, p9 := fun _ => set_same (by have := h.siz; omega) }⟩
        case genda =>
          intro d a wc hd hI hall
          obtain ⟨t, rfl, h⟩ := hI
          have hdn : ∀ j, j < 10 → dn d j := fun j hj => dn_all hd hall hj
          have hd : ∀ j, (_ : j < 10 := by decide) → dn d j := fun j hj => hdn j hj
          obtain ⟨v1, e1, r1⟩ := h.p1 (hd 1)
          obtain ⟨v3, e3, r3⟩ := h.p3 (hd 3)
          have hfe := frame_eq [(7, _), (8, _), (29, _), (30, _), (31, v1), (32, _), (33, v3), (34, _), (35, _), (36, _)] (h.siz.trans rfl) h.kp rfl ⟨h.p8 (hd 8), h.p9 (hd 9), h.p5 (hd 5), h.p0 (hd 0), e1, h.p2 (hd 2), e3, h.p4 (hd 4), h.p6 (hd 6), h.p7 (hd 7), trivial⟩
          simp only [List.foldl_cons, List.foldl_nil, List.setIfInBounds_toArray, List.set_cons_succ, List.set_cons_zero] at hfe
          have hbc := h.bel
          subst hfe
          clear h hdn hd hall
          have HE := Lib.hid (H1.out.trans (hbc.mono H1.out.size))
          clear hbc r1 r3
          obtain ⟨sg, hsg⟩ : ∃ sg, sg = Lx.glossR x f := ⟨_, rfl⟩
          obtain ⟨n, hn⟩ : ∃ n, n = Lx.formV x f := ⟨_, rfl⟩
          rw [← hsg, ← hn]
          have HSG := Lib.hid hsg
          have HN := Lib.hid hn
          clear hsg hn
          obtain ⟨g0, g1, g2, g3, g4, g5⟩ := BXA.out wc HE.out
          go_wp2_with fail
          refine (HRG.out wc HE.out).mono ?_
          rw [← HSG.out, ← HN.out]
          rintro e2 w2 ⟨rfl, hb2⟩
          have H2 := Lib.hid (HE.out.trans (hb2.mono HE.out.size))
          clear hb2 g0 g1 g2 g3 g4 g5
          obtain ⟨g0, g1, g2, g3, g4, g5⟩ := BXA.out w2 H2.out
          go_wp2_with fail
          refine (HCPY.out w2 H2.out).mono ?_
          rintro e3 w3 ⟨v3, rfl, hr3, hb3⟩
          have H3 := Lib.hid (H2.out.trans (hb3.mono H2.out.size))
          clear hb3 g0 g1 g2 g3 g4 g5
          go_wp2_with fail
          refine (ParseGloss_any v3 x s w3 hr3 (by omega) (HM.out w3 H3.out)).mono ?_
          rintro e4 w4 ⟨_, f1, n1, rfl, hg1, ⟨s1, rfl, hx1⟩, hb4⟩
          obtain ⟨S1, k1, rfl, -⟩ := id hx1
          obtain ⟨W4, hW4⟩ : ∃ W4, W4 = w4.alloc (.cells #[.int .i64 f1.entry, .int .i64 f1.ending, .slice S1 f1.clitics.length k1] 29) := ⟨_, rfl⟩
          have hb44 : Below w4.heap.size w4 W4 := by rw [hW4]; exact (Below.refl _ _).alloc (Nat.le_refl _) _
          have h44 : w4.heap.size < W4.heap.size := by rw [hW4]; simp
          have hh4 : W4.heap[w4.heap.size]? = some (.cells #[.int .i64 f1.entry, .int .i64 f1.ending, .slice S1 f1.clitics.length k1] 29 (0, 0)) := by rw [hW4]; exact heap_alloc_new _ _
          have H4 := Lib.hid (H3.out.trans ((hb4.mono H3.out.size).trans (hb44.mono (by have := H3.out.size; have := hb4.size; omega))))
          have HG1 := Lib.hid hg1
          have HX1 := Lib.hid hx1
          have HW4 := Lib.hid hW4
          have HH4 := Lib.hid hh4
          have HB44 := Lib.hid hb44
          obtain ⟨g0, g1, g2, g3, g4, g5⟩ := BXA.out W4 H4.out
          clear hg1 hx1 hb4 hW4 hh4 hb44
          go_upto_region 6 with fail
          rw [← HW4.out]
          go_wp2_with fail
          refine (rParseGloss_any _ x s W4 (HGL.out W4 H4.out) (by omega)).mono ?_
          rintro e5 w5 ⟨_, f2, n2, rfl, hg2, ⟨s2, rfl, hx2⟩, hb5⟩
          obtain ⟨S2, k2, rfl, -⟩ := id hx2
          obtain ⟨hfe, hne⟩ := Lx.readG_uniq HG1.out hg2
          subst hfe hne
          obtain ⟨W5, hW5⟩ : ∃ W5, W5 = w5.alloc (.cells #[.int .i64 f1.entry, .int .i64 f1.ending, .slice S2 f1.clitics.length k2] 29) := ⟨_, rfl⟩
          have hb55 : Below w5.heap.size w5 W5 := by rw [hW5]; exact (Below.refl _ _).alloc (Nat.le_refl _) _
          have h55 : w5.heap.size < W5.heap.size := by rw [hW5]; simp
          have h45 := hb5.size
          have hh5 : W5.heap[w5.heap.size]? = some (.cells #[.int .i64 f1.entry, .int .i64 f1.ending, .slice S2 f1.clitics.length k2] 29 (0, 0)) := by rw [hW5]; exact heap_alloc_new _ _
          have hb45 : Below W4.heap.size W4 W5 := hb5.trans (hb55.mono hb5.size)
          have H5 := Lib.hid (H4.out.trans (hb45.mono H4.out.size))
          have HA := Lib.hid ((hb45.block w4.heap.size h44).trans HH4.out)
          have HB := Lib.hid hh5
          have HRA : Hid (∀ W, Below W5.heap.size W5 W → RdF W W.heap.size (.agg #[.int .i64 f1.entry, .int .i64 f1.ending, .slice S1 f1.clitics.length k1]) f1) := Lib.hid fun W hW => ⟨⟨_, rfl, (HX1.out.keep (w' := W) (ok' := fun b => b < W.heap.size) fun b hb => ⟨by have := hW.size; omega, (hW.block b (by omega)).trans ((hb45.block b (by omega)).trans (HB44.out.block b hb.1))⟩).to fun b hb => hb⟩⟩
          have HRB : Hid (∀ W, Below W5.heap.size W5 W → RdF W W.heap.size (.agg #[.int .i64 f1.entry, .int .i64 f1.ending, .slice S2 f1.clitics.length k2]) f1) := Lib.hid fun W hW => ⟨⟨_, rfl, (hx2.keep (w' := W) (ok' := fun b => b < W.heap.size) fun b hb => ⟨by have := hW.size; omega, (hW.block b (by omega)).trans (hb55.block b hb.1)⟩).to fun b hb => hb⟩⟩
          have HSF : Hid (∀ W, Below W5.heap.size W5 W → Calls Tryd.prog 40 #[.agg #[.int .i64 f1.entry, .int .i64 f1.ending, .slice S1 f1.clitics.length k1], .agg #[.int .i64 f1.entry, .int .i64 f1.ending, .slice S2 f1.clitics.length k2]] W (RetBB true W)) := Lib.hid fun W hW => by
            have := SameForm_any _ _ f1 f1 W (HRA.out W hW) (HRB.out W hW) (Lx.read_small HG1.out) (Lx.read_small HG1.out)
            simpa using this
          have HW5 := Lib.hid hW5
          clear g0 g1 g2 g3 g4 g5 hb5 hx2 hW5 hb55 hh5 hb45 hg2
          go_upto_region 7 with fail
          rw [← HW5.out]
          obtain ⟨a0, a1, a2, -, -, -⟩ := form_cells HA.out
          obtain ⟨b0, b1, b2, -, -, -⟩ := form_cells HB.out
          go_wp2_with fail
          refine (HSF.out W5 (Below.refl _ _)).mono ?_
          rintro e6 w6 ⟨rfl, hb6⟩
          have H6 := Lib.hid (H5.out.trans (hb6.mono H5.out.size))
          clear hb6 a0 a1 a2 b0 b1 b2
          go_wp2_with (go_at_call 12; refine (works_any _).mono ?_; rintro e9 w9 ⟨rfl, hb9⟩)
          go_ret
          exact ⟨rfl, HBA.out.trans ((H6.out.trans (hb9.mono H6.out.size)).mono HBA.out.size)⟩
  · clear hbig
    go_wp2_with (go_at_call 12; refine (works_any _).mono ?_; rintro e2 w2 ⟨rfl, hb2⟩)
    go_ret
    exact ⟨rfl, HBA.out.trans ((H1.out.trans (hb2.mono H1.out.size)).mono HBA.out.size)⟩
end Go.Proofs.YtpmfjndbckblfaaDoor
