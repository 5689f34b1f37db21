/- ostraconlaw05.LexiconSounds: the walk. Made by gen_lawsounds.py. -/
import Derived.Test.YtpmfjndbckblfaaDoorWorks
import Derived.Test.YtpmfjndbckblfaaDoorSounds
import Derived.Test.YtpmfjndbckblfaaDoorLawChecks
import Derived.Test.YtpmfjndbckblfaaDoorRegion2
namespace Go.Proofs.YtpmfjndbckblfaaDoor
open Go.RowKit

structure LSaR (W0 : World) (x : Lx.Lexicon) (f : Lx.Form) (xv fv : Value) (b2 b3 : Nat) (d : Array Bool) (t : Array Value) (wc : World) : Prop where
  bel : Below (W0).heap.size (W0) wc
  siz : t.size = 99
  k2 : t[2]? = some (.pointer (some ⟨b2, 0, none⟩))
  k3 : t[3]? = some (.pointer (some ⟨b3, 0, none⟩))
  p0 : dn d 0 → t[27]? = some (xv)
  p1 : dn d 1 → ∃ v, t[28]? = some v ∧ RdL wc wc.heap.size v x
  p2 : dn d 2 → t[29]? = some (fv)
  p3 : dn d 3 → ∃ v, t[30]? = some v ∧ RdF wc wc.heap.size v f
  p4 : dn d 4 → t[31]? = some (.tuple #[.string (Lx.stemR x f), .int .i64 (Lx.formV x f)])
  p5 : dn d 5 → t[26]? = some (.tuple #[.string (Lx.stemR x f), .int .i64 (Lx.formV x f)])
  p6 : dn d 6 → t[32]? = some (.string (Lx.stemR x f))
  p7 : dn d 7 → t[33]? = some (.int .i64 (Lx.formV x f))
  p8 : dn d 8 → t[5]? = some (.string (Lx.stemR x f))
  p9 : dn d 9 → t[6]? = some (.int .i64 (Lx.formV x f))
def LSaI (W0 : World) (x : Lx.Lexicon) (f : Lx.Form) (xv fv : Value) (b2 b3 : Nat) (d : Array Bool) (a : Act) (wc : World) : Prop := ∃ t : Array Value, a = ⟨t, []⟩ ∧ LSaR W0 x f xv fv b2 b3 d t wc
structure LSbR (W0 : World) (x : Lx.Lexicon) (f : Lx.Form) (xv fv : Value) (b2 b3 : Nat) (d : Array Bool) (t : Array Value) (wc : World) : Prop where
  bel : Below (W0).heap.size (W0) wc
  siz : t.size = 99
  k2 : t[2]? = some (.pointer (some ⟨b2, 0, none⟩))
  k3 : t[3]? = some (.pointer (some ⟨b3, 0, none⟩))
  k5 : t[5]? = some (.string (Lx.stemR x f))
  k6 : t[6]? = some (.int .i64 (Lx.formV x f))
  k7 : t[7]? = some (.string (Lx.stemR x f))
  k8 : t[8]? = some (.int .i64 (Lx.formV x f))
  p0 : dn d 0 → t[41]? = some (xv)
  p1 : dn d 1 → ∃ v, t[42]? = some v ∧ RdL wc wc.heap.size v x
  p2 : dn d 2 → t[43]? = some (fv)
  p3 : dn d 3 → ∃ v, t[44]? = some v ∧ RdF wc wc.heap.size v f
  p4 : dn d 4 → t[45]? = some (.tuple #[.string (Lx.soundsR x f), .int .i64 (Lx.formV x f)])
  p5 : dn d 5 → t[40]? = some (.tuple #[.string (Lx.soundsR x f), .int .i64 (Lx.formV x f)])
  p6 : dn d 6 → t[46]? = some (.string (Lx.soundsR x f))
  p7 : dn d 7 → t[47]? = some (.int .i64 (Lx.formV x f))
  p8 : dn d 8 → t[9]? = some (.string (Lx.soundsR x f))
  p9 : dn d 9 → t[10]? = some (.int .i64 (Lx.formV x f))
def LSbI (W0 : World) (x : Lx.Lexicon) (f : Lx.Form) (xv fv : Value) (b2 b3 : Nat) (d : Array Bool) (a : Act) (wc : World) : Prop := ∃ t : Array Value, a = ⟨t, []⟩ ∧ LSbR W0 x f xv fv b2 b3 d t wc
structure LScR (W0 : World) (x : Lx.Lexicon) (f : Lx.Form) (xv fv : Value) (b2 b3 : Nat) (d : Array Bool) (t : Array Value) (wc : World) : Prop where
  bel : Below (W0).heap.size (W0) wc
  siz : t.size = 99
  k2 : t[2]? = some (.pointer (some ⟨b2, 0, none⟩))
  k3 : t[3]? = some (.pointer (some ⟨b3, 0, none⟩))
  k5 : t[5]? = some (.string (Lx.stemR x f))
  k6 : t[6]? = some (.int .i64 (Lx.formV x f))
  k7 : t[7]? = some (.string (Lx.stemR x f))
  k8 : t[8]? = some (.int .i64 (Lx.formV x f))
  k9 : t[9]? = some (.string (Lx.soundsR x f))
  k10 : t[10]? = some (.int .i64 (Lx.formV x f))
  k11 : t[11]? = some (.string (Lx.soundsR x f))
  k12 : t[12]? = some (.int .i64 (Lx.formV x f))
  p0 : dn d 0 → t[55]? = some (xv)
  p1 : dn d 1 → ∃ v, t[56]? = some v ∧ RdL wc wc.heap.size v x
  p2 : dn d 2 → t[57]? = some (fv)
  p3 : dn d 3 → ∃ v, t[58]? = some v ∧ RdF wc wc.heap.size v f
  p4 : dn d 4 → t[59]? = some (.tuple #[.int .i64 (Lx.weightR x f), .int .i64 (Lx.formV x f)])
  p5 : dn d 5 → t[54]? = some (.tuple #[.int .i64 (Lx.weightR x f), .int .i64 (Lx.formV x f)])
  p6 : dn d 6 → t[60]? = some (.int .i64 (Lx.weightR x f))
  p7 : dn d 7 → t[61]? = some (.int .i64 (Lx.formV x f))
  p8 : dn d 8 → t[13]? = some (.int .i64 (Lx.weightR x f))
  p9 : dn d 9 → t[14]? = some (.int .i64 (Lx.formV x f))
def LScI (W0 : World) (x : Lx.Lexicon) (f : Lx.Form) (xv fv : Value) (b2 b3 : Nat) (d : Array Bool) (a : Act) (wc : World) : Prop := ∃ t : Array Value, a = ⟨t, []⟩ ∧ LScR W0 x f xv fv b2 b3 d t wc

set_option maxRecDepth 100000 in
set_option maxHeartbeats 8000000 in
theorem LexiconSounds_any (v vf : Value) (x : Lx.Lexicon) (f : Lx.Form) (w : World) (hr : RdL w w.heap.size v x) (hf : RdF w w.heap.size vf f) :
    Calls Tryd.prog 5 #[v, vf] w (RetBB true w) := by
  have HR := Lib.hid hr
  have HF := Lib.hid hf
  obtain ⟨⟨v0, v1, v2, rfl, ⟨A0, c0, rfl, -⟩, ⟨A1, c1, rfl, -⟩, ⟨A2, c2, rfl, -⟩⟩, -, -, -⟩ := hr
  obtain ⟨⟨sf, rfl, ⟨A3, c3, rfl, hl3, hm3, -⟩⟩⟩ := hf
  have hn3 : f.clitics.length ≤ 9223372036854775807 := by omega
  clear hl3 hm3
  obtain ⟨wA, hwA⟩ : ∃ wA, wA = (w.alloc (.cells #[.slice A0 x.entries.length c0, .slice A1 x.endings.length c1, .slice A2 x.clitics.length c2] 26)).alloc (.cells #[.int .i64 f.entry, .int .i64 f.ending, .slice A3 f.clitics.length c3] 29) := ⟨_, rfl⟩
  have hba : Below w.heap.size w wA := by rw [hwA]; exact ((Below.refl _ _).alloc (Nat.le_refl _) _).alloc (by simp) _
  have hsa : wA.heap.size = w.heap.size + 2 := by rw [hwA]; simp
  have hX : wA.heap[w.heap.size]? = some (.cells #[.slice A0 x.entries.length c0, .slice A1 x.endings.length c1, .slice A2 x.clitics.length c2] 26 (0, 0)) := by rw [hwA]; exact start_fst w _ _
  have hF : wA.heap[w.heap.size + 1]? = some (.cells #[.int .i64 f.entry, .int .i64 f.ending, .slice A3 f.clitics.length c3] 29 (0, 0)) := by rw [hwA]; exact start_res' w _ _
  have BXA : Hid (∀ W, Below wA.heap.size wA W → W.cell? ⟨w.heap.size, 0, none⟩ = some (.slice A0 x.entries.length c0) ∧ W.cell? ⟨w.heap.size, 1, none⟩ = some (.slice A1 x.endings.length c1) ∧ W.cell? ⟨w.heap.size, 2, none⟩ = some (.slice A2 x.clitics.length c2) ∧
      W.cell? ⟨w.heap.size + 1, 0, none⟩ = some (.int .i64 f.entry) ∧ W.cell? ⟨w.heap.size + 1, 1, none⟩ = some (.int .i64 f.ending) ∧ W.cell? ⟨w.heap.size + 1, 2, none⟩ = some (.slice A3 f.clitics.length c3)) := Lib.hid fun W hW => by
    have a := (hW.block w.heap.size (by omega)).trans hX
    have b := (hW.block (w.heap.size + 1) (by omega)).trans hF
    exact ⟨by simp [World.cell?, a], by simp [World.cell?, a], by simp [World.cell?, a], by simp [World.cell?, b], by simp [World.cell?, b], by simp [World.cell?, b]⟩
  have HBA := Lib.hid hba
  have HGL := Lib.hid (fun (W : World) (hW : Below wA.heap.size wA W) => rdl_keep (hba.trans (hW.mono hba.size)) HR.out)
  have HGF := Lib.hid (fun (W : World) (hW : Below wA.heap.size wA W) => rdf_keep (hba.trans (hW.mono hba.size)) HF.out)
  have HBig := Lib.hid (fun (W : World) (hW : Below wA.heap.size wA W) => Big_any _ x W (HGL.out W hW))
  have HrSt := Lib.hid (fun (W : World) (hW : Below wA.heap.size wA W) => rStem_any _ _ x f W (HGL.out W hW) (HGF.out W hW))
  have HrSo := Lib.hid (fun (W : World) (hW : Below wA.heap.size wA W) => rSounds_any _ _ x f W (HGL.out W hW) (HGF.out W hW))
  have HrW := Lib.hid (fun (W : World) (hW : Below wA.heap.size wA W) => rWeight_any _ _ x f W (HGL.out W hW) (HGF.out W hW))
  have HWA := Lib.hid hwA
  clear hba hX hF
  go_enter Tryd.func5, Tryd.ntmps5
  go_wp2_with fail
  rw [← HWA.out]
  refine (HBig.out _ (Below.refl _ _)).mono ?_
  rintro e1 w1 ⟨rfl, hb1⟩
  have H1 := Lib.hid hb1
  obtain ⟨g0, g1, g2, g3, g4, g5⟩ := BXA.out w1 hb1
  clear hb1 hwA HWA hsa
  cases hbig : Lx.bigV x
  · by_cases h100 : 100 < f.clitics.length
    · clear hbig
      go_wp2_with (go_at_call 12; refine (works_any _).mono ?_; rintro e2 w2 ⟨rfl, hb2⟩)
      go_ret
      exact ⟨rfl, HBA.out.trans ((H1.out.trans (hb2.mono H1.out.size)).mono HBA.out.size)⟩
    · have hsmall : x.entries.length ≤ 210 ∧ x.endings.length ≤ 50 ∧ x.clitics.length ≤ 15 := by
        simp [Lx.bigV] at hbig; omega
      obtain ⟨hs0, hs1, hs2⟩ := hsmall
      clear hbig
      have HCpy := Lib.hid (fun (W : World) (hW : Below wA.heap.size wA W) => rCopy_any _ x W (HGL.out W hW) (by omega) (by omega) (by omega))
      have HCop := Lib.hid (fun (W : World) (hW : Below wA.heap.size wA W) => copied_any _ f W (HGF.out W hW) (by omega))
      go_wp2_with fail
      clear g0 g1 g2 g3 g4 g5
      refine wp_region_inv2 (LSaI w1 x f (.agg #[.slice A0 x.entries.length c0, .slice A1 x.endings.length c1, .slice A2 x.clitics.length c2]) (.agg #[.int .i64 f.entry, .int .i64 f.ending, .slice A3 f.clitics.length c3]) w.heap.size (w.heap.size + 1)) (by kernel_rfl) (by kernel_rfl) ?h0a ?hstepa ?henda
      case h0a =>
        have hno : ∀ j, ¬ dn (Array.replicate 10 false) j := by
          intro j; unfold dn; by_cases hj : j < 10 <;> simp [Array.getD, hj]
        exact ⟨_, rfl, { bel := (Below.refl _ _).drew, siz := rfl, k2 := rfl, k3 := rfl, p0 := fun hj => absurd hj (hno _), p1 := fun hj => absurd hj (hno _), p2 := fun hj => absurd hj (hno _), p3 := fun hj => absurd hj (hno _), p4 := fun hj => absurd hj (hno _), p5 := fun hj => absurd hj (hno _), p6 := fun hj => absurd hj (hno _), p7 := fun hj => absurd hj (hno _), p8 := fun hj => absurd hj (hno _), p9 := fun hj => absurd hj (hno _) }⟩
      case hstepa =>
        intro d a wc i hd hI hi
        obtain ⟨hlt, hnd, hpre⟩ := mem_ready hi
        have hd' : d.size = 10 := hd
        have hin : i < 10 := hlt
        clear hi hd hlt
        obtain ⟨t, rfl, h⟩ := hI
        have hcs : i = 0 ∨ i = 1 ∨ i = 2 ∨ i = 3 ∨ i = 4 ∨ i = 5 ∨ i = 6 ∨ i = 7 ∨ i = 8 ∨ i = 9 := by omega
        rcases hcs with rfl | rfl | rfl | rfl | rfl | rfl | rfl | rfl | rfl | rfl
        · have hi : 0 < d.size := by omega
          obtain ⟨m0, m1, m2, m3, m4, m5⟩ := BXA.out wc (H1.out.trans (h.bel.mono H1.out.size))
          have q2 := h.k2
          refine wpOp_plain rfl rfl ?_
          go_simp
          exact ⟨_, rfl, { bel := h.bel, siz := (by simpa using h.siz), k2 := (set_other (by decide)).trans h.k2, k3 := (set_other (by decide)).trans h.k3, p0 := fun _ => set_same (by have := h.siz; omega), p1 := fun hj => (by obtain ⟨v, h1, h2⟩ := (h.p1 (dn_of hi hj (by decide))); exact ⟨v, ((set_other (by decide)).trans h1), rdl_keep (Below.refl _ _) h2⟩), p2 := fun hj => (set_other (by decide)).trans (h.p2 (dn_of hi hj (by decide))), p3 := fun hj => (by obtain ⟨v, h1, h2⟩ := (h.p3 (dn_of hi hj (by decide))); exact ⟨v, ((set_other (by decide)).trans h1), rdf_keep (Below.refl _ _) h2⟩), p4 := fun hj => (set_other (by decide)).trans (h.p4 (dn_of hi hj (by decide))), p5 := fun hj => (set_other (by decide)).trans (h.p5 (dn_of hi hj (by decide))), p6 := fun hj => (set_other (by decide)).trans (h.p6 (dn_of hi hj (by decide))), p7 := fun hj => (set_other (by decide)).trans (h.p7 (dn_of hi hj (by decide))), p8 := fun hj => (set_other (by decide)).trans (h.p8 (dn_of hi hj (by decide))), p9 := fun hj => (set_other (by decide)).trans (h.p9 (dn_of hi hj (by decide))) }⟩
        · have hi : 1 < d.size := by omega
          have e0 := h.p0 (hpre _ rfl ⟨0, .data⟩ (by simp) rfl)
          refine wpOp_plain rfl rfl ?_
          go_simp
          refine (HCpy.out wc (H1.out.trans (h.bel.mono H1.out.size))).mono ?_
          rintro e1 w1 ⟨v1, rfl, hr1, hb⟩
          exact ⟨_, rfl, { bel := h.bel.trans (hb.mono h.bel.size), siz := (by simpa using h.siz), k2 := (set_other (by decide)).trans h.k2, k3 := (set_other (by decide)).trans h.k3, p0 := fun hj => (set_other (by decide)).trans (h.p0 (dn_of hi hj (by decide))), p1 := fun _ => ⟨v1, set_same (by have := h.siz; omega), hr1⟩, p2 := fun hj => (set_other (by decide)).trans (h.p2 (dn_of hi hj (by decide))), p3 := fun hj => (by obtain ⟨v, h1, h2⟩ := (h.p3 (dn_of hi hj (by decide))); exact ⟨v, ((set_other (by decide)).trans h1), rdf_keep hb h2⟩), p4 := fun hj => (set_other (by decide)).trans (h.p4 (dn_of hi hj (by decide))), p5 := fun hj => (set_other (by decide)).trans (h.p5 (dn_of hi hj (by decide))), p6 := fun hj => (set_other (by decide)).trans (h.p6 (dn_of hi hj (by decide))), p7 := fun hj => (set_other (by decide)).trans (h.p7 (dn_of hi hj (by decide))), p8 := fun hj => (set_other (by decide)).trans (h.p8 (dn_of hi hj (by decide))), p9 := fun hj => (set_other (by decide)).trans (h.p9 (dn_of hi hj (by decide))) }⟩
        · have hi : 2 < d.size := by omega
          obtain ⟨m0, m1, m2, m3, m4, m5⟩ := BXA.out wc (H1.out.trans (h.bel.mono H1.out.size))
          have q3 := h.k3
          refine wpOp_plain rfl rfl ?_
          go_simp
          exact ⟨_, rfl, { bel := h.bel, siz := (by simpa using h.siz), k2 := (set_other (by decide)).trans h.k2, k3 := (set_other (by decide)).trans h.k3, p0 := fun hj => (set_other (by decide)).trans (h.p0 (dn_of hi hj (by decide))), p1 := fun hj => (by obtain ⟨v, h1, h2⟩ := (h.p1 (dn_of hi hj (by decide))); exact ⟨v, ((set_other (by decide)).trans h1), rdl_keep (Below.refl _ _) h2⟩), p2 := fun _ => set_same (by have := h.siz; omega), p3 := fun hj => (by obtain ⟨v, h1, h2⟩ := (h.p3 (dn_of hi hj (by decide))); exact ⟨v, ((set_other (by decide)).trans h1), rdf_keep (Below.refl _ _) h2⟩), p4 := fun hj => (set_other (by decide)).trans (h.p4 (dn_of hi hj (by decide))), p5 := fun hj => (set_other (by decide)).trans (h.p5 (dn_of hi hj (by decide))), p6 := fun hj => (set_other (by decide)).trans (h.p6 (dn_of hi hj (by decide))), p7 := fun hj => (set_other (by decide)).trans (h.p7 (dn_of hi hj (by decide))), p8 := fun hj => (set_other (by decide)).trans (h.p8 (dn_of hi hj (by decide))), p9 := fun hj => (set_other (by decide)).trans (h.p9 (dn_of hi hj (by decide))) }⟩
        · have hi : 3 < d.size := by omega
          have e2 := h.p2 (hpre _ rfl ⟨2, .data⟩ (by simp) rfl)
          refine wpOp_plain rfl rfl ?_
          go_simp
          refine (HCop.out wc (H1.out.trans (h.bel.mono H1.out.size))).mono ?_
          rintro e1 w1 ⟨v1, rfl, hr1, hb⟩
          exact ⟨_, rfl, { bel := h.bel.trans (hb.mono h.bel.size), siz := (by simpa using h.siz), k2 := (set_other (by decide)).trans h.k2, k3 := (set_other (by decide)).trans h.k3, p0 := fun hj => (set_other (by decide)).trans (h.p0 (dn_of hi hj (by decide))), p1 := fun hj => (by obtain ⟨v, h1, h2⟩ := (h.p1 (dn_of hi hj (by decide))); exact ⟨v, ((set_other (by decide)).trans h1), rdl_keep hb h2⟩), p2 := fun hj => (set_other (by decide)).trans (h.p2 (dn_of hi hj (by decide))), p3 := fun _ => ⟨v1, set_same (by have := h.siz; omega), hr1⟩, p4 := fun hj => (set_other (by decide)).trans (h.p4 (dn_of hi hj (by decide))), p5 := fun hj => (set_other (by decide)).trans (h.p5 (dn_of hi hj (by decide))), p6 := fun hj => (set_other (by decide)).trans (h.p6 (dn_of hi hj (by decide))), p7 := fun hj => (set_other (by decide)).trans (h.p7 (dn_of hi hj (by decide))), p8 := fun hj => (set_other (by decide)).trans (h.p8 (dn_of hi hj (by decide))), p9 := fun hj => (set_other (by decide)).trans (h.p9 (dn_of hi hj (by decide))) }⟩
        · have hi : 4 < d.size := by omega
          obtain ⟨v1, e1, hr1⟩ := h.p1 (hpre _ rfl ⟨1, .data⟩ (by simp) rfl)
          obtain ⟨v3, e3, hf3⟩ := h.p3 (hpre _ rfl ⟨3, .data⟩ (by simp) rfl)
          refine wpOp_plain rfl rfl ?_
          go_simp
          refine (Stem_any v1 v3 x f wc hr1 hf3).mono ?_
          rintro e1 w1 ⟨rfl, hb⟩
          exact ⟨_, rfl, { bel := h.bel.trans (hb.mono h.bel.size), siz := (by simpa using h.siz), k2 := (set_other (by decide)).trans h.k2, k3 := (set_other (by decide)).trans h.k3, p0 := fun hj => (set_other (by decide)).trans (h.p0 (dn_of hi hj (by decide))), p1 := fun hj => (by obtain ⟨v, h1, h2⟩ := (h.p1 (dn_of hi hj (by decide))); exact ⟨v, ((set_other (by decide)).trans h1), rdl_keep hb h2⟩), p2 := fun hj => (set_other (by decide)).trans (h.p2 (dn_of hi hj (by decide))), p3 := fun hj => (by obtain ⟨v, h1, h2⟩ := (h.p3 (dn_of hi hj (by decide))); exact ⟨v, ((set_other (by decide)).trans h1), rdf_keep hb h2⟩), p4 := fun _ => set_same (by have := h.siz; omega), p5 := fun hj => (set_other (by decide)).trans (h.p5 (dn_of hi hj (by decide))), p6 := fun hj => (set_other (by decide)).trans (h.p6 (dn_of hi hj (by decide))), p7 := fun hj => (set_other (by decide)).trans (h.p7 (dn_of hi hj (by decide))), p8 := fun hj => (set_other (by decide)).trans (h.p8 (dn_of hi hj (by decide))), p9 := fun hj => (set_other (by decide)).trans (h.p9 (dn_of hi hj (by decide))) }⟩
        · have hi : 5 < d.size := by omega
          have e4 := h.p4 (hpre _ rfl ⟨4, .data⟩ (by simp) rfl)
          refine wpOp_plain rfl rfl ?_
          go_simp
          exact ⟨_, rfl, { bel := h.bel, siz := (by simpa using h.siz), k2 := (set_other (by decide)).trans h.k2, k3 := (set_other (by decide)).trans h.k3, p0 := fun hj => (set_other (by decide)).trans (h.p0 (dn_of hi hj (by decide))), p1 := fun hj => (by obtain ⟨v, h1, h2⟩ := (h.p1 (dn_of hi hj (by decide))); exact ⟨v, ((set_other (by decide)).trans h1), rdl_keep (Below.refl _ _) h2⟩), p2 := fun hj => (set_other (by decide)).trans (h.p2 (dn_of hi hj (by decide))), p3 := fun hj => (by obtain ⟨v, h1, h2⟩ := (h.p3 (dn_of hi hj (by decide))); exact ⟨v, ((set_other (by decide)).trans h1), rdf_keep (Below.refl _ _) h2⟩), p4 := fun hj => (set_other (by decide)).trans (h.p4 (dn_of hi hj (by decide))), p5 := fun _ => set_same (by have := h.siz; omega), p6 := fun hj => (set_other (by decide)).trans (h.p6 (dn_of hi hj (by decide))), p7 := fun hj => (set_other (by decide)).trans (h.p7 (dn_of hi hj (by decide))), p8 := fun hj => (set_other (by decide)).trans (h.p8 (dn_of hi hj (by decide))), p9 := fun hj => (set_other (by decide)).trans (h.p9 (dn_of hi hj (by decide))) }⟩
        · have hi : 6 < d.size := by omega
          have e5 := h.p5 (hpre _ rfl ⟨5, .data⟩ (by simp) rfl)
          refine wpOp_plain rfl rfl ?_
          go_simp
          exact ⟨_, rfl, { bel := h.bel, siz := (by simpa using h.siz), k2 := (set_other (by decide)).trans h.k2, k3 := (set_other (by decide)).trans h.k3, p0 := fun hj => (set_other (by decide)).trans (h.p0 (dn_of hi hj (by decide))), p1 := fun hj => (by obtain ⟨v, h1, h2⟩ := (h.p1 (dn_of hi hj (by decide))); exact ⟨v, ((set_other (by decide)).trans h1), rdl_keep (Below.refl _ _) h2⟩), p2 := fun hj => (set_other (by decide)).trans (h.p2 (dn_of hi hj (by decide))), p3 := fun hj => (by obtain ⟨v, h1, h2⟩ := (h.p3 (dn_of hi hj (by decide))); exact ⟨v, ((set_other (by decide)).trans h1), rdf_keep (Below.refl _ _) h2⟩), p4 := fun hj => (set_other (by decide)).trans (h.p4 (dn_of hi hj (by decide))), p5 := fun hj => (set_other (by decide)).trans (h.p5 (dn_of hi hj (by decide))), p6 := fun _ => set_same (by have := h.siz; omega), p7 := fun hj => (set_other (by decide)).trans (h.p7 (dn_of hi hj (by decide))), p8 := fun hj => (set_other (by decide)).trans (h.p8 (dn_of hi hj (by decide))), p9 := fun hj => (set_other (by decide)).trans (h.p9 (dn_of hi hj (by decide))) }⟩
        · have hi : 7 < d.size := by omega
          have e5 := h.p5 (hpre _ rfl ⟨5, .data⟩ (by simp) rfl)
          refine wpOp_plain rfl rfl ?_
          go_simp
          exact ⟨_, rfl, { bel := h.bel, siz := (by simpa using h.siz), k2 := (set_other (by decide)).trans h.k2, k3 := (set_other (by decide)).trans h.k3, p0 := fun hj => (set_other (by decide)).trans (h.p0 (dn_of hi hj (by decide))), p1 := fun hj => (by obtain ⟨v, h1, h2⟩ := (h.p1 (dn_of hi hj (by decide))); exact ⟨v, ((set_other (by decide)).trans h1), rdl_keep (Below.refl _ _) h2⟩), p2 := fun hj => (set_other (by decide)).trans (h.p2 (dn_of hi hj (by decide))), p3 := fun hj => (by obtain ⟨v, h1, h2⟩ := (h.p3 (dn_of hi hj (by decide))); exact ⟨v, ((set_other (by decide)).trans h1), rdf_keep (Below.refl _ _) h2⟩), p4 := fun hj => (set_other (by decide)).trans (h.p4 (dn_of hi hj (by decide))), p5 := fun hj => (set_other (by decide)).trans (h.p5 (dn_of hi hj (by decide))), p6 := fun hj => (set_other (by decide)).trans (h.p6 (dn_of hi hj (by decide))), p7 := fun _ => set_same (by have := h.siz; omega), p8 := fun hj => (set_other (by decide)).trans (h.p8 (dn_of hi hj (by decide))), p9 := fun hj => (set_other (by decide)).trans (h.p9 (dn_of hi hj (by decide))) }⟩
        · have hi : 8 < d.size := by omega
          have e6 := h.p6 (hpre _ rfl ⟨6, .data⟩ (by simp) rfl)
          refine wpOp_plain rfl rfl ?_
          go_simp
          exact ⟨_, rfl, { bel := h.bel, siz := (by simpa using h.siz), k2 := (set_other (by decide)).trans h.k2, k3 := (set_other (by decide)).trans h.k3, p0 := fun hj => (set_other (by decide)).trans (h.p0 (dn_of hi hj (by decide))), p1 := fun hj => (by obtain ⟨v, h1, h2⟩ := (h.p1 (dn_of hi hj (by decide))); exact ⟨v, ((set_other (by decide)).trans h1), rdl_keep (Below.refl _ _) h2⟩), p2 := fun hj => (set_other (by decide)).trans (h.p2 (dn_of hi hj (by decide))), p3 := fun hj => (by obtain ⟨v, h1, h2⟩ := (h.p3 (dn_of hi hj (by decide))); exact ⟨v, ((set_other (by decide)).trans h1), rdf_keep (Below.refl _ _) h2⟩), p4 := fun hj => (set_other (by decide)).trans (h.p4 (dn_of hi hj (by decide))), p5 := fun hj => (set_other (by decide)).trans (h.p5 (dn_of hi hj (by decide))), p6 := fun hj => (set_other (by decide)).trans (h.p6 (dn_of hi hj (by decide))), p7 := fun hj => (set_other (by decide)).trans (h.p7 (dn_of hi hj (by decide))), p8 := fun _ => set_same (by have := h.siz; omega), p9 := fun hj => (set_other (by decide)).trans (h.p9 (dn_of hi hj (by decide))) }⟩
        · have hi : 9 < d.size := by omega
          have e7 := h.p7 (hpre _ rfl ⟨7, .data⟩ (by simp) rfl)
          refine wpOp_plain rfl rfl ?_
          go_simp
          exact ⟨_, rfl, { bel := h.bel, siz := (by simpa using h.siz), k2 := (set_other (by decide)).trans h.k2, k3 := (set_other (by decide)).trans h.k3, p0 := fun hj => (set_other (by decide)).trans (h.p0 (dn_of hi hj (by decide))), p1 := fun hj => (by obtain ⟨v, h1, h2⟩ := (h.p1 (dn_of hi hj (by decide))); exact ⟨v, ((set_other (by decide)).trans h1), rdl_keep (Below.refl _ _) h2⟩), p2 := fun hj => (set_other (by decide)).trans (h.p2 (dn_of hi hj (by decide))), p3 := fun hj => (by obtain ⟨v, h1, h2⟩ := (h.p3 (dn_of hi hj (by decide))); exact ⟨v, ((set_other (by decide)).trans h1), rdf_keep (Below.refl _ _) h2⟩), p4 := fun hj => (set_other (by decide)).trans (h.p4 (dn_of hi hj (by decide))), p5 := fun hj => (set_other (by decide)).trans (h.p5 (dn_of hi hj (by decide))), p6 := fun hj => (set_other (by decide)).trans (h.p6 (dn_of hi hj (by decide))), p7 := fun hj => (set_other (by decide)).trans (h.p7 (dn_of hi hj (by decide))), p8 := fun hj => (set_other (by decide)).trans (h.p8 (dn_of hi hj (by decide))), p9 := fun _ => set_same (by have := h.siz; omega) }⟩
      case henda =>
        intro d a wc hd hI hall
        obtain ⟨t, rfl, h⟩ := hI
        have hdn : ∀ j, j < 10 → dn d j := fun j hj => dn_all hd hall hj
        have hl : t.toList.length = 99 := h.siz
        obtain ⟨l⟩ := t
        simp only [] at hl
        obtain ⟨t0, l, rfl⟩ := List.exists_cons_of_length_eq_add_one (n := 98) hl; replace hl : l.length = 98 := (by simpa using hl)
        obtain ⟨t1, l, rfl⟩ := List.exists_cons_of_length_eq_add_one (n := 97) hl; replace hl : l.length = 97 := (by simpa using hl)
        obtain ⟨t2, l, rfl⟩ := List.exists_cons_of_length_eq_add_one (n := 96) hl; replace hl : l.length = 96 := (by simpa using hl)
        obtain ⟨t3, l, rfl⟩ := List.exists_cons_of_length_eq_add_one (n := 95) hl; replace hl : l.length = 95 := (by simpa using hl)
        obtain ⟨t4, l, rfl⟩ := List.exists_cons_of_length_eq_add_one (n := 94) hl; replace hl : l.length = 94 := (by simpa using hl)
        obtain ⟨t5, l, rfl⟩ := List.exists_cons_of_length_eq_add_one (n := 93) hl; replace hl : l.length = 93 := (by simpa using hl)
        obtain ⟨t6, l, rfl⟩ := List.exists_cons_of_length_eq_add_one (n := 92) hl; replace hl : l.length = 92 := (by simpa using hl)
        obtain ⟨t7, l, rfl⟩ := List.exists_cons_of_length_eq_add_one (n := 91) hl; replace hl : l.length = 91 := (by simpa using hl)
        obtain ⟨t8, l, rfl⟩ := List.exists_cons_of_length_eq_add_one (n := 90) hl; replace hl : l.length = 90 := (by simpa using hl)
        obtain ⟨t9, l, rfl⟩ := List.exists_cons_of_length_eq_add_one (n := 89) hl; replace hl : l.length = 89 := (by simpa using hl)
        obtain ⟨t10, l, rfl⟩ := List.exists_cons_of_length_eq_add_one (n := 88) hl; replace hl : l.length = 88 := (by simpa using hl)
        obtain ⟨t11, l, rfl⟩ := List.exists_cons_of_length_eq_add_one (n := 87) hl; replace hl : l.length = 87 := (by simpa using hl)
        obtain ⟨t12, l, rfl⟩ := List.exists_cons_of_length_eq_add_one (n := 86) hl; replace hl : l.length = 86 := (by simpa using hl)
        obtain ⟨t13, l, rfl⟩ := List.exists_cons_of_length_eq_add_one (n := 85) hl; replace hl : l.length = 85 := (by simpa using hl)
        obtain ⟨t14, l, rfl⟩ := List.exists_cons_of_length_eq_add_one (n := 84) hl; replace hl : l.length = 84 := (by simpa using hl)
        obtain ⟨t15, l, rfl⟩ := List.exists_cons_of_length_eq_add_one (n := 83) hl; replace hl : l.length = 83 := (by simpa using hl)
        obtain ⟨t16, l, rfl⟩ := List.exists_cons_of_length_eq_add_one (n := 82) hl; replace hl : l.length = 82 := (by simpa using hl)
        obtain ⟨t17, l, rfl⟩ := List.exists_cons_of_length_eq_add_one (n := 81) hl; replace hl : l.length = 81 := (by simpa using hl)
        obtain ⟨t18, l, rfl⟩ := List.exists_cons_of_length_eq_add_one (n := 80) hl; replace hl : l.length = 80 := (by simpa using hl)
        obtain ⟨t19, l, rfl⟩ := List.exists_cons_of_length_eq_add_one (n := 79) hl; replace hl : l.length = 79 := (by simpa using hl)
        obtain ⟨t20, l, rfl⟩ := List.exists_cons_of_length_eq_add_one (n := 78) hl; replace hl : l.length = 78 := (by simpa using hl)
        obtain ⟨t21, l, rfl⟩ := List.exists_cons_of_length_eq_add_one (n := 77) hl; replace hl : l.length = 77 := (by simpa using hl)
        obtain ⟨t22, l, rfl⟩ := List.exists_cons_of_length_eq_add_one (n := 76) hl; replace hl : l.length = 76 := (by simpa using hl)
        obtain ⟨t23, l, rfl⟩ := List.exists_cons_of_length_eq_add_one (n := 75) hl; replace hl : l.length = 75 := (by simpa using hl)
        obtain ⟨t24, l, rfl⟩ := List.exists_cons_of_length_eq_add_one (n := 74) hl; replace hl : l.length = 74 := (by simpa using hl)
        obtain ⟨t25, l, rfl⟩ := List.exists_cons_of_length_eq_add_one (n := 73) hl; replace hl : l.length = 73 := (by simpa using hl)
        obtain ⟨t26, l, rfl⟩ := List.exists_cons_of_length_eq_add_one (n := 72) hl; replace hl : l.length = 72 := (by simpa using hl)
        obtain ⟨t27, l, rfl⟩ := List.exists_cons_of_length_eq_add_one (n := 71) hl; replace hl : l.length = 71 := (by simpa using hl)
        obtain ⟨t28, l, rfl⟩ := List.exists_cons_of_length_eq_add_one (n := 70) hl; replace hl : l.length = 70 := (by simpa using hl)
        obtain ⟨t29, l, rfl⟩ := List.exists_cons_of_length_eq_add_one (n := 69) hl; replace hl : l.length = 69 := (by simpa using hl)
        obtain ⟨t30, l, rfl⟩ := List.exists_cons_of_length_eq_add_one (n := 68) hl; replace hl : l.length = 68 := (by simpa using hl)
        obtain ⟨t31, l, rfl⟩ := List.exists_cons_of_length_eq_add_one (n := 67) hl; replace hl : l.length = 67 := (by simpa using hl)
        obtain ⟨t32, l, rfl⟩ := List.exists_cons_of_length_eq_add_one (n := 66) hl; replace hl : l.length = 66 := (by simpa using hl)
        obtain ⟨t33, l, rfl⟩ := List.exists_cons_of_length_eq_add_one (n := 65) hl; replace hl : l.length = 65 := (by simpa using hl)
        obtain ⟨t34, l, rfl⟩ := List.exists_cons_of_length_eq_add_one (n := 64) hl; replace hl : l.length = 64 := (by simpa using hl)
        obtain ⟨t35, l, rfl⟩ := List.exists_cons_of_length_eq_add_one (n := 63) hl; replace hl : l.length = 63 := (by simpa using hl)
        obtain ⟨t36, l, rfl⟩ := List.exists_cons_of_length_eq_add_one (n := 62) hl; replace hl : l.length = 62 := (by simpa using hl)
        obtain ⟨t37, l, rfl⟩ := List.exists_cons_of_length_eq_add_one (n := 61) hl; replace hl : l.length = 61 := (by simpa using hl)
        obtain ⟨t38, l, rfl⟩ := List.exists_cons_of_length_eq_add_one (n := 60) hl; replace hl : l.length = 60 := (by simpa using hl)
        obtain ⟨t39, l, rfl⟩ := List.exists_cons_of_length_eq_add_one (n := 59) hl; replace hl : l.length = 59 := (by simpa using hl)
        obtain ⟨t40, l, rfl⟩ := List.exists_cons_of_length_eq_add_one (n := 58) hl; replace hl : l.length = 58 := (by simpa using hl)
        obtain ⟨t41, l, rfl⟩ := List.exists_cons_of_length_eq_add_one (n := 57) hl; replace hl : l.length = 57 := (by simpa using hl)
        obtain ⟨t42, l, rfl⟩ := List.exists_cons_of_length_eq_add_one (n := 56) hl; replace hl : l.length = 56 := (by simpa using hl)
        obtain ⟨t43, l, rfl⟩ := List.exists_cons_of_length_eq_add_one (n := 55) hl; replace hl : l.length = 55 := (by simpa using hl)
        obtain ⟨t44, l, rfl⟩ := List.exists_cons_of_length_eq_add_one (n := 54) hl; replace hl : l.length = 54 := (by simpa using hl)
        obtain ⟨t45, l, rfl⟩ := List.exists_cons_of_length_eq_add_one (n := 53) hl; replace hl : l.length = 53 := (by simpa using hl)
        obtain ⟨t46, l, rfl⟩ := List.exists_cons_of_length_eq_add_one (n := 52) hl; replace hl : l.length = 52 := (by simpa using hl)
        obtain ⟨t47, l, rfl⟩ := List.exists_cons_of_length_eq_add_one (n := 51) hl; replace hl : l.length = 51 := (by simpa using hl)
        obtain ⟨t48, l, rfl⟩ := List.exists_cons_of_length_eq_add_one (n := 50) hl; replace hl : l.length = 50 := (by simpa using hl)
        obtain ⟨t49, l, rfl⟩ := List.exists_cons_of_length_eq_add_one (n := 49) hl; replace hl : l.length = 49 := (by simpa using hl)
        obtain ⟨t50, l, rfl⟩ := List.exists_cons_of_length_eq_add_one (n := 48) hl; replace hl : l.length = 48 := (by simpa using hl)
        obtain ⟨t51, l, rfl⟩ := List.exists_cons_of_length_eq_add_one (n := 47) hl; replace hl : l.length = 47 := (by simpa using hl)
        obtain ⟨t52, l, rfl⟩ := List.exists_cons_of_length_eq_add_one (n := 46) hl; replace hl : l.length = 46 := (by simpa using hl)
        obtain ⟨t53, l, rfl⟩ := List.exists_cons_of_length_eq_add_one (n := 45) hl; replace hl : l.length = 45 := (by simpa using hl)
        obtain ⟨t54, l, rfl⟩ := List.exists_cons_of_length_eq_add_one (n := 44) hl; replace hl : l.length = 44 := (by simpa using hl)
        obtain ⟨t55, l, rfl⟩ := List.exists_cons_of_length_eq_add_one (n := 43) hl; replace hl : l.length = 43 := (by simpa using hl)
        obtain ⟨t56, l, rfl⟩ := List.exists_cons_of_length_eq_add_one (n := 42) hl; replace hl : l.length = 42 := (by simpa using hl)
        obtain ⟨t57, l, rfl⟩ := List.exists_cons_of_length_eq_add_one (n := 41) hl; replace hl : l.length = 41 := (by simpa using hl)
        obtain ⟨t58, l, rfl⟩ := List.exists_cons_of_length_eq_add_one (n := 40) hl; replace hl : l.length = 40 := (by simpa using hl)
        obtain ⟨t59, l, rfl⟩ := List.exists_cons_of_length_eq_add_one (n := 39) hl; replace hl : l.length = 39 := (by simpa using hl)
        obtain ⟨t60, l, rfl⟩ := List.exists_cons_of_length_eq_add_one (n := 38) hl; replace hl : l.length = 38 := (by simpa using hl)
        obtain ⟨t61, l, rfl⟩ := List.exists_cons_of_length_eq_add_one (n := 37) hl; replace hl : l.length = 37 := (by simpa using hl)
        obtain ⟨t62, l, rfl⟩ := List.exists_cons_of_length_eq_add_one (n := 36) hl; replace hl : l.length = 36 := (by simpa using hl)
        obtain ⟨t63, l, rfl⟩ := List.exists_cons_of_length_eq_add_one (n := 35) hl; replace hl : l.length = 35 := (by simpa using hl)
        obtain ⟨t64, l, rfl⟩ := List.exists_cons_of_length_eq_add_one (n := 34) hl; replace hl : l.length = 34 := (by simpa using hl)
        obtain ⟨t65, l, rfl⟩ := List.exists_cons_of_length_eq_add_one (n := 33) hl; replace hl : l.length = 33 := (by simpa using hl)
        obtain ⟨t66, l, rfl⟩ := List.exists_cons_of_length_eq_add_one (n := 32) hl; replace hl : l.length = 32 := (by simpa using hl)
        obtain ⟨t67, l, rfl⟩ := List.exists_cons_of_length_eq_add_one (n := 31) hl; replace hl : l.length = 31 := (by simpa using hl)
        obtain ⟨t68, l, rfl⟩ := List.exists_cons_of_length_eq_add_one (n := 30) hl; replace hl : l.length = 30 := (by simpa using hl)
        obtain ⟨t69, l, rfl⟩ := List.exists_cons_of_length_eq_add_one (n := 29) hl; replace hl : l.length = 29 := (by simpa using hl)
        obtain ⟨t70, l, rfl⟩ := List.exists_cons_of_length_eq_add_one (n := 28) hl; replace hl : l.length = 28 := (by simpa using hl)
        obtain ⟨t71, l, rfl⟩ := List.exists_cons_of_length_eq_add_one (n := 27) hl; replace hl : l.length = 27 := (by simpa using hl)
        obtain ⟨t72, l, rfl⟩ := List.exists_cons_of_length_eq_add_one (n := 26) hl; replace hl : l.length = 26 := (by simpa using hl)
        obtain ⟨t73, l, rfl⟩ := List.exists_cons_of_length_eq_add_one (n := 25) hl; replace hl : l.length = 25 := (by simpa using hl)
        obtain ⟨t74, l, rfl⟩ := List.exists_cons_of_length_eq_add_one (n := 24) hl; replace hl : l.length = 24 := (by simpa using hl)
        obtain ⟨t75, l, rfl⟩ := List.exists_cons_of_length_eq_add_one (n := 23) hl; replace hl : l.length = 23 := (by simpa using hl)
        obtain ⟨t76, l, rfl⟩ := List.exists_cons_of_length_eq_add_one (n := 22) hl; replace hl : l.length = 22 := (by simpa using hl)
        obtain ⟨t77, l, rfl⟩ := List.exists_cons_of_length_eq_add_one (n := 21) hl; replace hl : l.length = 21 := (by simpa using hl)
        obtain ⟨t78, l, rfl⟩ := List.exists_cons_of_length_eq_add_one (n := 20) hl; replace hl : l.length = 20 := (by simpa using hl)
        obtain ⟨t79, l, rfl⟩ := List.exists_cons_of_length_eq_add_one (n := 19) hl; replace hl : l.length = 19 := (by simpa using hl)
        obtain ⟨t80, l, rfl⟩ := List.exists_cons_of_length_eq_add_one (n := 18) hl; replace hl : l.length = 18 := (by simpa using hl)
        obtain ⟨t81, l, rfl⟩ := List.exists_cons_of_length_eq_add_one (n := 17) hl; replace hl : l.length = 17 := (by simpa using hl)
        obtain ⟨t82, l, rfl⟩ := List.exists_cons_of_length_eq_add_one (n := 16) hl; replace hl : l.length = 16 := (by simpa using hl)
        obtain ⟨t83, l, rfl⟩ := List.exists_cons_of_length_eq_add_one (n := 15) hl; replace hl : l.length = 15 := (by simpa using hl)
        obtain ⟨t84, l, rfl⟩ := List.exists_cons_of_length_eq_add_one (n := 14) hl; replace hl : l.length = 14 := (by simpa using hl)
        obtain ⟨t85, l, rfl⟩ := List.exists_cons_of_length_eq_add_one (n := 13) hl; replace hl : l.length = 13 := (by simpa using hl)
        obtain ⟨t86, l, rfl⟩ := List.exists_cons_of_length_eq_add_one (n := 12) hl; replace hl : l.length = 12 := (by simpa using hl)
        obtain ⟨t87, l, rfl⟩ := List.exists_cons_of_length_eq_add_one (n := 11) hl; replace hl : l.length = 11 := (by simpa using hl)
        obtain ⟨t88, l, rfl⟩ := List.exists_cons_of_length_eq_add_one (n := 10) hl; replace hl : l.length = 10 := (by simpa using hl)
        obtain ⟨t89, l, rfl⟩ := List.exists_cons_of_length_eq_add_one (n := 9) hl; replace hl : l.length = 9 := (by simpa using hl)
        obtain ⟨t90, l, rfl⟩ := List.exists_cons_of_length_eq_add_one (n := 8) hl; replace hl : l.length = 8 := (by simpa using hl)
        obtain ⟨t91, l, rfl⟩ := List.exists_cons_of_length_eq_add_one (n := 7) hl; replace hl : l.length = 7 := (by simpa using hl)
        obtain ⟨t92, l, rfl⟩ := List.exists_cons_of_length_eq_add_one (n := 6) hl; replace hl : l.length = 6 := (by simpa using hl)
        obtain ⟨t93, l, rfl⟩ := List.exists_cons_of_length_eq_add_one (n := 5) hl; replace hl : l.length = 5 := (by simpa using hl)
        obtain ⟨t94, l, rfl⟩ := List.exists_cons_of_length_eq_add_one (n := 4) hl; replace hl : l.length = 4 := (by simpa using hl)
        obtain ⟨t95, l, rfl⟩ := List.exists_cons_of_length_eq_add_one (n := 3) hl; replace hl : l.length = 3 := (by simpa using hl)
        obtain ⟨t96, l, rfl⟩ := List.exists_cons_of_length_eq_add_one (n := 2) hl; replace hl : l.length = 2 := (by simpa using hl)
        obtain ⟨t97, l, rfl⟩ := List.exists_cons_of_length_eq_add_one (n := 1) hl; replace hl : l.length = 1 := (by simpa using hl)
        obtain ⟨t98, l, rfl⟩ := List.exists_cons_of_length_eq_add_one (n := 0) hl; replace hl : l.length = 0 := (by simpa using hl)
        obtain rfl := List.eq_nil_of_length_eq_zero hl
        clear hl
        obtain rfl : t2 = .pointer (some ⟨w.heap.size, 0, none⟩) := by have e := h.k2; simpa using e
        obtain rfl : t3 = .pointer (some ⟨w.heap.size + 1, 0, none⟩) := by have e := h.k3; simpa using e
        obtain rfl : t5 = .string (Lx.stemR x f) := by have e := h.p8 (hdn 8 (by omega)); simpa using e
        obtain rfl : t6 = .int .i64 (Lx.formV x f) := by have e := h.p9 (hdn 9 (by omega)); simpa using e
        have HEw2 := Lib.hid (H1.out.trans (h.bel.mono H1.out.size))
        clear h hdn hall
        obtain ⟨g0, g1, g2, g3, g4, g5⟩ := BXA.out wc HEw2.out
        go_wp2_with fail
        refine (HrSt.out wc HEw2.out).mono ?_
        rintro e2 w2 ⟨rfl, hb2⟩
        have H2 := Lib.hid (HEw2.out.trans (hb2.mono HEw2.out.size))
        clear hb2 g0 g1 g2 g3 g4 g5
        go_wp2_with fail
        refine wp_region_inv2 (LSbI w2 x f (.agg #[.slice A0 x.entries.length c0, .slice A1 x.endings.length c1, .slice A2 x.clitics.length c2]) (.agg #[.int .i64 f.entry, .int .i64 f.ending, .slice A3 f.clitics.length c3]) w.heap.size (w.heap.size + 1)) (by kernel_rfl) (by kernel_rfl) ?h0b ?hstepb ?hendb
        case h0b =>
          have hno : ∀ j, ¬ dn (Array.replicate 10 false) j := by
            intro j; unfold dn; by_cases hj : j < 10 <;> simp [Array.getD, hj]
          exact ⟨_, rfl, { bel := (Below.refl _ _).drew, siz := rfl, k2 := rfl, k3 := rfl, k5 := rfl, k6 := rfl, k7 := rfl, k8 := rfl, p0 := fun hj => absurd hj (hno _), p1 := fun hj => absurd hj (hno _), p2 := fun hj => absurd hj (hno _), p3 := fun hj => absurd hj (hno _), p4 := fun hj => absurd hj (hno _), p5 := fun hj => absurd hj (hno _), p6 := fun hj => absurd hj (hno _), p7 := fun hj => absurd hj (hno _), p8 := fun hj => absurd hj (hno _), p9 := fun hj => absurd hj (hno _) }⟩
        case hstepb =>
          intro d a wc i hd hI hi
          obtain ⟨hlt, hnd, hpre⟩ := mem_ready hi
          have hd' : d.size = 10 := hd
          have hin : i < 10 := hlt
          clear hi hd hlt
          obtain ⟨t, rfl, h⟩ := hI
          have hcs : i = 0 ∨ i = 1 ∨ i = 2 ∨ i = 3 ∨ i = 4 ∨ i = 5 ∨ i = 6 ∨ i = 7 ∨ i = 8 ∨ i = 9 := by omega
          rcases hcs with rfl | rfl | rfl | rfl | rfl | rfl | rfl | rfl | rfl | rfl
          · have hi : 0 < d.size := by omega
            obtain ⟨m0, m1, m2, m3, m4, m5⟩ := BXA.out wc (H2.out.trans (h.bel.mono H2.out.size))
            have q2 := h.k2
            refine wpOp_plain rfl rfl ?_
            go_simp
            exact ⟨_, rfl, { bel := h.bel, siz := (by simpa using h.siz), k2 := (set_other (by decide)).trans h.k2, k3 := (set_other (by decide)).trans h.k3, k5 := (set_other (by decide)).trans h.k5, k6 := (set_other (by decide)).trans h.k6, k7 := (set_other (by decide)).trans h.k7, k8 := (set_other (by decide)).trans h.k8, p0 := fun _ => set_same (by have := h.siz; omega), p1 := fun hj => (by obtain ⟨v, h1, h2⟩ := (h.p1 (dn_of hi hj (by decide))); exact ⟨v, ((set_other (by decide)).trans h1), rdl_keep (Below.refl _ _) h2⟩), p2 := fun hj => (set_other (by decide)).trans (h.p2 (dn_of hi hj (by decide))), p3 := fun hj => (by obtain ⟨v, h1, h2⟩ := (h.p3 (dn_of hi hj (by decide))); exact ⟨v, ((set_other (by decide)).trans h1), rdf_keep (Below.refl _ _) h2⟩), p4 := fun hj => (set_other (by decide)).trans (h.p4 (dn_of hi hj (by decide))), p5 := fun hj => (set_other (by decide)).trans (h.p5 (dn_of hi hj (by decide))), p6 := fun hj => (set_other (by decide)).trans (h.p6 (dn_of hi hj (by decide))), p7 := fun hj => (set_other (by decide)).trans (h.p7 (dn_of hi hj (by decide))), p8 := fun hj => (set_other (by decide)).trans (h.p8 (dn_of hi hj (by decide))), p9 := fun hj => (set_other (by decide)).trans (h.p9 (dn_of hi hj (by decide))) }⟩
          · have hi : 1 < d.size := by omega
            have e0 := h.p0 (hpre _ rfl ⟨0, .data⟩ (by simp) rfl)
            refine wpOp_plain rfl rfl ?_
            go_simp
            refine (HCpy.out wc (H2.out.trans (h.bel.mono H2.out.size))).mono ?_
            rintro e1 w1 ⟨v1, rfl, hr1, hb⟩
            exact ⟨_, rfl, { bel := h.bel.trans (hb.mono h.bel.size), siz := (by simpa using h.siz), k2 := (set_other (by decide)).trans h.k2, k3 := (set_other (by decide)).trans h.k3, k5 := (set_other (by decide)).trans h.k5, k6 := (set_other (by decide)).trans h.k6, k7 := (set_other (by decide)).trans h.k7, k8 := (set_other (by decide)).trans h.k8, p0 := fun hj => (set_other (by decide)).trans (h.p0 (dn_of hi hj (by decide))), p1 := fun _ => ⟨v1, set_same (by have := h.siz; omega), hr1⟩, p2 := fun hj => (set_other (by decide)).trans (h.p2 (dn_of hi hj (by decide))), p3 := fun hj => (by obtain ⟨v, h1, h2⟩ := (h.p3 (dn_of hi hj (by decide))); exact ⟨v, ((set_other (by decide)).trans h1), rdf_keep hb h2⟩), p4 := fun hj => (set_other (by decide)).trans (h.p4 (dn_of hi hj (by decide))), p5 := fun hj => (set_other (by decide)).trans (h.p5 (dn_of hi hj (by decide))), p6 := fun hj => (set_other (by decide)).trans (h.p6 (dn_of hi hj (by decide))), p7 := fun hj => (set_other (by decide)).trans (h.p7 (dn_of hi hj (by decide))), p8 := fun hj => (set_other (by decide)).trans (h.p8 (dn_of hi hj (by decide))), p9 := fun hj => (set_other (by decide)).trans (h.p9 (dn_of hi hj (by decide))) }⟩
          · have hi : 2 < d.size := by omega
            obtain ⟨m0, m1, m2, m3, m4, m5⟩ := BXA.out wc (H2.out.trans (h.bel.mono H2.out.size))
            have q3 := h.k3
            refine wpOp_plain rfl rfl ?_
            go_simp
            exact ⟨_, rfl, { bel := h.bel, siz := (by simpa using h.siz), k2 := (set_other (by decide)).trans h.k2, k3 := (set_other (by decide)).trans h.k3, k5 := (set_other (by decide)).trans h.k5, k6 := (set_other (by decide)).trans h.k6, k7 := (set_other (by decide)).trans h.k7, k8 := (set_other (by decide)).trans h.k8, p0 := fun hj => (set_other (by decide)).trans (h.p0 (dn_of hi hj (by decide))), p1 := fun hj => (by obtain ⟨v, h1, h2⟩ := (h.p1 (dn_of hi hj (by decide))); exact ⟨v, ((set_other (by decide)).trans h1), rdl_keep (Below.refl _ _) h2⟩), p2 := fun _ => set_same (by have := h.siz; omega), p3 := fun hj => (by obtain ⟨v, h1, h2⟩ := (h.p3 (dn_of hi hj (by decide))); exact ⟨v, ((set_other (by decide)).trans h1), rdf_keep (Below.refl _ _) h2⟩), p4 := fun hj => (set_other (by decide)).trans (h.p4 (dn_of hi hj (by decide))), p5 := fun hj => (set_other (by decide)).trans (h.p5 (dn_of hi hj (by decide))), p6 := fun hj => (set_other (by decide)).trans (h.p6 (dn_of hi hj (by decide))), p7 := fun hj => (set_other (by decide)).trans (h.p7 (dn_of hi hj (by decide))), p8 := fun hj => (set_other (by decide)).trans (h.p8 (dn_of hi hj (by decide))), p9 := fun hj => (set_other (by decide)).trans (h.p9 (dn_of hi hj (by decide))) }⟩
          · have hi : 3 < d.size := by omega
            have e2 := h.p2 (hpre _ rfl ⟨2, .data⟩ (by simp) rfl)
            refine wpOp_plain rfl rfl ?_
            go_simp
            refine (HCop.out wc (H2.out.trans (h.bel.mono H2.out.size))).mono ?_
            rintro e1 w1 ⟨v1, rfl, hr1, hb⟩
            exact ⟨_, rfl, { bel := h.bel.trans (hb.mono h.bel.size), siz := (by simpa using h.siz), k2 := (set_other (by decide)).trans h.k2, k3 := (set_other (by decide)).trans h.k3, k5 := (set_other (by decide)).trans h.k5, k6 := (set_other (by decide)).trans h.k6, k7 := (set_other (by decide)).trans h.k7, k8 := (set_other (by decide)).trans h.k8, p0 := fun hj => (set_other (by decide)).trans (h.p0 (dn_of hi hj (by decide))), p1 := fun hj => (by obtain ⟨v, h1, h2⟩ := (h.p1 (dn_of hi hj (by decide))); exact ⟨v, ((set_other (by decide)).trans h1), rdl_keep hb h2⟩), p2 := fun hj => (set_other (by decide)).trans (h.p2 (dn_of hi hj (by decide))), p3 := fun _ => ⟨v1, set_same (by have := h.siz; omega), hr1⟩, p4 := fun hj => (set_other (by decide)).trans (h.p4 (dn_of hi hj (by decide))), p5 := fun hj => (set_other (by decide)).trans (h.p5 (dn_of hi hj (by decide))), p6 := fun hj => (set_other (by decide)).trans (h.p6 (dn_of hi hj (by decide))), p7 := fun hj => (set_other (by decide)).trans (h.p7 (dn_of hi hj (by decide))), p8 := fun hj => (set_other (by decide)).trans (h.p8 (dn_of hi hj (by decide))), p9 := fun hj => (set_other (by decide)).trans (h.p9 (dn_of hi hj (by decide))) }⟩
          · have hi : 4 < d.size := by omega
            obtain ⟨v1, e1, hr1⟩ := h.p1 (hpre _ rfl ⟨1, .data⟩ (by simp) rfl)
            obtain ⟨v3, e3, hf3⟩ := h.p3 (hpre _ rfl ⟨3, .data⟩ (by simp) rfl)
            refine wpOp_plain rfl rfl ?_
            go_simp
            refine (Sounds_any v1 v3 x f wc hr1 hf3).mono ?_
            rintro e1 w1 ⟨rfl, hb⟩
            exact ⟨_, rfl, { bel := h.bel.trans (hb.mono h.bel.size), siz := (by simpa using h.siz), k2 := (set_other (by decide)).trans h.k2, k3 := (set_other (by decide)).trans h.k3, k5 := (set_other (by decide)).trans h.k5, k6 := (set_other (by decide)).trans h.k6, k7 := (set_other (by decide)).trans h.k7, k8 := (set_other (by decide)).trans h.k8, p0 := fun hj => (set_other (by decide)).trans (h.p0 (dn_of hi hj (by decide))), p1 := fun hj => (by obtain ⟨v, h1, h2⟩ := (h.p1 (dn_of hi hj (by decide))); exact ⟨v, ((set_other (by decide)).trans h1), rdl_keep hb h2⟩), p2 := fun hj => (set_other (by decide)).trans (h.p2 (dn_of hi hj (by decide))), p3 := fun hj => (by obtain ⟨v, h1, h2⟩ := (h.p3 (dn_of hi hj (by decide))); exact ⟨v, ((set_other (by decide)).trans h1), rdf_keep hb h2⟩), p4 := fun _ => set_same (by have := h.siz; omega), p5 := fun hj => (set_other (by decide)).trans (h.p5 (dn_of hi hj (by decide))), p6 := fun hj => (set_other (by decide)).trans (h.p6 (dn_of hi hj (by decide))), p7 := fun hj => (set_other (by decide)).trans (h.p7 (dn_of hi hj (by decide))), p8 := fun hj => (set_other (by decide)).trans (h.p8 (dn_of hi hj (by decide))), p9 := fun hj => (set_other (by decide)).trans (h.p9 (dn_of hi hj (by decide))) }⟩
          · have hi : 5 < d.size := by omega
            have e4 := h.p4 (hpre _ rfl ⟨4, .data⟩ (by simp) rfl)
            refine wpOp_plain rfl rfl ?_
            go_simp
            exact ⟨_, rfl, { bel := h.bel, siz := (by simpa using h.siz), k2 := (set_other (by decide)).trans h.k2, k3 := (set_other (by decide)).trans h.k3, k5 := (set_other (by decide)).trans h.k5, k6 := (set_other (by decide)).trans h.k6, k7 := (set_other (by decide)).trans h.k7, k8 := (set_other (by decide)).trans h.k8, p0 := fun hj => (set_other (by decide)).trans (h.p0 (dn_of hi hj (by decide))), p1 := fun hj => (by obtain ⟨v, h1, h2⟩ := (h.p1 (dn_of hi hj (by decide))); exact ⟨v, ((set_other (by decide)).trans h1), rdl_keep (Below.refl _ _) h2⟩), p2 := fun hj => (set_other (by decide)).trans (h.p2 (dn_of hi hj (by decide))), p3 := fun hj => (by obtain ⟨v, h1, h2⟩ := (h.p3 (dn_of hi hj (by decide))); exact ⟨v, ((set_other (by decide)).trans h1), rdf_keep (Below.refl _ _) h2⟩), p4 := fun hj => (set_other (by decide)).trans (h.p4 (dn_of hi hj (by decide))), p5 := fun _ => set_same (by have := h.siz; omega), p6 := fun hj => (set_other (by decide)).trans (h.p6 (dn_of hi hj (by decide))), p7 := fun hj => (set_other (by decide)).trans (h.p7 (dn_of hi hj (by decide))), p8 := fun hj => (set_other (by decide)).trans (h.p8 (dn_of hi hj (by decide))), p9 := fun hj => (set_other (by decide)).trans (h.p9 (dn_of hi hj (by decide))) }⟩
          · have hi : 6 < d.size := by omega
            have e5 := h.p5 (hpre _ rfl ⟨5, .data⟩ (by simp) rfl)
            refine wpOp_plain rfl rfl ?_
            go_simp
            exact ⟨_, rfl, { bel := h.bel, siz := (by simpa using h.siz), k2 := (set_other (by decide)).trans h.k2, k3 := (set_other (by decide)).trans h.k3, k5 := (set_other (by decide)).trans h.k5, k6 := (set_other (by decide)).trans h.k6, k7 := (set_other (by decide)).trans h.k7, k8 := (set_other (by decide)).trans h.k8, p0 := fun hj => (set_other (by decide)).trans (h.p0 (dn_of hi hj (by decide))), p1 := fun hj => (by obtain ⟨v, h1, h2⟩ := (h.p1 (dn_of hi hj (by decide))); exact ⟨v, ((set_other (by decide)).trans h1), rdl_keep (Below.refl _ _) h2⟩), p2 := fun hj => (set_other (by decide)).trans (h.p2 (dn_of hi hj (by decide))), p3 := fun hj => (by obtain ⟨v, h1, h2⟩ := (h.p3 (dn_of hi hj (by decide))); exact ⟨v, ((set_other (by decide)).trans h1), rdf_keep (Below.refl _ _) h2⟩), p4 := fun hj => (set_other (by decide)).trans (h.p4 (dn_of hi hj (by decide))), p5 := fun hj => (set_other (by decide)).trans (h.p5 (dn_of hi hj (by decide))), p6 := fun _ => set_same (by have := h.siz; omega), p7 := fun hj => (set_other (by decide)).trans (h.p7 (dn_of hi hj (by decide))), p8 := fun hj => (set_other (by decide)).trans (h.p8 (dn_of hi hj (by decide))), p9 := fun hj => (set_other (by decide)).trans (h.p9 (dn_of hi hj (by decide))) }⟩
          · have hi : 7 < d.size := by omega
            have e5 := h.p5 (hpre _ rfl ⟨5, .data⟩ (by simp) rfl)
            refine wpOp_plain rfl rfl ?_
            go_simp
            exact ⟨_, rfl, { bel := h.bel, siz := (by simpa using h.siz), k2 := (set_other (by decide)).trans h.k2, k3 := (set_other (by decide)).trans h.k3, k5 := (set_other (by decide)).trans h.k5, k6 := (set_other (by decide)).trans h.k6, k7 := (set_other (by decide)).trans h.k7, k8 := (set_other (by decide)).trans h.k8, p0 := fun hj => (set_other (by decide)).trans (h.p0 (dn_of hi hj (by decide))), p1 := fun hj => (by obtain ⟨v, h1, h2⟩ := (h.p1 (dn_of hi hj (by decide))); exact ⟨v, ((set_other (by decide)).trans h1), rdl_keep (Below.refl _ _) h2⟩), p2 := fun hj => (set_other (by decide)).trans (h.p2 (dn_of hi hj (by decide))), p3 := fun hj => (by obtain ⟨v, h1, h2⟩ := (h.p3 (dn_of hi hj (by decide))); exact ⟨v, ((set_other (by decide)).trans h1), rdf_keep (Below.refl _ _) h2⟩), p4 := fun hj => (set_other (by decide)).trans (h.p4 (dn_of hi hj (by decide))), p5 := fun hj => (set_other (by decide)).trans (h.p5 (dn_of hi hj (by decide))), p6 := fun hj => (set_other (by decide)).trans (h.p6 (dn_of hi hj (by decide))), p7 := fun _ => set_same (by have := h.siz; omega), p8 := fun hj => (set_other (by decide)).trans (h.p8 (dn_of hi hj (by decide))), p9 := fun hj => (set_other (by decide)).trans (h.p9 (dn_of hi hj (by decide))) }⟩
          · have hi : 8 < d.size := by omega
            have e6 := h.p6 (hpre _ rfl ⟨6, .data⟩ (by simp) rfl)
            refine wpOp_plain rfl rfl ?_
            go_simp
            exact ⟨_, rfl, { bel := h.bel, siz := (by simpa using h.siz), k2 := (set_other (by decide)).trans h.k2, k3 := (set_other (by decide)).trans h.k3, k5 := (set_other (by decide)).trans h.k5, k6 := (set_other (by decide)).trans h.k6, k7 := (set_other (by decide)).trans h.k7, k8 := (set_other (by decide)).trans h.k8, p0 := fun hj => (set_other (by decide)).trans (h.p0 (dn_of hi hj (by decide))), p1 := fun hj => (by obtain ⟨v, h1, h2⟩ := (h.p1 (dn_of hi hj (by decide))); exact ⟨v, ((set_other (by decide)).trans h1), rdl_keep (Below.refl _ _) h2⟩), p2 := fun hj => (set_other (by decide)).trans (h.p2 (dn_of hi hj (by decide))), p3 := fun hj => (by obtain ⟨v, h1, h2⟩ := (h.p3 (dn_of hi hj (by decide))); exact ⟨v, ((set_other (by decide)).trans h1), rdf_keep (Below.refl _ _) h2⟩), p4 := fun hj => (set_other (by decide)).trans (h.p4 (dn_of hi hj (by decide))), p5 := fun hj => (set_other (by decide)).trans (h.p5 (dn_of hi hj (by decide))), p6 := fun hj => (set_other (by decide)).trans (h.p6 (dn_of hi hj (by decide))), p7 := fun hj => (set_other (by decide)).trans (h.p7 (dn_of hi hj (by decide))), p8 := fun _ => set_same (by have := h.siz; omega), p9 := fun hj => (set_other (by decide)).trans (h.p9 (dn_of hi hj (by decide))) }⟩
          · have hi : 9 < d.size := by omega
            have e7 := h.p7 (hpre _ rfl ⟨7, .data⟩ (by simp) rfl)
            refine wpOp_plain rfl rfl ?_
            go_simp
            exact ⟨_, rfl, { bel := h.bel, siz := (by simpa using h.siz), k2 := (set_other (by decide)).trans h.k2, k3 := (set_other (by decide)).trans h.k3, k5 := (set_other (by decide)).trans h.k5, k6 := (set_other (by decide)).trans h.k6, k7 := (set_other (by decide)).trans h.k7, k8 := (set_other (by decide)).trans h.k8, p0 := fun hj => (set_other (by decide)).trans (h.p0 (dn_of hi hj (by decide))), p1 := fun hj => (by obtain ⟨v, h1, h2⟩ := (h.p1 (dn_of hi hj (by decide))); exact ⟨v, ((set_other (by decide)).trans h1), rdl_keep (Below.refl _ _) h2⟩), p2 := fun hj => (set_other (by decide)).trans (h.p2 (dn_of hi hj (by decide))), p3 := fun hj => (by obtain ⟨v, h1, h2⟩ := (h.p3 (dn_of hi hj (by decide))); exact ⟨v, ((set_other (by decide)).trans h1), rdf_keep (Below.refl _ _) h2⟩), p4 := fun hj => (set_other (by decide)).trans (h.p4 (dn_of hi hj (by decide))), p5 := fun hj => (set_other (by decide)).trans (h.p5 (dn_of hi hj (by decide))), p6 := fun hj => (set_other (by decide)).trans (h.p6 (dn_of hi hj (by decide))), p7 := fun hj => (set_other (by decide)).trans (h.p7 (dn_of hi hj (by decide))), p8 := fun hj => (set_other (by decide)).trans (h.p8 (dn_of hi hj (by decide))), p9 := fun _ => set_same (by have := h.siz; omega) }⟩
        case hendb =>
          intro d a wc hd hI hall
          obtain ⟨t, rfl, h⟩ := hI
          have hdn : ∀ j, j < 10 → dn d j := fun j hj => dn_all hd hall hj
          have hl : t.toList.length = 99 := h.siz
          obtain ⟨l⟩ := t
          simp only [] at hl
          obtain ⟨t0, l, rfl⟩ := List.exists_cons_of_length_eq_add_one (n := 98) hl; replace hl : l.length = 98 := (by simpa using hl)
          obtain ⟨t1, l, rfl⟩ := List.exists_cons_of_length_eq_add_one (n := 97) hl; replace hl : l.length = 97 := (by simpa using hl)
          obtain ⟨t2, l, rfl⟩ := List.exists_cons_of_length_eq_add_one (n := 96) hl; replace hl : l.length = 96 := (by simpa using hl)
          obtain ⟨t3, l, rfl⟩ := List.exists_cons_of_length_eq_add_one (n := 95) hl; replace hl : l.length = 95 := (by simpa using hl)
          obtain ⟨t4, l, rfl⟩ := List.exists_cons_of_length_eq_add_one (n := 94) hl; replace hl : l.length = 94 := (by simpa using hl)
          obtain ⟨t5, l, rfl⟩ := List.exists_cons_of_length_eq_add_one (n := 93) hl; replace hl : l.length = 93 := (by simpa using hl)
          obtain ⟨t6, l, rfl⟩ := List.exists_cons_of_length_eq_add_one (n := 92) hl; replace hl : l.length = 92 := (by simpa using hl)
          obtain ⟨t7, l, rfl⟩ := List.exists_cons_of_length_eq_add_one (n := 91) hl; replace hl : l.length = 91 := (by simpa using hl)
          obtain ⟨t8, l, rfl⟩ := List.exists_cons_of_length_eq_add_one (n := 90) hl; replace hl : l.length = 90 := (by simpa using hl)
          obtain ⟨t9, l, rfl⟩ := List.exists_cons_of_length_eq_add_one (n := 89) hl; replace hl : l.length = 89 := (by simpa using hl)
          obtain ⟨t10, l, rfl⟩ := List.exists_cons_of_length_eq_add_one (n := 88) hl; replace hl : l.length = 88 := (by simpa using hl)
          obtain ⟨t11, l, rfl⟩ := List.exists_cons_of_length_eq_add_one (n := 87) hl; replace hl : l.length = 87 := (by simpa using hl)
          obtain ⟨t12, l, rfl⟩ := List.exists_cons_of_length_eq_add_one (n := 86) hl; replace hl : l.length = 86 := (by simpa using hl)
          obtain ⟨t13, l, rfl⟩ := List.exists_cons_of_length_eq_add_one (n := 85) hl; replace hl : l.length = 85 := (by simpa using hl)
          obtain ⟨t14, l, rfl⟩ := List.exists_cons_of_length_eq_add_one (n := 84) hl; replace hl : l.length = 84 := (by simpa using hl)
          obtain ⟨t15, l, rfl⟩ := List.exists_cons_of_length_eq_add_one (n := 83) hl; replace hl : l.length = 83 := (by simpa using hl)
          obtain ⟨t16, l, rfl⟩ := List.exists_cons_of_length_eq_add_one (n := 82) hl; replace hl : l.length = 82 := (by simpa using hl)
          obtain ⟨t17, l, rfl⟩ := List.exists_cons_of_length_eq_add_one (n := 81) hl; replace hl : l.length = 81 := (by simpa using hl)
          obtain ⟨t18, l, rfl⟩ := List.exists_cons_of_length_eq_add_one (n := 80) hl; replace hl : l.length = 80 := (by simpa using hl)
          obtain ⟨t19, l, rfl⟩ := List.exists_cons_of_length_eq_add_one (n := 79) hl; replace hl : l.length = 79 := (by simpa using hl)
          obtain ⟨t20, l, rfl⟩ := List.exists_cons_of_length_eq_add_one (n := 78) hl; replace hl : l.length = 78 := (by simpa using hl)
          obtain ⟨t21, l, rfl⟩ := List.exists_cons_of_length_eq_add_one (n := 77) hl; replace hl : l.length = 77 := (by simpa using hl)
          obtain ⟨t22, l, rfl⟩ := List.exists_cons_of_length_eq_add_one (n := 76) hl; replace hl : l.length = 76 := (by simpa using hl)
          obtain ⟨t23, l, rfl⟩ := List.exists_cons_of_length_eq_add_one (n := 75) hl; replace hl : l.length = 75 := (by simpa using hl)
          obtain ⟨t24, l, rfl⟩ := List.exists_cons_of_length_eq_add_one (n := 74) hl; replace hl : l.length = 74 := (by simpa using hl)
          obtain ⟨t25, l, rfl⟩ := List.exists_cons_of_length_eq_add_one (n := 73) hl; replace hl : l.length = 73 := (by simpa using hl)
          obtain ⟨t26, l, rfl⟩ := List.exists_cons_of_length_eq_add_one (n := 72) hl; replace hl : l.length = 72 := (by simpa using hl)
          obtain ⟨t27, l, rfl⟩ := List.exists_cons_of_length_eq_add_one (n := 71) hl; replace hl : l.length = 71 := (by simpa using hl)
          obtain ⟨t28, l, rfl⟩ := List.exists_cons_of_length_eq_add_one (n := 70) hl; replace hl : l.length = 70 := (by simpa using hl)
          obtain ⟨t29, l, rfl⟩ := List.exists_cons_of_length_eq_add_one (n := 69) hl; replace hl : l.length = 69 := (by simpa using hl)
          obtain ⟨t30, l, rfl⟩ := List.exists_cons_of_length_eq_add_one (n := 68) hl; replace hl : l.length = 68 := (by simpa using hl)
          obtain ⟨t31, l, rfl⟩ := List.exists_cons_of_length_eq_add_one (n := 67) hl; replace hl : l.length = 67 := (by simpa using hl)
          obtain ⟨t32, l, rfl⟩ := List.exists_cons_of_length_eq_add_one (n := 66) hl; replace hl : l.length = 66 := (by simpa using hl)
          obtain ⟨t33, l, rfl⟩ := List.exists_cons_of_length_eq_add_one (n := 65) hl; replace hl : l.length = 65 := (by simpa using hl)
          obtain ⟨t34, l, rfl⟩ := List.exists_cons_of_length_eq_add_one (n := 64) hl; replace hl : l.length = 64 := (by simpa using hl)
          obtain ⟨t35, l, rfl⟩ := List.exists_cons_of_length_eq_add_one (n := 63) hl; replace hl : l.length = 63 := (by simpa using hl)
          obtain ⟨t36, l, rfl⟩ := List.exists_cons_of_length_eq_add_one (n := 62) hl; replace hl : l.length = 62 := (by simpa using hl)
          obtain ⟨t37, l, rfl⟩ := List.exists_cons_of_length_eq_add_one (n := 61) hl; replace hl : l.length = 61 := (by simpa using hl)
          obtain ⟨t38, l, rfl⟩ := List.exists_cons_of_length_eq_add_one (n := 60) hl; replace hl : l.length = 60 := (by simpa using hl)
          obtain ⟨t39, l, rfl⟩ := List.exists_cons_of_length_eq_add_one (n := 59) hl; replace hl : l.length = 59 := (by simpa using hl)
          obtain ⟨t40, l, rfl⟩ := List.exists_cons_of_length_eq_add_one (n := 58) hl; replace hl : l.length = 58 := (by simpa using hl)
          obtain ⟨t41, l, rfl⟩ := List.exists_cons_of_length_eq_add_one (n := 57) hl; replace hl : l.length = 57 := (by simpa using hl)
          obtain ⟨t42, l, rfl⟩ := List.exists_cons_of_length_eq_add_one (n := 56) hl; replace hl : l.length = 56 := (by simpa using hl)
          obtain ⟨t43, l, rfl⟩ := List.exists_cons_of_length_eq_add_one (n := 55) hl; replace hl : l.length = 55 := (by simpa using hl)
          obtain ⟨t44, l, rfl⟩ := List.exists_cons_of_length_eq_add_one (n := 54) hl; replace hl : l.length = 54 := (by simpa using hl)
          obtain ⟨t45, l, rfl⟩ := List.exists_cons_of_length_eq_add_one (n := 53) hl; replace hl : l.length = 53 := (by simpa using hl)
          obtain ⟨t46, l, rfl⟩ := List.exists_cons_of_length_eq_add_one (n := 52) hl; replace hl : l.length = 52 := (by simpa using hl)
          obtain ⟨t47, l, rfl⟩ := List.exists_cons_of_length_eq_add_one (n := 51) hl; replace hl : l.length = 51 := (by simpa using hl)
          obtain ⟨t48, l, rfl⟩ := List.exists_cons_of_length_eq_add_one (n := 50) hl; replace hl : l.length = 50 := (by simpa using hl)
          obtain ⟨t49, l, rfl⟩ := List.exists_cons_of_length_eq_add_one (n := 49) hl; replace hl : l.length = 49 := (by simpa using hl)
          obtain ⟨t50, l, rfl⟩ := List.exists_cons_of_length_eq_add_one (n := 48) hl; replace hl : l.length = 48 := (by simpa using hl)
          obtain ⟨t51, l, rfl⟩ := List.exists_cons_of_length_eq_add_one (n := 47) hl; replace hl : l.length = 47 := (by simpa using hl)
          obtain ⟨t52, l, rfl⟩ := List.exists_cons_of_length_eq_add_one (n := 46) hl; replace hl : l.length = 46 := (by simpa using hl)
          obtain ⟨t53, l, rfl⟩ := List.exists_cons_of_length_eq_add_one (n := 45) hl; replace hl : l.length = 45 := (by simpa using hl)
          obtain ⟨t54, l, rfl⟩ := List.exists_cons_of_length_eq_add_one (n := 44) hl; replace hl : l.length = 44 := (by simpa using hl)
          obtain ⟨t55, l, rfl⟩ := List.exists_cons_of_length_eq_add_one (n := 43) hl; replace hl : l.length = 43 := (by simpa using hl)
          obtain ⟨t56, l, rfl⟩ := List.exists_cons_of_length_eq_add_one (n := 42) hl; replace hl : l.length = 42 := (by simpa using hl)
          obtain ⟨t57, l, rfl⟩ := List.exists_cons_of_length_eq_add_one (n := 41) hl; replace hl : l.length = 41 := (by simpa using hl)
          obtain ⟨t58, l, rfl⟩ := List.exists_cons_of_length_eq_add_one (n := 40) hl; replace hl : l.length = 40 := (by simpa using hl)
          obtain ⟨t59, l, rfl⟩ := List.exists_cons_of_length_eq_add_one (n := 39) hl; replace hl : l.length = 39 := (by simpa using hl)
          obtain ⟨t60, l, rfl⟩ := List.exists_cons_of_length_eq_add_one (n := 38) hl; replace hl : l.length = 38 := (by simpa using hl)
          obtain ⟨t61, l, rfl⟩ := List.exists_cons_of_length_eq_add_one (n := 37) hl; replace hl : l.length = 37 := (by simpa using hl)
          obtain ⟨t62, l, rfl⟩ := List.exists_cons_of_length_eq_add_one (n := 36) hl; replace hl : l.length = 36 := (by simpa using hl)
          obtain ⟨t63, l, rfl⟩ := List.exists_cons_of_length_eq_add_one (n := 35) hl; replace hl : l.length = 35 := (by simpa using hl)
          obtain ⟨t64, l, rfl⟩ := List.exists_cons_of_length_eq_add_one (n := 34) hl; replace hl : l.length = 34 := (by simpa using hl)
          obtain ⟨t65, l, rfl⟩ := List.exists_cons_of_length_eq_add_one (n := 33) hl; replace hl : l.length = 33 := (by simpa using hl)
          obtain ⟨t66, l, rfl⟩ := List.exists_cons_of_length_eq_add_one (n := 32) hl; replace hl : l.length = 32 := (by simpa using hl)
          obtain ⟨t67, l, rfl⟩ := List.exists_cons_of_length_eq_add_one (n := 31) hl; replace hl : l.length = 31 := (by simpa using hl)
          obtain ⟨t68, l, rfl⟩ := List.exists_cons_of_length_eq_add_one (n := 30) hl; replace hl : l.length = 30 := (by simpa using hl)
          obtain ⟨t69, l, rfl⟩ := List.exists_cons_of_length_eq_add_one (n := 29) hl; replace hl : l.length = 29 := (by simpa using hl)
          obtain ⟨t70, l, rfl⟩ := List.exists_cons_of_length_eq_add_one (n := 28) hl; replace hl : l.length = 28 := (by simpa using hl)
          obtain ⟨t71, l, rfl⟩ := List.exists_cons_of_length_eq_add_one (n := 27) hl; replace hl : l.length = 27 := (by simpa using hl)
          obtain ⟨t72, l, rfl⟩ := List.exists_cons_of_length_eq_add_one (n := 26) hl; replace hl : l.length = 26 := (by simpa using hl)
          obtain ⟨t73, l, rfl⟩ := List.exists_cons_of_length_eq_add_one (n := 25) hl; replace hl : l.length = 25 := (by simpa using hl)
          obtain ⟨t74, l, rfl⟩ := List.exists_cons_of_length_eq_add_one (n := 24) hl; replace hl : l.length = 24 := (by simpa using hl)
          obtain ⟨t75, l, rfl⟩ := List.exists_cons_of_length_eq_add_one (n := 23) hl; replace hl : l.length = 23 := (by simpa using hl)
          obtain ⟨t76, l, rfl⟩ := List.exists_cons_of_length_eq_add_one (n := 22) hl; replace hl : l.length = 22 := (by simpa using hl)
          obtain ⟨t77, l, rfl⟩ := List.exists_cons_of_length_eq_add_one (n := 21) hl; replace hl : l.length = 21 := (by simpa using hl)
          obtain ⟨t78, l, rfl⟩ := List.exists_cons_of_length_eq_add_one (n := 20) hl; replace hl : l.length = 20 := (by simpa using hl)
          obtain ⟨t79, l, rfl⟩ := List.exists_cons_of_length_eq_add_one (n := 19) hl; replace hl : l.length = 19 := (by simpa using hl)
          obtain ⟨t80, l, rfl⟩ := List.exists_cons_of_length_eq_add_one (n := 18) hl; replace hl : l.length = 18 := (by simpa using hl)
          obtain ⟨t81, l, rfl⟩ := List.exists_cons_of_length_eq_add_one (n := 17) hl; replace hl : l.length = 17 := (by simpa using hl)
          obtain ⟨t82, l, rfl⟩ := List.exists_cons_of_length_eq_add_one (n := 16) hl; replace hl : l.length = 16 := (by simpa using hl)
          obtain ⟨t83, l, rfl⟩ := List.exists_cons_of_length_eq_add_one (n := 15) hl; replace hl : l.length = 15 := (by simpa using hl)
          obtain ⟨t84, l, rfl⟩ := List.exists_cons_of_length_eq_add_one (n := 14) hl; replace hl : l.length = 14 := (by simpa using hl)
          obtain ⟨t85, l, rfl⟩ := List.exists_cons_of_length_eq_add_one (n := 13) hl; replace hl : l.length = 13 := (by simpa using hl)
          obtain ⟨t86, l, rfl⟩ := List.exists_cons_of_length_eq_add_one (n := 12) hl; replace hl : l.length = 12 := (by simpa using hl)
          obtain ⟨t87, l, rfl⟩ := List.exists_cons_of_length_eq_add_one (n := 11) hl; replace hl : l.length = 11 := (by simpa using hl)
          obtain ⟨t88, l, rfl⟩ := List.exists_cons_of_length_eq_add_one (n := 10) hl; replace hl : l.length = 10 := (by simpa using hl)
          obtain ⟨t89, l, rfl⟩ := List.exists_cons_of_length_eq_add_one (n := 9) hl; replace hl : l.length = 9 := (by simpa using hl)
          obtain ⟨t90, l, rfl⟩ := List.exists_cons_of_length_eq_add_one (n := 8) hl; replace hl : l.length = 8 := (by simpa using hl)
          obtain ⟨t91, l, rfl⟩ := List.exists_cons_of_length_eq_add_one (n := 7) hl; replace hl : l.length = 7 := (by simpa using hl)
          obtain ⟨t92, l, rfl⟩ := List.exists_cons_of_length_eq_add_one (n := 6) hl; replace hl : l.length = 6 := (by simpa using hl)
          obtain ⟨t93, l, rfl⟩ := List.exists_cons_of_length_eq_add_one (n := 5) hl; replace hl : l.length = 5 := (by simpa using hl)
          obtain ⟨t94, l, rfl⟩ := List.exists_cons_of_length_eq_add_one (n := 4) hl; replace hl : l.length = 4 := (by simpa using hl)
          obtain ⟨t95, l, rfl⟩ := List.exists_cons_of_length_eq_add_one (n := 3) hl; replace hl : l.length = 3 := (by simpa using hl)
          obtain ⟨t96, l, rfl⟩ := List.exists_cons_of_length_eq_add_one (n := 2) hl; replace hl : l.length = 2 := (by simpa using hl)
          obtain ⟨t97, l, rfl⟩ := List.exists_cons_of_length_eq_add_one (n := 1) hl; replace hl : l.length = 1 := (by simpa using hl)
          obtain ⟨t98, l, rfl⟩ := List.exists_cons_of_length_eq_add_one (n := 0) hl; replace hl : l.length = 0 := (by simpa using hl)
          obtain rfl := List.eq_nil_of_length_eq_zero hl
          clear hl
          obtain rfl : t2 = .pointer (some ⟨w.heap.size, 0, none⟩) := by have e := h.k2; simpa using e
          obtain rfl : t3 = .pointer (some ⟨w.heap.size + 1, 0, none⟩) := by have e := h.k3; simpa using e
          obtain rfl : t5 = .string (Lx.stemR x f) := by have e := h.k5; simpa using e
          obtain rfl : t6 = .int .i64 (Lx.formV x f) := by have e := h.k6; simpa using e
          obtain rfl : t7 = .string (Lx.stemR x f) := by have e := h.k7; simpa using e
          obtain rfl : t8 = .int .i64 (Lx.formV x f) := by have e := h.k8; simpa using e
          obtain rfl : t9 = .string (Lx.soundsR x f) := by have e := h.p8 (hdn 8 (by omega)); simpa using e
          obtain rfl : t10 = .int .i64 (Lx.formV x f) := by have e := h.p9 (hdn 9 (by omega)); simpa using e
          have HEw3 := Lib.hid (H2.out.trans (h.bel.mono H2.out.size))
          clear h hdn hall
          obtain ⟨g0, g1, g2, g3, g4, g5⟩ := BXA.out wc HEw3.out
          go_wp2_with fail
          refine (HrSo.out wc HEw3.out).mono ?_
          rintro e2 w3 ⟨rfl, hb2⟩
          have H3 := Lib.hid (HEw3.out.trans (hb2.mono HEw3.out.size))
          clear hb2 g0 g1 g2 g3 g4 g5
          go_wp2_with fail
          refine wp_region_inv2 (LScI w3 x f (.agg #[.slice A0 x.entries.length c0, .slice A1 x.endings.length c1, .slice A2 x.clitics.length c2]) (.agg #[.int .i64 f.entry, .int .i64 f.ending, .slice A3 f.clitics.length c3]) w.heap.size (w.heap.size + 1)) (by kernel_rfl) (by kernel_rfl) ?h0c ?hstepc ?hendc
          case h0c =>
            have hno : ∀ j, ¬ dn (Array.replicate 10 false) j := by
              intro j; unfold dn; by_cases hj : j < 10 <;> simp [Array.getD, hj]
            exact ⟨_, rfl, { bel := (Below.refl _ _).drew, siz := rfl, k2 := rfl, k3 := rfl, k5 := rfl, k6 := rfl, k7 := rfl, k8 := rfl, k9 := rfl, k10 := rfl, k11 := rfl, k12 := rfl, p0 := fun hj => absurd hj (hno _), p1 := fun hj => absurd hj (hno _), p2 := fun hj => absurd hj (hno _), p3 := fun hj => absurd hj (hno _), p4 := fun hj => absurd hj (hno _), p5 := fun hj => absurd hj (hno _), p6 := fun hj => absurd hj (hno _), p7 := fun hj => absurd hj (hno _), p8 := fun hj => absurd hj (hno _), p9 := fun hj => absurd hj (hno _) }⟩
          case hstepc =>
            intro d a wc i hd hI hi
            obtain ⟨hlt, hnd, hpre⟩ := mem_ready hi
            have hd' : d.size = 10 := hd
            have hin : i < 10 := hlt
            clear hi hd hlt
            obtain ⟨t, rfl, h⟩ := hI
            have hcs : i = 0 ∨ i = 1 ∨ i = 2 ∨ i = 3 ∨ i = 4 ∨ i = 5 ∨ i = 6 ∨ i = 7 ∨ i = 8 ∨ i = 9 := by omega
            rcases hcs with rfl | rfl | rfl | rfl | rfl | rfl | rfl | rfl | rfl | rfl
            · have hi : 0 < d.size := by omega
              obtain ⟨m0, m1, m2, m3, m4, m5⟩ := BXA.out wc (H3.out.trans (h.bel.mono H3.out.size))
              have q2 := h.k2
              refine wpOp_plain rfl rfl ?_
              go_simp
              exact ⟨_, rfl, { bel := h.bel, siz := (by simpa using h.siz), k2 := (set_other (by decide)).trans h.k2, k3 := (set_other (by decide)).trans h.k3, k5 := (set_other (by decide)).trans h.k5, k6 := (set_other (by decide)).trans h.k6, k7 := (set_other (by decide)).trans h.k7, k8 := (set_other (by decide)).trans h.k8, k9 := (set_other (by decide)).trans h.k9, k10 := (set_other (by decide)).trans h.k10, k11 := (set_other (by decide)).trans h.k11, k12 := (set_other (by decide)).trans h.k12, p0 := fun _ => set_same (by have := h.siz; omega), p1 := fun hj => (by obtain ⟨v, h1, h2⟩ := (h.p1 (dn_of hi hj (by decide))); exact ⟨v, ((set_other (by decide)).trans h1), rdl_keep (Below.refl _ _) h2⟩), p2 := fun hj => (set_other (by decide)).trans (h.p2 (dn_of hi hj (by decide))), p3 := fun hj => (by obtain ⟨v, h1, h2⟩ := (h.p3 (dn_of hi hj (by decide))); exact ⟨v, ((set_other (by decide)).trans h1), rdf_keep (Below.refl _ _) h2⟩), p4 := fun hj => (set_other (by decide)).trans (h.p4 (dn_of hi hj (by decide))), p5 := fun hj => (set_other (by decide)).trans (h.p5 (dn_of hi hj (by decide))), p6 := fun hj => (set_other (by decide)).trans (h.p6 (dn_of hi hj (by decide))), p7 := fun hj => (set_other (by decide)).trans (h.p7 (dn_of hi hj (by decide))), p8 := fun hj => (set_other (by decide)).trans (h.p8 (dn_of hi hj (by decide))), p9 := fun hj => (set_other (by decide)).trans (h.p9 (dn_of hi hj (by decide))) }⟩
            · have hi : 1 < d.size := by omega
              have e0 := h.p0 (hpre _ rfl ⟨0, .data⟩ (by simp) rfl)
              refine wpOp_plain rfl rfl ?_
              go_simp
              refine (HCpy.out wc (H3.out.trans (h.bel.mono H3.out.size))).mono ?_
              rintro e1 w1 ⟨v1, rfl, hr1, hb⟩
              exact ⟨_, rfl, { bel := h.bel.trans (hb.mono h.bel.size), siz := (by simpa using h.siz), k2 := (set_other (by decide)).trans h.k2, k3 := (set_other (by decide)).trans h.k3, k5 := (set_other (by decide)).trans h.k5, k6 := (set_other (by decide)).trans h.k6, k7 := (set_other (by decide)).trans h.k7, k8 := (set_other (by decide)).trans h.k8, k9 := (set_other (by decide)).trans h.k9, k10 := (set_other (by decide)).trans h.k10, k11 := (set_other (by decide)).trans h.k11, k12 := (set_other (by decide)).trans h.k12, p0 := fun hj => (set_other (by decide)).trans (h.p0 (dn_of hi hj (by decide))), p1 := fun _ => ⟨v1, set_same (by have := h.siz; omega), hr1⟩, p2 := fun hj => (set_other (by decide)).trans (h.p2 (dn_of hi hj (by decide))), p3 := fun hj => (by obtain ⟨v, h1, h2⟩ := (h.p3 (dn_of hi hj (by decide))); exact ⟨v, ((set_other (by decide)).trans h1), rdf_keep hb h2⟩), p4 := fun hj => (set_other (by decide)).trans (h.p4 (dn_of hi hj (by decide))), p5 := fun hj => (set_other (by decide)).trans (h.p5 (dn_of hi hj (by decide))), p6 := fun hj => (set_other (by decide)).trans (h.p6 (dn_of hi hj (by decide))), p7 := fun hj => (set_other (by decide)).trans (h.p7 (dn_of hi hj (by decide))), p8 := fun hj => (set_other (by decide)).trans (h.p8 (dn_of hi hj (by decide))), p9 := fun hj => (set_other (by decide)).trans (h.p9 (dn_of hi hj (by decide))) }⟩
            · have hi : 2 < d.size := by omega
              obtain ⟨m0, m1, m2, m3, m4, m5⟩ := BXA.out wc (H3.out.trans (h.bel.mono H3.out.size))
              have q3 := h.k3
              refine wpOp_plain rfl rfl ?_
              go_simp
              exact ⟨_, rfl, { bel := h.bel, siz := (by simpa using h.siz), k2 := (set_other (by decide)).trans h.k2, k3 := (set_other (by decide)).trans h.k3, k5 := (set_other (by decide)).trans h.k5, k6 := (set_other (by decide)).trans h.k6, k7 := (set_other (by decide)).trans h.k7, k8 := (set_other (by decide)).trans h.k8, k9 := (set_other (by decide)).trans h.k9, k10 := (set_other (by decide)).trans h.k10, k11 := (set_other (by decide)).trans h.k11, k12 := (set_other (by decide)).trans h.k12, p0 := fun hj => (set_other (by decide)).trans (h.p0 (dn_of hi hj (by decide))), p1 := fun hj => (by obtain ⟨v, h1, h2⟩ := (h.p1 (dn_of hi hj (by decide))); exact ⟨v, ((set_other (by decide)).trans h1), rdl_keep (Below.refl _ _) h2⟩), p2 := fun _ => set_same (by have := h.siz; omega), p3 := fun hj => (by obtain ⟨v, h1, h2⟩ := (h.p3 (dn_of hi hj (by decide))); exact ⟨v, ((set_other (by decide)).trans h1), rdf_keep (Below.refl _ _) h2⟩), p4 := fun hj => (set_other (by decide)).trans (h.p4 (dn_of hi hj (by decide))), p5 := fun hj => (set_other (by decide)).trans (h.p5 (dn_of hi hj (by decide))), p6 := fun hj => (set_other (by decide)).trans (h.p6 (dn_of hi hj (by decide))), p7 := fun hj => (set_other (by decide)).trans (h.p7 (dn_of hi hj (by decide))), p8 := fun hj => (set_other (by decide)).trans (h.p8 (dn_of hi hj (by decide))), p9 := fun hj => (set_other (by decide)).trans (h.p9 (dn_of hi hj (by decide))) }⟩
            · have hi : 3 < d.size := by omega
              have e2 := h.p2 (hpre _ rfl ⟨2, .data⟩ (by simp) rfl)
              refine wpOp_plain rfl rfl ?_
              go_simp
              refine (HCop.out wc (H3.out.trans (h.bel.mono H3.out.size))).mono ?_
              rintro e1 w1 ⟨v1, rfl, hr1, hb⟩
              exact ⟨_, rfl, { bel := h.bel.trans (hb.mono h.bel.size), siz := (by simpa using h.siz), k2 := (set_other (by decide)).trans h.k2, k3 := (set_other (by decide)).trans h.k3, k5 := (set_other (by decide)).trans h.k5, k6 := (set_other (by decide)).trans h.k6, k7 := (set_other (by decide)).trans h.k7, k8 := (set_other (by decide)).trans h.k8, k9 := (set_other (by decide)).trans h.k9, k10 := (set_other (by decide)).trans h.k10, k11 := (set_other (by decide)).trans h.k11, k12 := (set_other (by decide)).trans h.k12, p0 := fun hj => (set_other (by decide)).trans (h.p0 (dn_of hi hj (by decide))), p1 := fun hj => (by obtain ⟨v, h1, h2⟩ := (h.p1 (dn_of hi hj (by decide))); exact ⟨v, ((set_other (by decide)).trans h1), rdl_keep hb h2⟩), p2 := fun hj => (set_other (by decide)).trans (h.p2 (dn_of hi hj (by decide))), p3 := fun _ => ⟨v1, set_same (by have := h.siz; omega), hr1⟩, p4 := fun hj => (set_other (by decide)).trans (h.p4 (dn_of hi hj (by decide))), p5 := fun hj => (set_other (by decide)).trans (h.p5 (dn_of hi hj (by decide))), p6 := fun hj => (set_other (by decide)).trans (h.p6 (dn_of hi hj (by decide))), p7 := fun hj => (set_other (by decide)).trans (h.p7 (dn_of hi hj (by decide))), p8 := fun hj => (set_other (by decide)).trans (h.p8 (dn_of hi hj (by decide))), p9 := fun hj => (set_other (by decide)).trans (h.p9 (dn_of hi hj (by decide))) }⟩
            · have hi : 4 < d.size := by omega
              obtain ⟨v1, e1, hr1⟩ := h.p1 (hpre _ rfl ⟨1, .data⟩ (by simp) rfl)
              obtain ⟨v3, e3, hf3⟩ := h.p3 (hpre _ rfl ⟨3, .data⟩ (by simp) rfl)
              refine wpOp_plain rfl rfl ?_
              go_simp
              refine (Weight_any v1 v3 x f wc hr1 hf3).mono ?_
              rintro e1 w1 ⟨rfl, hb⟩
              exact ⟨_, rfl, { bel := h.bel.trans (hb.mono h.bel.size), siz := (by simpa using h.siz), k2 := (set_other (by decide)).trans h.k2, k3 := (set_other (by decide)).trans h.k3, k5 := (set_other (by decide)).trans h.k5, k6 := (set_other (by decide)).trans h.k6, k7 := (set_other (by decide)).trans h.k7, k8 := (set_other (by decide)).trans h.k8, k9 := (set_other (by decide)).trans h.k9, k10 := (set_other (by decide)).trans h.k10, k11 := (set_other (by decide)).trans h.k11, k12 := (set_other (by decide)).trans h.k12, p0 := fun hj => (set_other (by decide)).trans (h.p0 (dn_of hi hj (by decide))), p1 := fun hj => (by obtain ⟨v, h1, h2⟩ := (h.p1 (dn_of hi hj (by decide))); exact ⟨v, ((set_other (by decide)).trans h1), rdl_keep hb h2⟩), p2 := fun hj => (set_other (by decide)).trans (h.p2 (dn_of hi hj (by decide))), p3 := fun hj => (by obtain ⟨v, h1, h2⟩ := (h.p3 (dn_of hi hj (by decide))); exact ⟨v, ((set_other (by decide)).trans h1), rdf_keep hb h2⟩), p4 := fun _ => set_same (by have := h.siz; omega), p5 := fun hj => (set_other (by decide)).trans (h.p5 (dn_of hi hj (by decide))), p6 := fun hj => (set_other (by decide)).trans (h.p6 (dn_of hi hj (by decide))), p7 := fun hj => (set_other (by decide)).trans (h.p7 (dn_of hi hj (by decide))), p8 := fun hj => (set_other (by decide)).trans (h.p8 (dn_of hi hj (by decide))), p9 := fun hj => (set_other (by decide)).trans (h.p9 (dn_of hi hj (by decide))) }⟩
            · have hi : 5 < d.size := by omega
              have e4 := h.p4 (hpre _ rfl ⟨4, .data⟩ (by simp) rfl)
              refine wpOp_plain rfl rfl ?_
              go_simp
              exact ⟨_, rfl, { bel := h.bel, siz := (by simpa using h.siz), k2 := (set_other (by decide)).trans h.k2, k3 := (set_other (by decide)).trans h.k3, k5 := (set_other (by decide)).trans h.k5, k6 := (set_other (by decide)).trans h.k6, k7 := (set_other (by decide)).trans h.k7, k8 := (set_other (by decide)).trans h.k8, k9 := (set_other (by decide)).trans h.k9, k10 := (set_other (by decide)).trans h.k10, k11 := (set_other (by decide)).trans h.k11, k12 := (set_other (by decide)).trans h.k12, p0 := fun hj => (set_other (by decide)).trans (h.p0 (dn_of hi hj (by decide))), p1 := fun hj => (by obtain ⟨v, h1, h2⟩ := (h.p1 (dn_of hi hj (by decide))); exact ⟨v, ((set_other (by decide)).trans h1), rdl_keep (Below.refl _ _) h2⟩), p2 := fun hj => (set_other (by decide)).trans (h.p2 (dn_of hi hj (by decide))), p3 := fun hj => (by obtain ⟨v, h1, h2⟩ := (h.p3 (dn_of hi hj (by decide))); exact ⟨v, ((set_other (by decide)).trans h1), rdf_keep (Below.refl _ _) h2⟩), p4 := fun hj => (set_other (by decide)).trans (h.p4 (dn_of hi hj (by decide))), p5 := fun _ => set_same (by have := h.siz; omega), p6 := fun hj => (set_other (by decide)).trans (h.p6 (dn_of hi hj (by decide))), p7 := fun hj => (set_other (by decide)).trans (h.p7 (dn_of hi hj (by decide))), p8 := fun hj => (set_other (by decide)).trans (h.p8 (dn_of hi hj (by decide))), p9 := fun hj => (set_other (by decide)).trans (h.p9 (dn_of hi hj (by decide))) }⟩
            · have hi : 6 < d.size := by omega
              have e5 := h.p5 (hpre _ rfl ⟨5, .data⟩ (by simp) rfl)
              refine wpOp_plain rfl rfl ?_
              go_simp
              exact ⟨_, rfl, { bel := h.bel, siz := (by simpa using h.siz), k2 := (set_other (by decide)).trans h.k2, k3 := (set_other (by decide)).trans h.k3, k5 := (set_other (by decide)).trans h.k5, k6 := (set_other (by decide)).trans h.k6, k7 := (set_other (by decide)).trans h.k7, k8 := (set_other (by decide)).trans h.k8, k9 := (set_other (by decide)).trans h.k9, k10 := (set_other (by decide)).trans h.k10, k11 := (set_other (by decide)).trans h.k11, k12 := (set_other (by decide)).trans h.k12, p0 := fun hj => (set_other (by decide)).trans (h.p0 (dn_of hi hj (by decide))), p1 := fun hj => (by obtain ⟨v, h1, h2⟩ := (h.p1 (dn_of hi hj (by decide))); exact ⟨v, ((set_other (by decide)).trans h1), rdl_keep (Below.refl _ _) h2⟩), p2 := fun hj => (set_other (by decide)).trans (h.p2 (dn_of hi hj (by decide))), p3 := fun hj => (by obtain ⟨v, h1, h2⟩ := (h.p3 (dn_of hi hj (by decide))); exact ⟨v, ((set_other (by decide)).trans h1), rdf_keep (Below.refl _ _) h2⟩), p4 := fun hj => (set_other (by decide)).trans (h.p4 (dn_of hi hj (by decide))), p5 := fun hj => (set_other (by decide)).trans (h.p5 (dn_of hi hj (by decide))), p6 := fun _ => set_same (by have := h.siz; omega), p7 := fun hj => (set_other (by decide)).trans (h.p7 (dn_of hi hj (by decide))), p8 := fun hj => (set_other (by decide)).trans (h.p8 (dn_of hi hj (by decide))), p9 := fun hj => (set_other (by decide)).trans (h.p9 (dn_of hi hj (by decide))) }⟩
            · have hi : 7 < d.size := by omega
              have e5 := h.p5 (hpre _ rfl ⟨5, .data⟩ (by simp) rfl)
              refine wpOp_plain rfl rfl ?_
              go_simp
              exact ⟨_, rfl, { bel := h.bel, siz := (by simpa using h.siz), k2 := (set_other (by decide)).trans h.k2, k3 := (set_other (by decide)).trans h.k3, k5 := (set_other (by decide)).trans h.k5, k6 := (set_other (by decide)).trans h.k6, k7 := (set_other (by decide)).trans h.k7, k8 := (set_other (by decide)).trans h.k8, k9 := (set_other (by decide)).trans h.k9, k10 := (set_other (by decide)).trans h.k10, k11 := (set_other (by decide)).trans h.k11, k12 := (set_other (by decide)).trans h.k12, p0 := fun hj => (set_other (by decide)).trans (h.p0 (dn_of hi hj (by decide))), p1 := fun hj => (by obtain ⟨v, h1, h2⟩ := (h.p1 (dn_of hi hj (by decide))); exact ⟨v, ((set_other (by decide)).trans h1), rdl_keep (Below.refl _ _) h2⟩), p2 := fun hj => (set_other (by decide)).trans (h.p2 (dn_of hi hj (by decide))), p3 := fun hj => (by obtain ⟨v, h1, h2⟩ := (h.p3 (dn_of hi hj (by decide))); exact ⟨v, ((set_other (by decide)).trans h1), rdf_keep (Below.refl _ _) h2⟩), p4 := fun hj => (set_other (by decide)).trans (h.p4 (dn_of hi hj (by decide))), p5 := fun hj => (set_other (by decide)).trans (h.p5 (dn_of hi hj (by decide))), p6 := fun hj => (set_other (by decide)).trans (h.p6 (dn_of hi hj (by decide))), p7 := fun _ => set_same (by have := h.siz; omega), p8 := fun hj => (set_other (by decide)).trans (h.p8 (dn_of hi hj (by decide))), p9 := fun hj => (set_other (by decide)).trans (h.p9 (dn_of hi hj (by decide))) }⟩
            · have hi : 8 < d.size := by omega
              have e6 := h.p6 (hpre _ rfl ⟨6, .data⟩ (by simp) rfl)
              refine wpOp_plain rfl rfl ?_
              go_simp
              exact ⟨_, rfl, { bel := h.bel, siz := (by simpa using h.siz), k2 := (set_other (by decide)).trans h.k2, k3 := (set_other (by decide)).trans h.k3, k5 := (set_other (by decide)).trans h.k5, k6 := (set_other (by decide)).trans h.k6, k7 := (set_other (by decide)).trans h.k7, k8 := (set_other (by decide)).trans h.k8, k9 := (set_other (by decide)).trans h.k9, k10 := (set_other (by decide)).trans h.k10, k11 := (set_other (by decide)).trans h.k11, k12 := (set_other (by decide)).trans h.k12, p0 := fun hj => (set_other (by decide)).trans (h.p0 (dn_of hi hj (by decide))), p1 := fun hj => (by obtain ⟨v, h1, h2⟩ := (h.p1 (dn_of hi hj (by decide))); exact ⟨v, ((set_other (by decide)).trans h1), rdl_keep (Below.refl _ _) h2⟩), p2 := fun hj => (set_other (by decide)).trans (h.p2 (dn_of hi hj (by decide))), p3 := fun hj => (by obtain ⟨v, h1, h2⟩ := (h.p3 (dn_of hi hj (by decide))); exact ⟨v, ((set_other (by decide)).trans h1), rdf_keep (Below.refl _ _) h2⟩), p4 := fun hj => (set_other (by decide)).trans (h.p4 (dn_of hi hj (by decide))), p5 := fun hj => (set_other (by decide)).trans (h.p5 (dn_of hi hj (by decide))), p6 := fun hj => (set_other (by decide)).trans (h.p6 (dn_of hi hj (by decide))), p7 := fun hj => (set_other (by decide)).trans (h.p7 (dn_of hi hj (by decide))), p8 := fun _ => set_same (by have := h.siz; omega), p9 := fun hj => (set_other (by decide)).trans (h.p9 (dn_of hi hj (by decide))) }⟩
            · have hi : 9 < d.size := by omega
              have e7 := h.p7 (hpre _ rfl ⟨7, .data⟩ (by simp) rfl)
              refine wpOp_plain rfl rfl ?_
              go_simp
              exact ⟨_, rfl, { bel := h.bel, siz := (by simpa using h.siz), k2 := (set_other (by decide)).trans h.k2, k3 := (set_other (by decide)).trans h.k3, k5 := (set_other (by decide)).trans h.k5, k6 := (set_other (by decide)).trans h.k6, k7 := (set_other (by decide)).trans h.k7, k8 := (set_other (by decide)).trans h.k8, k9 := (set_other (by decide)).trans h.k9, k10 := (set_other (by decide)).trans h.k10, k11 := (set_other (by decide)).trans h.k11, k12 := (set_other (by decide)).trans h.k12, p0 := fun hj => (set_other (by decide)).trans (h.p0 (dn_of hi hj (by decide))), p1 := fun hj => (by obtain ⟨v, h1, h2⟩ := (h.p1 (dn_of hi hj (by decide))); exact ⟨v, ((set_other (by decide)).trans h1), rdl_keep (Below.refl _ _) h2⟩), p2 := fun hj => (set_other (by decide)).trans (h.p2 (dn_of hi hj (by decide))), p3 := fun hj => (by obtain ⟨v, h1, h2⟩ := (h.p3 (dn_of hi hj (by decide))); exact ⟨v, ((set_other (by decide)).trans h1), rdf_keep (Below.refl _ _) h2⟩), p4 := fun hj => (set_other (by decide)).trans (h.p4 (dn_of hi hj (by decide))), p5 := fun hj => (set_other (by decide)).trans (h.p5 (dn_of hi hj (by decide))), p6 := fun hj => (set_other (by decide)).trans (h.p6 (dn_of hi hj (by decide))), p7 := fun hj => (set_other (by decide)).trans (h.p7 (dn_of hi hj (by decide))), p8 := fun hj => (set_other (by decide)).trans (h.p8 (dn_of hi hj (by decide))), p9 := fun _ => set_same (by have := h.siz; omega) }⟩
          case hendc =>
            intro d a wc hd hI hall
            obtain ⟨t, rfl, h⟩ := hI
            have hdn : ∀ j, j < 10 → dn d j := fun j hj => dn_all hd hall hj
            have hl : t.toList.length = 99 := h.siz
            obtain ⟨l⟩ := t
            simp only [] at hl
            obtain ⟨t0, l, rfl⟩ := List.exists_cons_of_length_eq_add_one (n := 98) hl; replace hl : l.length = 98 := (by simpa using hl)
            obtain ⟨t1, l, rfl⟩ := List.exists_cons_of_length_eq_add_one (n := 97) hl; replace hl : l.length = 97 := (by simpa using hl)
            obtain ⟨t2, l, rfl⟩ := List.exists_cons_of_length_eq_add_one (n := 96) hl; replace hl : l.length = 96 := (by simpa using hl)
            obtain ⟨t3, l, rfl⟩ := List.exists_cons_of_length_eq_add_one (n := 95) hl; replace hl : l.length = 95 := (by simpa using hl)
            obtain ⟨t4, l, rfl⟩ := List.exists_cons_of_length_eq_add_one (n := 94) hl; replace hl : l.length = 94 := (by simpa using hl)
            obtain ⟨t5, l, rfl⟩ := List.exists_cons_of_length_eq_add_one (n := 93) hl; replace hl : l.length = 93 := (by simpa using hl)
            obtain ⟨t6, l, rfl⟩ := List.exists_cons_of_length_eq_add_one (n := 92) hl; replace hl : l.length = 92 := (by simpa using hl)
            obtain ⟨t7, l, rfl⟩ := List.exists_cons_of_length_eq_add_one (n := 91) hl; replace hl : l.length = 91 := (by simpa using hl)
            obtain ⟨t8, l, rfl⟩ := List.exists_cons_of_length_eq_add_one (n := 90) hl; replace hl : l.length = 90 := (by simpa using hl)
            obtain ⟨t9, l, rfl⟩ := List.exists_cons_of_length_eq_add_one (n := 89) hl; replace hl : l.length = 89 := (by simpa using hl)
            obtain ⟨t10, l, rfl⟩ := List.exists_cons_of_length_eq_add_one (n := 88) hl; replace hl : l.length = 88 := (by simpa using hl)
            obtain ⟨t11, l, rfl⟩ := List.exists_cons_of_length_eq_add_one (n := 87) hl; replace hl : l.length = 87 := (by simpa using hl)
            obtain ⟨t12, l, rfl⟩ := List.exists_cons_of_length_eq_add_one (n := 86) hl; replace hl : l.length = 86 := (by simpa using hl)
            obtain ⟨t13, l, rfl⟩ := List.exists_cons_of_length_eq_add_one (n := 85) hl; replace hl : l.length = 85 := (by simpa using hl)
            obtain ⟨t14, l, rfl⟩ := List.exists_cons_of_length_eq_add_one (n := 84) hl; replace hl : l.length = 84 := (by simpa using hl)
            obtain ⟨t15, l, rfl⟩ := List.exists_cons_of_length_eq_add_one (n := 83) hl; replace hl : l.length = 83 := (by simpa using hl)
            obtain ⟨t16, l, rfl⟩ := List.exists_cons_of_length_eq_add_one (n := 82) hl; replace hl : l.length = 82 := (by simpa using hl)
            obtain ⟨t17, l, rfl⟩ := List.exists_cons_of_length_eq_add_one (n := 81) hl; replace hl : l.length = 81 := (by simpa using hl)
            obtain ⟨t18, l, rfl⟩ := List.exists_cons_of_length_eq_add_one (n := 80) hl; replace hl : l.length = 80 := (by simpa using hl)
            obtain ⟨t19, l, rfl⟩ := List.exists_cons_of_length_eq_add_one (n := 79) hl; replace hl : l.length = 79 := (by simpa using hl)
            obtain ⟨t20, l, rfl⟩ := List.exists_cons_of_length_eq_add_one (n := 78) hl; replace hl : l.length = 78 := (by simpa using hl)
            obtain ⟨t21, l, rfl⟩ := List.exists_cons_of_length_eq_add_one (n := 77) hl; replace hl : l.length = 77 := (by simpa using hl)
            obtain ⟨t22, l, rfl⟩ := List.exists_cons_of_length_eq_add_one (n := 76) hl; replace hl : l.length = 76 := (by simpa using hl)
            obtain ⟨t23, l, rfl⟩ := List.exists_cons_of_length_eq_add_one (n := 75) hl; replace hl : l.length = 75 := (by simpa using hl)
            obtain ⟨t24, l, rfl⟩ := List.exists_cons_of_length_eq_add_one (n := 74) hl; replace hl : l.length = 74 := (by simpa using hl)
            obtain ⟨t25, l, rfl⟩ := List.exists_cons_of_length_eq_add_one (n := 73) hl; replace hl : l.length = 73 := (by simpa using hl)
            obtain ⟨t26, l, rfl⟩ := List.exists_cons_of_length_eq_add_one (n := 72) hl; replace hl : l.length = 72 := (by simpa using hl)
            obtain ⟨t27, l, rfl⟩ := List.exists_cons_of_length_eq_add_one (n := 71) hl; replace hl : l.length = 71 := (by simpa using hl)
            obtain ⟨t28, l, rfl⟩ := List.exists_cons_of_length_eq_add_one (n := 70) hl; replace hl : l.length = 70 := (by simpa using hl)
            obtain ⟨t29, l, rfl⟩ := List.exists_cons_of_length_eq_add_one (n := 69) hl; replace hl : l.length = 69 := (by simpa using hl)
            obtain ⟨t30, l, rfl⟩ := List.exists_cons_of_length_eq_add_one (n := 68) hl; replace hl : l.length = 68 := (by simpa using hl)
            obtain ⟨t31, l, rfl⟩ := List.exists_cons_of_length_eq_add_one (n := 67) hl; replace hl : l.length = 67 := (by simpa using hl)
            obtain ⟨t32, l, rfl⟩ := List.exists_cons_of_length_eq_add_one (n := 66) hl; replace hl : l.length = 66 := (by simpa using hl)
            obtain ⟨t33, l, rfl⟩ := List.exists_cons_of_length_eq_add_one (n := 65) hl; replace hl : l.length = 65 := (by simpa using hl)
            obtain ⟨t34, l, rfl⟩ := List.exists_cons_of_length_eq_add_one (n := 64) hl; replace hl : l.length = 64 := (by simpa using hl)
            obtain ⟨t35, l, rfl⟩ := List.exists_cons_of_length_eq_add_one (n := 63) hl; replace hl : l.length = 63 := (by simpa using hl)
            obtain ⟨t36, l, rfl⟩ := List.exists_cons_of_length_eq_add_one (n := 62) hl; replace hl : l.length = 62 := (by simpa using hl)
            obtain ⟨t37, l, rfl⟩ := List.exists_cons_of_length_eq_add_one (n := 61) hl; replace hl : l.length = 61 := (by simpa using hl)
            obtain ⟨t38, l, rfl⟩ := List.exists_cons_of_length_eq_add_one (n := 60) hl; replace hl : l.length = 60 := (by simpa using hl)
            obtain ⟨t39, l, rfl⟩ := List.exists_cons_of_length_eq_add_one (n := 59) hl; replace hl : l.length = 59 := (by simpa using hl)
            obtain ⟨t40, l, rfl⟩ := List.exists_cons_of_length_eq_add_one (n := 58) hl; replace hl : l.length = 58 := (by simpa using hl)
            obtain ⟨t41, l, rfl⟩ := List.exists_cons_of_length_eq_add_one (n := 57) hl; replace hl : l.length = 57 := (by simpa using hl)
            obtain ⟨t42, l, rfl⟩ := List.exists_cons_of_length_eq_add_one (n := 56) hl; replace hl : l.length = 56 := (by simpa using hl)
            obtain ⟨t43, l, rfl⟩ := List.exists_cons_of_length_eq_add_one (n := 55) hl; replace hl : l.length = 55 := (by simpa using hl)
            obtain ⟨t44, l, rfl⟩ := List.exists_cons_of_length_eq_add_one (n := 54) hl; replace hl : l.length = 54 := (by simpa using hl)
            obtain ⟨t45, l, rfl⟩ := List.exists_cons_of_length_eq_add_one (n := 53) hl; replace hl : l.length = 53 := (by simpa using hl)
            obtain ⟨t46, l, rfl⟩ := List.exists_cons_of_length_eq_add_one (n := 52) hl; replace hl : l.length = 52 := (by simpa using hl)
            obtain ⟨t47, l, rfl⟩ := List.exists_cons_of_length_eq_add_one (n := 51) hl; replace hl : l.length = 51 := (by simpa using hl)
            obtain ⟨t48, l, rfl⟩ := List.exists_cons_of_length_eq_add_one (n := 50) hl; replace hl : l.length = 50 := (by simpa using hl)
            obtain ⟨t49, l, rfl⟩ := List.exists_cons_of_length_eq_add_one (n := 49) hl; replace hl : l.length = 49 := (by simpa using hl)
            obtain ⟨t50, l, rfl⟩ := List.exists_cons_of_length_eq_add_one (n := 48) hl; replace hl : l.length = 48 := (by simpa using hl)
            obtain ⟨t51, l, rfl⟩ := List.exists_cons_of_length_eq_add_one (n := 47) hl; replace hl : l.length = 47 := (by simpa using hl)
            obtain ⟨t52, l, rfl⟩ := List.exists_cons_of_length_eq_add_one (n := 46) hl; replace hl : l.length = 46 := (by simpa using hl)
            obtain ⟨t53, l, rfl⟩ := List.exists_cons_of_length_eq_add_one (n := 45) hl; replace hl : l.length = 45 := (by simpa using hl)
            obtain ⟨t54, l, rfl⟩ := List.exists_cons_of_length_eq_add_one (n := 44) hl; replace hl : l.length = 44 := (by simpa using hl)
            obtain ⟨t55, l, rfl⟩ := List.exists_cons_of_length_eq_add_one (n := 43) hl; replace hl : l.length = 43 := (by simpa using hl)
            obtain ⟨t56, l, rfl⟩ := List.exists_cons_of_length_eq_add_one (n := 42) hl; replace hl : l.length = 42 := (by simpa using hl)
            obtain ⟨t57, l, rfl⟩ := List.exists_cons_of_length_eq_add_one (n := 41) hl; replace hl : l.length = 41 := (by simpa using hl)
            obtain ⟨t58, l, rfl⟩ := List.exists_cons_of_length_eq_add_one (n := 40) hl; replace hl : l.length = 40 := (by simpa using hl)
            obtain ⟨t59, l, rfl⟩ := List.exists_cons_of_length_eq_add_one (n := 39) hl; replace hl : l.length = 39 := (by simpa using hl)
            obtain ⟨t60, l, rfl⟩ := List.exists_cons_of_length_eq_add_one (n := 38) hl; replace hl : l.length = 38 := (by simpa using hl)
            obtain ⟨t61, l, rfl⟩ := List.exists_cons_of_length_eq_add_one (n := 37) hl; replace hl : l.length = 37 := (by simpa using hl)
            obtain ⟨t62, l, rfl⟩ := List.exists_cons_of_length_eq_add_one (n := 36) hl; replace hl : l.length = 36 := (by simpa using hl)
            obtain ⟨t63, l, rfl⟩ := List.exists_cons_of_length_eq_add_one (n := 35) hl; replace hl : l.length = 35 := (by simpa using hl)
            obtain ⟨t64, l, rfl⟩ := List.exists_cons_of_length_eq_add_one (n := 34) hl; replace hl : l.length = 34 := (by simpa using hl)
            obtain ⟨t65, l, rfl⟩ := List.exists_cons_of_length_eq_add_one (n := 33) hl; replace hl : l.length = 33 := (by simpa using hl)
            obtain ⟨t66, l, rfl⟩ := List.exists_cons_of_length_eq_add_one (n := 32) hl; replace hl : l.length = 32 := (by simpa using hl)
            obtain ⟨t67, l, rfl⟩ := List.exists_cons_of_length_eq_add_one (n := 31) hl; replace hl : l.length = 31 := (by simpa using hl)
            obtain ⟨t68, l, rfl⟩ := List.exists_cons_of_length_eq_add_one (n := 30) hl; replace hl : l.length = 30 := (by simpa using hl)
            obtain ⟨t69, l, rfl⟩ := List.exists_cons_of_length_eq_add_one (n := 29) hl; replace hl : l.length = 29 := (by simpa using hl)
            obtain ⟨t70, l, rfl⟩ := List.exists_cons_of_length_eq_add_one (n := 28) hl; replace hl : l.length = 28 := (by simpa using hl)
            obtain ⟨t71, l, rfl⟩ := List.exists_cons_of_length_eq_add_one (n := 27) hl; replace hl : l.length = 27 := (by simpa using hl)
            obtain ⟨t72, l, rfl⟩ := List.exists_cons_of_length_eq_add_one (n := 26) hl; replace hl : l.length = 26 := (by simpa using hl)
            obtain ⟨t73, l, rfl⟩ := List.exists_cons_of_length_eq_add_one (n := 25) hl; replace hl : l.length = 25 := (by simpa using hl)
            obtain ⟨t74, l, rfl⟩ := List.exists_cons_of_length_eq_add_one (n := 24) hl; replace hl : l.length = 24 := (by simpa using hl)
            obtain ⟨t75, l, rfl⟩ := List.exists_cons_of_length_eq_add_one (n := 23) hl; replace hl : l.length = 23 := (by simpa using hl)
            obtain ⟨t76, l, rfl⟩ := List.exists_cons_of_length_eq_add_one (n := 22) hl; replace hl : l.length = 22 := (by simpa using hl)
            obtain ⟨t77, l, rfl⟩ := List.exists_cons_of_length_eq_add_one (n := 21) hl; replace hl : l.length = 21 := (by simpa using hl)
            obtain ⟨t78, l, rfl⟩ := List.exists_cons_of_length_eq_add_one (n := 20) hl; replace hl : l.length = 20 := (by simpa using hl)
            obtain ⟨t79, l, rfl⟩ := List.exists_cons_of_length_eq_add_one (n := 19) hl; replace hl : l.length = 19 := (by simpa using hl)
            obtain ⟨t80, l, rfl⟩ := List.exists_cons_of_length_eq_add_one (n := 18) hl; replace hl : l.length = 18 := (by simpa using hl)
            obtain ⟨t81, l, rfl⟩ := List.exists_cons_of_length_eq_add_one (n := 17) hl; replace hl : l.length = 17 := (by simpa using hl)
            obtain ⟨t82, l, rfl⟩ := List.exists_cons_of_length_eq_add_one (n := 16) hl; replace hl : l.length = 16 := (by simpa using hl)
            obtain ⟨t83, l, rfl⟩ := List.exists_cons_of_length_eq_add_one (n := 15) hl; replace hl : l.length = 15 := (by simpa using hl)
            obtain ⟨t84, l, rfl⟩ := List.exists_cons_of_length_eq_add_one (n := 14) hl; replace hl : l.length = 14 := (by simpa using hl)
            obtain ⟨t85, l, rfl⟩ := List.exists_cons_of_length_eq_add_one (n := 13) hl; replace hl : l.length = 13 := (by simpa using hl)
            obtain ⟨t86, l, rfl⟩ := List.exists_cons_of_length_eq_add_one (n := 12) hl; replace hl : l.length = 12 := (by simpa using hl)
            obtain ⟨t87, l, rfl⟩ := List.exists_cons_of_length_eq_add_one (n := 11) hl; replace hl : l.length = 11 := (by simpa using hl)
            obtain ⟨t88, l, rfl⟩ := List.exists_cons_of_length_eq_add_one (n := 10) hl; replace hl : l.length = 10 := (by simpa using hl)
            obtain ⟨t89, l, rfl⟩ := List.exists_cons_of_length_eq_add_one (n := 9) hl; replace hl : l.length = 9 := (by simpa using hl)
            obtain ⟨t90, l, rfl⟩ := List.exists_cons_of_length_eq_add_one (n := 8) hl; replace hl : l.length = 8 := (by simpa using hl)
            obtain ⟨t91, l, rfl⟩ := List.exists_cons_of_length_eq_add_one (n := 7) hl; replace hl : l.length = 7 := (by simpa using hl)
            obtain ⟨t92, l, rfl⟩ := List.exists_cons_of_length_eq_add_one (n := 6) hl; replace hl : l.length = 6 := (by simpa using hl)
            obtain ⟨t93, l, rfl⟩ := List.exists_cons_of_length_eq_add_one (n := 5) hl; replace hl : l.length = 5 := (by simpa using hl)
            obtain ⟨t94, l, rfl⟩ := List.exists_cons_of_length_eq_add_one (n := 4) hl; replace hl : l.length = 4 := (by simpa using hl)
            obtain ⟨t95, l, rfl⟩ := List.exists_cons_of_length_eq_add_one (n := 3) hl; replace hl : l.length = 3 := (by simpa using hl)
            obtain ⟨t96, l, rfl⟩ := List.exists_cons_of_length_eq_add_one (n := 2) hl; replace hl : l.length = 2 := (by simpa using hl)
            obtain ⟨t97, l, rfl⟩ := List.exists_cons_of_length_eq_add_one (n := 1) hl; replace hl : l.length = 1 := (by simpa using hl)
            obtain ⟨t98, l, rfl⟩ := List.exists_cons_of_length_eq_add_one (n := 0) hl; replace hl : l.length = 0 := (by simpa using hl)
            obtain rfl := List.eq_nil_of_length_eq_zero hl
            clear hl
            obtain rfl : t2 = .pointer (some ⟨w.heap.size, 0, none⟩) := by have e := h.k2; simpa using e
            obtain rfl : t3 = .pointer (some ⟨w.heap.size + 1, 0, none⟩) := by have e := h.k3; simpa using e
            obtain rfl : t5 = .string (Lx.stemR x f) := by have e := h.k5; simpa using e
            obtain rfl : t6 = .int .i64 (Lx.formV x f) := by have e := h.k6; simpa using e
            obtain rfl : t7 = .string (Lx.stemR x f) := by have e := h.k7; simpa using e
            obtain rfl : t8 = .int .i64 (Lx.formV x f) := by have e := h.k8; simpa using e
            obtain rfl : t9 = .string (Lx.soundsR x f) := by have e := h.k9; simpa using e
            obtain rfl : t10 = .int .i64 (Lx.formV x f) := by have e := h.k10; simpa using e
            obtain rfl : t11 = .string (Lx.soundsR x f) := by have e := h.k11; simpa using e
            obtain rfl : t12 = .int .i64 (Lx.formV x f) := by have e := h.k12; simpa using e
            obtain rfl : t13 = .int .i64 (Lx.weightR x f) := by have e := h.p8 (hdn 8 (by omega)); simpa using e
            obtain rfl : t14 = .int .i64 (Lx.formV x f) := by have e := h.p9 (hdn 9 (by omega)); simpa using e
            have HEw := Lib.hid (H3.out.trans (h.bel.mono H3.out.size))
            clear h hdn hall
            obtain ⟨g0, g1, g2, g3, g4, g5⟩ := BXA.out wc HEw.out
            go_wp2_with fail
            refine (HrW.out wc HEw.out).mono ?_
            rintro e2 w4 ⟨rfl, hb2⟩
            have H4 := Lib.hid (HEw.out.trans (hb2.mono HEw.out.size))
            clear hb2 g0 g1 g2 g3 g4 g5
            go_wp2_with (go_at_call 12; refine (works_any _).mono ?_; rintro e5 w5 ⟨rfl, hb5⟩)
            go_ret
            exact ⟨rfl, HBA.out.trans ((H4.out.trans (hb5.mono H4.out.size)).mono HBA.out.size)⟩
  · clear hbig
    go_wp2_with (go_at_call 12; refine (works_any _).mono ?_; rintro e2 w2 ⟨rfl, hb2⟩)
    go_ret
    exact ⟨rfl, HBA.out.trans ((H1.out.trans (hb2.mono H1.out.size)).mono HBA.out.size)⟩
end Go.Proofs.YtpmfjndbckblfaaDoor
