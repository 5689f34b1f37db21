/- ostraconlaw05.LexiconCuts: the walk. Made by gen_lawcuts.py. -/
import Derived.Test.YtpmfjndbckblfaaDoorMgCutsBoth
import Derived.Test.YtpmfjndbckblfaaDoorMgWorks
import Derived.Test.YtpmfjndbckblfaaDoorMgRegion4
import Derived.Test.YtpmfjndbckblfaaDoorMgCopy
namespace Go.Proofs.YtpmfjndbckblfaaDoor
open Go.RowKit

structure ZaR (T0 : Array Value) (W0 : World) (xv : Value) (bs : Nat) (s : ByteArray) (x : Lx.Lexicon) (most : Int) (l : List Lx.Cut) (n : Int) (d : Array Bool) (t : Array Value) (wc : World) : Prop where
  bel : Below W0.heap.size W0 wc
  siz : t.size = 74
  kp : ∀ i, i ∉ ([5, 6, 13, 14, 15, 16, 17, 18, 19, 20, 21, 22] : List Nat) → t[i]? = T0[i]?
  k1 : t[1]? = some (.int .i64 most)
  k2 : t[2]? = some (.pointer (some ⟨bs, 0, none⟩))
  p0 : dn d 0 → t[14]? = some (.pointer (some ⟨bs, 0, none⟩))
  p1 : dn d 1 → t[15]? = some (xv)
  p2 : dn d 2 → ∃ v, t[16]? = some v ∧ RdL wc wc.heap.size v x
  p3 : dn d 3 → t[17]? = some (.pointer (some ⟨bs, 3, none⟩))
  p4 : dn d 4 → t[18]? = some (.string s)
  p5 : dn d 5 → t[19]? = some (.int .i64 most)
  p6 : dn d 6 → ∃ v, t[20]? = some v ∧ ∃ u, v = .tuple #[u, .int .i64 n] ∧ RdG KCut wc (fun b => b < wc.heap.size ∧ 0 ≤ b) u l
  p7 : dn d 7 → ∃ v, t[13]? = some v ∧ ∃ u, v = .tuple #[u, .int .i64 n] ∧ RdG KCut wc (fun b => b < wc.heap.size ∧ 0 ≤ b) u l
  p8 : dn d 8 → ∃ v, t[21]? = some v ∧ RdG KCut wc (fun b => b < wc.heap.size ∧ 0 ≤ b) v l
  p9 : dn d 9 → t[22]? = some (.int .i64 n)
  p10 : dn d 10 → ∃ v, t[5]? = some v ∧ RdG KCut wc (fun b => b < wc.heap.size ∧ 0 ≤ b) v l
  p11 : dn d 11 → t[6]? = some (.int .i64 n)
def ZaI (T0 : Array Value) (W0 : World) (xv : Value) (bs : Nat) (s : ByteArray) (x : Lx.Lexicon) (most : Int) (l : List Lx.Cut) (n : Int) (d : Array Bool) (a : Act) (wc : World) : Prop := ∃ t : Array Value, a = ⟨t, []⟩ ∧ ZaR T0 W0 xv bs s x most l n d t wc
structure ZbR (T0 : Array Value) (W0 : World) (ba oa ca bb ob cb n i : Nat) (wt : Int) (Fa : Option Addr) (nf cfa : Nat) (Fb : Option Addr) (cfb : Nat) (d : Array Bool) (t : Array Value) (wc : World) : Prop where
  bel : Below W0.heap.size W0 wc
  siz : t.size = 74
  kp : ∀ i, i ∉ ([48, 49, 50, 51, 52, 53, 54, 55, 56, 57, 58, 59, 60, 61, 62, 63, 64, 65, 66, 67, 68, 69, 70, 71, 72] : List Nat) → t[i]? = T0[i]?
  k5 : t[5]? = some (.slice (some ⟨ba, oa, none⟩) n ca)
  k7 : t[7]? = some (.slice (some ⟨bb, ob, none⟩) n cb)
  k9 : t[9]? = some (.int .i64 (i : Int))
  p0 : dn d 0 → t[48]? = some (.slice (some ⟨ba, oa, none⟩) n ca)
  p1 : dn d 1 → t[49]? = some (.int .i64 (i : Int))
  p2 : dn d 2 → t[50]? = some (.pointer (some ⟨ba, oa + i * 2, none⟩))
  p3 : dn d 3 → t[51]? = some (.pointer (some ⟨ba, oa + i * 2 + 1, none⟩))
  p4 : dn d 4 → t[52]? = some (.int .i64 wt)
  p5 : dn d 5 → t[53]? = some (.slice (some ⟨bb, ob, none⟩) n cb)
  p6 : dn d 6 → t[54]? = some (.int .i64 (i : Int))
  p7 : dn d 7 → t[55]? = some (.pointer (some ⟨bb, ob + i * 2, none⟩))
  p8 : dn d 8 → t[56]? = some (.pointer (some ⟨bb, ob + i * 2 + 1, none⟩))
  p9 : dn d 9 → t[57]? = some (.int .i64 wt)
  p10 : dn d 10 → t[58]? = some (.bool false)
  p11 : dn d 11 → t[59]? = some (.bool false)
  p12 : dn d 12 → t[60]? = some (.slice (some ⟨ba, oa, none⟩) n ca)
  p13 : dn d 13 → t[61]? = some (.int .i64 (i : Int))
  p14 : dn d 14 → t[62]? = some (.pointer (some ⟨ba, oa + i * 2, none⟩))
  p15 : dn d 15 → t[63]? = some (.pointer (some ⟨ba, oa + i * 2, none⟩))
  p16 : dn d 16 → t[64]? = some (.slice Fa nf cfa)
  p17 : dn d 17 → t[65]? = some (.slice (some ⟨bb, ob, none⟩) n cb)
  p18 : dn d 18 → t[66]? = some (.int .i64 (i : Int))
  p19 : dn d 19 → t[67]? = some (.pointer (some ⟨bb, ob + i * 2, none⟩))
  p20 : dn d 20 → t[68]? = some (.pointer (some ⟨bb, ob + i * 2, none⟩))
  p21 : dn d 21 → t[69]? = some (.slice Fb nf cfb)
  p22 : dn d 22 → t[70]? = some (.bool true)
  p23 : dn d 23 → t[71]? = some (.bool false)
  p24 : dn d 24 → t[72]? = some (.bool false)
def ZbI (T0 : Array Value) (W0 : World) (ba oa ca bb ob cb n i : Nat) (wt : Int) (Fa : Option Addr) (nf cfa : Nat) (Fb : Option Addr) (cfb : Nat) (d : Array Bool) (a : Act) (wc : World) : Prop := ∃ t : Array Value, a = ⟨t, []⟩ ∧ ZbR T0 W0 ba oa ca bb ob cb n i wt Fa nf cfa Fb cfb d t wc

set_option maxRecDepth 100000 in
set_option maxHeartbeats 8000000 in
theorem LexiconCuts_any (vs : Value) (x : Lx.Lexicon) (s : ByteArray) (most : Int) (w : World) (hs : ∃ v0 v1 v2, vs = .agg #[v0, v1, v2, .string s] ∧ RdL w w.heap.size (.agg #[v0, v1, v2]) x) (hsz : s.size ≤ maxLen) :
    Calls Tryd.prog 4 #[vs, .int .i64 most] w (RetBB true w) := by
  obtain ⟨v0, v1, v2, rfl, hr⟩ := hs
  have HR := Lib.hid hr
  obtain ⟨⟨_, _, _, e, ⟨A0, c0, rfl, -⟩, ⟨A1, c1, rfl, -⟩, ⟨A2, c2, rfl, -⟩⟩, -, -, -⟩ := hr
  cases e
  have hs0 : s.size ≤ 9223372036854775807 := by simpa [maxLen] using hsz
  obtain ⟨wA, hwA⟩ : ∃ wA, wA = w.alloc (.cells #[.slice A0 x.entries.length c0, .slice A1 x.endings.length c1, .slice A2 x.clitics.length c2, .string s] 40) := ⟨_, rfl⟩
  have hba : Below w.heap.size w wA := by rw [hwA]; exact (Below.refl _ _).alloc (Nat.le_refl _) _
  have hsa : wA.heap.size = w.heap.size + 1 := by rw [hwA]; simp
  have hX : wA.heap[w.heap.size]? = some (.cells #[.slice A0 x.entries.length c0, .slice A1 x.endings.length c1, .slice A2 x.clitics.length c2, .string s] 40 (0, 0)) := by rw [hwA]; exact heap_alloc_new _ _
  have BXA : Hid (∀ W, Below wA.heap.size wA W → W.cell? ⟨w.heap.size, 0, none⟩ = some (.slice A0 x.entries.length c0) ∧ W.cell? ⟨w.heap.size, 1, none⟩ = some (.slice A1 x.endings.length c1) ∧ W.cell? ⟨w.heap.size, 2, none⟩ = some (.slice A2 x.clitics.length c2) ∧
      W.cell? ⟨w.heap.size, 3, none⟩ = some (.string s)) := Lib.hid fun W hW => by
    have a := (hW.block w.heap.size (by omega)).trans hX
    exact ⟨by simp [World.cell?, a], by simp [World.cell?, a], by simp [World.cell?, a], by simp [World.cell?, a]⟩
  have HBA := Lib.hid hba
  have HGL := Lib.hid (fun (W : World) (hW : Below wA.heap.size wA W) => rdl_keep' (hba.trans (hW.mono hba.size)) HR.out)
  have HFAR := Lib.hid (fun (W : World) (hW : Below wA.heap.size wA W) => far_any _ _ _ x s W (HGL.out W hW) hsz)
  have HWA := Lib.hid hwA
  clear hba hX hsz
  go_enter Tryd.func4, Tryd.ntmps4
  go_wp2_with fail
  rw [← HWA.out]
  obtain ⟨g0, g1, g2, g3⟩ := BXA.out wA (Below.refl _ _)
  go_wp2_with fail
  refine (HFAR.out wA (Below.refl _ _)).mono ?_
  rintro e1 w1 ⟨rfl, hb1⟩
  have H1 := Lib.hid hb1
  clear g0 g1 g2 g3 hb1 hwA HWA hsa
  cases hfar : Lx.farV x s
  · have hsmall : x.entries.length ≤ 210 ∧ x.endings.length ≤ 50 ∧ x.clitics.length ≤ 15 ∧ s.size ≤ 100 := by
      simp [Lx.farV, Lx.largeV, Lx.bigV] at hfar; omega
    obtain ⟨hs1, hs2, hs3, hs4⟩ := hsmall
    clear hfar
    have HCPY := Lib.hid (fun (W : World) (hW : Below wA.heap.size wA W) => rCopy_any _ x W (HGL.out W hW) (by omega) (by omega) (by omega))
    go_wp2_with fail
    refine wp_region_inv2T (fun T0 => ZaI T0 w1 (.agg #[.slice A0 x.entries.length c0, .slice A1 x.endings.length c1, .slice A2 x.clitics.length c2]) w.heap.size s x most (Lx.cutsR x s most) (Lx.cutsN x s most)) (by kernel_rfl) (by kernel_rfl) ?g0a ?gstepa ?genda
    case g0a =>
      have hno : ∀ j, ¬ dn (Array.replicate 12 false) j := by
        intro j; unfold dn; by_cases hj : j < 12 <;> simp [Array.getD, hj]
      have na : ∀ {j : Nat} {Z : Prop}, dn (Array.replicate 12 false) j → Z := fun hj => absurd hj (hno _)
      exact ⟨_, rfl, { bel := (Below.refl _ _).drew, siz := rfl, kp := fun _ _ => rfl, k1 := rfl, k2 := rfl, p0 := na, p1 := na, p2 := fun hj => absurd hj (hno _), p3 := na, p4 := na, p5 := na, p6 := fun hj => absurd hj (hno _), p7 := fun hj => absurd hj (hno _), p8 := fun hj => absurd hj (hno _), p9 := na, p10 := fun hj => absurd hj (hno _), p11 := na }⟩
    case gstepa =>
      intro T0 d a wc i hd hI hi
      obtain ⟨hlt, hnd, hpre⟩ := mem_ready hi
      have hd' : d.size = 12 := hd
      have hin : i < 12 := hlt
      clear hi hd hlt
      obtain ⟨t, rfl, h⟩ := hI
      have hcs : i = 0 ∨ i = 1 ∨ i = 2 ∨ i = 3 ∨ i = 4 ∨ i = 5 ∨ i = 6 ∨ i = 7 ∨ i = 8 ∨ i = 9 ∨ i = 10 ∨ i = 11 := by omega
      rcases hcs with rfl | rfl | rfl | rfl | rfl | rfl | rfl | rfl | rfl | rfl | rfl | rfl
      · have hi : 0 < d.size := by omega
        have q2 := h.k2
        refine wpOp_plain rfl rfl ?_
        go_simp
        exact ⟨_, rfl, { bel := h.bel, siz := (by simpa using h.siz), kp := rk h.kp, k1 := rs h.k1, k2 := rs h.k2, p0 := fun _ => set_same (by have := h.siz; omega), p1 := rp hi h.p1, p2 := rc hi h.p2 (fun v h2 => rdl_keep' (Below.refl _ _) h2), p3 := rp hi h.p3, p4 := rp hi h.p4, p5 := rp hi h.p5, p6 := rc hi h.p6 (fun v h2 => (by obtain ⟨u, e, h3⟩ := h2; exact ⟨u, e, rdg_keep (Below.refl _ _) h3⟩)), p7 := rc hi h.p7 (fun v h2 => (by obtain ⟨u, e, h3⟩ := h2; exact ⟨u, e, rdg_keep (Below.refl _ _) h3⟩)), p8 := rc hi h.p8 (fun v h2 => rdg_keep (Below.refl _ _) h2), p9 := rp hi h.p9, p10 := rc hi h.p10 (fun v h2 => rdg_keep (Below.refl _ _) h2), p11 := rp hi h.p11 }⟩
      · have hi : 1 < d.size := by omega
        have e0 := h.p0 (hpre _ rfl ⟨0, .data⟩ (by simp) rfl)
        obtain ⟨m0, m1, m2, m3⟩ := BXA.out wc (H1.out.trans (h.bel.mono H1.out.size))
        refine wpOp_plain rfl rfl ?_
        go_simp
        exact ⟨_, rfl, { bel := h.bel, siz := (by simpa using h.siz), kp := rk h.kp, k1 := rs h.k1, k2 := rs h.k2, p0 := rp hi h.p0, p1 := fun _ => set_same (by have := h.siz; omega), p2 := rc hi h.p2 (fun v h2 => rdl_keep' (Below.refl _ _) h2), p3 := rp hi h.p3, p4 := rp hi h.p4, p5 := rp hi h.p5, p6 := rc hi h.p6 (fun v h2 => (by obtain ⟨u, e, h3⟩ := h2; exact ⟨u, e, rdg_keep (Below.refl _ _) h3⟩)), p7 := rc hi h.p7 (fun v h2 => (by obtain ⟨u, e, h3⟩ := h2; exact ⟨u, e, rdg_keep (Below.refl _ _) h3⟩)), p8 := rc hi h.p8 (fun v h2 => rdg_keep (Below.refl _ _) h2), p9 := rp hi h.p9, p10 := rc hi h.p10 (fun v h2 => rdg_keep (Below.refl _ _) h2), p11 := rp hi h.p11 }⟩
      · have hi : 2 < d.size := by omega
        have e1 := h.p1 (hpre _ rfl ⟨1, .data⟩ (by simp) rfl)
        refine wpOp_plain rfl rfl ?_
        go_simp
        refine (HCPY.out wc (H1.out.trans (h.bel.mono H1.out.size))).mono ?_
        rintro e1 w1 ⟨v1, rfl, hr1, hb⟩
        exact ⟨_, rfl, { bel := h.bel.trans (hb.mono h.bel.size), siz := (by simpa using h.siz), kp := rk h.kp, k1 := rs h.k1, k2 := rs h.k2, p0 := rp hi h.p0, p1 := rp hi h.p1, p2 := fun _ => ⟨v1, set_same (by have := h.siz; omega), hr1⟩, p3 := rp hi h.p3, p4 := rp hi h.p4, p5 := rp hi h.p5, p6 := rc hi h.p6 (fun v h2 => (by obtain ⟨u, e, h3⟩ := h2; exact ⟨u, e, rdg_keep hb h3⟩)), p7 := rc hi h.p7 (fun v h2 => (by obtain ⟨u, e, h3⟩ := h2; exact ⟨u, e, rdg_keep hb h3⟩)), p8 := rc hi h.p8 (fun v h2 => rdg_keep hb h2), p9 := rp hi h.p9, p10 := rc hi h.p10 (fun v h2 => rdg_keep hb h2), p11 := rp hi h.p11 }⟩
      · have hi : 3 < d.size := by omega
        have q2 := h.k2
        refine wpOp_plain rfl rfl ?_
        go_simp
        exact ⟨_, rfl, { bel := h.bel, siz := (by simpa using h.siz), kp := rk h.kp, k1 := rs h.k1, k2 := rs h.k2, p0 := rp hi h.p0, p1 := rp hi h.p1, p2 := rc hi h.p2 (fun v h2 => rdl_keep' (Below.refl _ _) h2), p3 := fun _ => set_same (by have := h.siz; omega), p4 := rp hi h.p4, p5 := rp hi h.p5, p6 := rc hi h.p6 (fun v h2 => (by obtain ⟨u, e, h3⟩ := h2; exact ⟨u, e, rdg_keep (Below.refl _ _) h3⟩)), p7 := rc hi h.p7 (fun v h2 => (by obtain ⟨u, e, h3⟩ := h2; exact ⟨u, e, rdg_keep (Below.refl _ _) h3⟩)), p8 := rc hi h.p8 (fun v h2 => rdg_keep (Below.refl _ _) h2), p9 := rp hi h.p9, p10 := rc hi h.p10 (fun v h2 => rdg_keep (Below.refl _ _) h2), p11 := rp hi h.p11 }⟩
      · have hi : 4 < d.size := by omega
        have e3 := h.p3 (hpre _ rfl ⟨3, .data⟩ (by simp) rfl)
        obtain ⟨m0, m1, m2, m3⟩ := BXA.out wc (H1.out.trans (h.bel.mono H1.out.size))
        refine wpOp_plain rfl rfl ?_
        go_simp
        exact ⟨_, rfl, { bel := h.bel, siz := (by simpa using h.siz), kp := rk h.kp, k1 := rs h.k1, k2 := rs h.k2, p0 := rp hi h.p0, p1 := rp hi h.p1, p2 := rc hi h.p2 (fun v h2 => rdl_keep' (Below.refl _ _) h2), p3 := rp hi h.p3, p4 := fun _ => set_same (by have := h.siz; omega), p5 := rp hi h.p5, p6 := rc hi h.p6 (fun v h2 => (by obtain ⟨u, e, h3⟩ := h2; exact ⟨u, e, rdg_keep (Below.refl _ _) h3⟩)), p7 := rc hi h.p7 (fun v h2 => (by obtain ⟨u, e, h3⟩ := h2; exact ⟨u, e, rdg_keep (Below.refl _ _) h3⟩)), p8 := rc hi h.p8 (fun v h2 => rdg_keep (Below.refl _ _) h2), p9 := rp hi h.p9, p10 := rc hi h.p10 (fun v h2 => rdg_keep (Below.refl _ _) h2), p11 := rp hi h.p11 }⟩
      · have hi : 5 < d.size := by omega
        have q1 := h.k1
        refine wpOp_plain rfl rfl ?_
        go_simp
        exact ⟨_, rfl, { bel := h.bel, siz := (by simpa using h.siz), kp := rk h.kp, k1 := rs h.k1, k2 := rs h.k2, p0 := rp hi h.p0, p1 := rp hi h.p1, p2 := rc hi h.p2 (fun v h2 => rdl_keep' (Below.refl _ _) h2), p3 := rp hi h.p3, p4 := rp hi h.p4, p5 := fun _ => set_same (by have := h.siz; omega), p6 := rc hi h.p6 (fun v h2 => (by obtain ⟨u, e, h3⟩ := h2; exact ⟨u, e, rdg_keep (Below.refl _ _) h3⟩)), p7 := rc hi h.p7 (fun v h2 => (by obtain ⟨u, e, h3⟩ := h2; exact ⟨u, e, rdg_keep (Below.refl _ _) h3⟩)), p8 := rc hi h.p8 (fun v h2 => rdg_keep (Below.refl _ _) h2), p9 := rp hi h.p9, p10 := rc hi h.p10 (fun v h2 => rdg_keep (Below.refl _ _) h2), p11 := rp hi h.p11 }⟩
      · have hi : 6 < d.size := by omega
        obtain ⟨v2, e2, r2⟩ := h.p2 (hpre _ rfl ⟨2, .data⟩ (by simp) rfl)
        have e4 := h.p4 (hpre _ rfl ⟨4, .data⟩ (by simp) rfl)
        have e5 := h.p5 (hpre _ rfl ⟨5, .data⟩ (by simp) rfl)
        refine wpOp_plain rfl rfl ?_
        go_simp
        refine (CutsF_any x s most v2 wc r2 (by omega)).mono ?_
        rintro e1 w1 ⟨v1, rfl, hf1, hb⟩
        exact ⟨_, rfl, { bel := h.bel.trans (hb.mono h.bel.size), siz := (by simpa using h.siz), kp := rk h.kp, k1 := rs h.k1, k2 := rs h.k2, p0 := rp hi h.p0, p1 := rp hi h.p1, p2 := rc hi h.p2 (fun v h2 => rdl_keep' hb h2), p3 := rp hi h.p3, p4 := rp hi h.p4, p5 := rp hi h.p5, p6 := fun _ => ⟨_, set_same (by have := h.siz; omega), _, rfl, hf1.keep fun b hk => ⟨⟨hk, Nat.zero_le _⟩, rfl⟩⟩, p7 := rc hi h.p7 (fun v h2 => (by obtain ⟨u, e, h3⟩ := h2; exact ⟨u, e, rdg_keep hb h3⟩)), p8 := rc hi h.p8 (fun v h2 => rdg_keep hb h2), p9 := rp hi h.p9, p10 := rc hi h.p10 (fun v h2 => rdg_keep hb h2), p11 := rp hi h.p11 }⟩
      · have hi : 7 < d.size := by omega
        obtain ⟨v6, e6, r6⟩ := h.p6 (hpre _ rfl ⟨6, .data⟩ (by simp) rfl)
        refine wpOp_plain rfl rfl ?_
        go_simp
        exact ⟨_, rfl, { bel := h.bel, siz := (by simpa using h.siz), kp := rk h.kp, k1 := rs h.k1, k2 := rs h.k2, p0 := rp hi h.p0, p1 := rp hi h.p1, p2 := rc hi h.p2 (fun v h2 => rdl_keep' (Below.refl _ _) h2), p3 := rp hi h.p3, p4 := rp hi h.p4, p5 := rp hi h.p5, p6 := rc hi h.p6 (fun v h2 => (by obtain ⟨u, e, h3⟩ := h2; exact ⟨u, e, rdg_keep (Below.refl _ _) h3⟩)), p7 := fun _ => ⟨v6, set_same (by have := h.siz; omega), r6⟩, p8 := rc hi h.p8 (fun v h2 => rdg_keep (Below.refl _ _) h2), p9 := rp hi h.p9, p10 := rc hi h.p10 (fun v h2 => rdg_keep (Below.refl _ _) h2), p11 := rp hi h.p11 }⟩
      · have hi : 8 < d.size := by omega
        obtain ⟨v7, e7, r7⟩ := h.p7 (hpre _ rfl ⟨7, .data⟩ (by simp) rfl)
        obtain ⟨u, rfl, hu⟩ := r7
        refine wpOp_plain rfl rfl ?_
        go_simp
        exact ⟨_, rfl, { bel := h.bel, siz := (by simpa using h.siz), kp := rk h.kp, k1 := rs h.k1, k2 := rs h.k2, p0 := rp hi h.p0, p1 := rp hi h.p1, p2 := rc hi h.p2 (fun v h2 => rdl_keep' (Below.refl _ _) h2), p3 := rp hi h.p3, p4 := rp hi h.p4, p5 := rp hi h.p5, p6 := rc hi h.p6 (fun v h2 => (by obtain ⟨u, e, h3⟩ := h2; exact ⟨u, e, rdg_keep (Below.refl _ _) h3⟩)), p7 := rc hi h.p7 (fun v h2 => (by obtain ⟨u, e, h3⟩ := h2; exact ⟨u, e, rdg_keep (Below.refl _ _) h3⟩)), p8 := fun _ => ⟨u, set_same (by have := h.siz; omega), hu⟩, p9 := rp hi h.p9, p10 := rc hi h.p10 (fun v h2 => rdg_keep (Below.refl _ _) h2), p11 := rp hi h.p11 }⟩
      · have hi : 9 < d.size := by omega
        obtain ⟨v7, e7, r7⟩ := h.p7 (hpre _ rfl ⟨7, .data⟩ (by simp) rfl)
        obtain ⟨u, rfl, hu⟩ := r7
        refine wpOp_plain rfl rfl ?_
        go_simp
        exact ⟨_, rfl, { bel := h.bel, siz := (by simpa using h.siz), kp := rk h.kp, k1 := rs h.k1, k2 := rs h.k2, p0 := rp hi h.p0, p1 := rp hi h.p1, p2 := rc hi h.p2 (fun v h2 => rdl_keep' (Below.refl _ _) h2), p3 := rp hi h.p3, p4 := rp hi h.p4, p5 := rp hi h.p5, p6 := rc hi h.p6 (fun v h2 => (by obtain ⟨u, e, h3⟩ := h2; exact ⟨u, e, rdg_keep (Below.refl _ _) h3⟩)), p7 := rc hi h.p7 (fun v h2 => (by obtain ⟨u, e, h3⟩ := h2; exact ⟨u, e, rdg_keep (Below.refl _ _) h3⟩)), p8 := rc hi h.p8 (fun v h2 => rdg_keep (Below.refl _ _) h2), p9 := fun _ => set_same (by have := h.siz; omega), p10 := rc hi h.p10 (fun v h2 => rdg_keep (Below.refl _ _) h2), p11 := rp hi h.p11 }⟩
      · have hi : 10 < d.size := by omega
        obtain ⟨v8, e8, r8⟩ := h.p8 (hpre _ rfl ⟨8, .data⟩ (by simp) rfl)
        refine wpOp_plain rfl rfl ?_
        go_simp
        exact ⟨_, rfl, { bel := h.bel, siz := (by simpa using h.siz), kp := rk h.kp, k1 := rs h.k1, k2 := rs h.k2, p0 := rp hi h.p0, p1 := rp hi h.p1, p2 := rc hi h.p2 (fun v h2 => rdl_keep' (Below.refl _ _) h2), p3 := rp hi h.p3, p4 := rp hi h.p4, p5 := rp hi h.p5, p6 := rc hi h.p6 (fun v h2 => (by obtain ⟨u, e, h3⟩ := h2; exact ⟨u, e, rdg_keep (Below.refl _ _) h3⟩)), p7 := rc hi h.p7 (fun v h2 => (by obtain ⟨u, e, h3⟩ := h2; exact ⟨u, e, rdg_keep (Below.refl _ _) h3⟩)), p8 := rc hi h.p8 (fun v h2 => rdg_keep (Below.refl _ _) h2), p9 := rp hi h.p9, p10 := fun _ => ⟨v8, set_same (by have := h.siz; omega), r8⟩, p11 := rp hi h.p11 }⟩
      · have hi : 11 < d.size := by omega
        have e9 := h.p9 (hpre _ rfl ⟨9, .data⟩ (by simp) rfl)
        refine wpOp_plain rfl rfl ?_
        go_simp
        exact ⟨_, rfl, { bel := h.bel, siz := (by simpa using h.siz), kp := rk h.kp, k1 := rs h.k1, k2 := rs h.k2, p0 := rp hi h.p0, p1 := rp hi h.p1, p2 := rc hi h.p2 (fun v h2 => rdl_keep' (Below.refl _ _) h2), p3 := rp hi h.p3, p4 := rp hi h.p4, p5 := rp hi h.p5, p6 := rc hi h.p6 (fun v h2 => (by obtain ⟨u, e, h3⟩ := h2; exact ⟨u, e, rdg_keep (Below.refl _ _) h3⟩)), p7 := rc hi h.p7 (fun v h2 => (by obtain ⟨u, e, h3⟩ := h2; exact ⟨u, e, rdg_keep (Below.refl _ _) h3⟩)), p8 := rc hi h.p8 (fun v h2 => rdg_keep (Below.refl _ _) h2), p9 := rp hi h.p9, p10 := rc hi h.p10 (fun v h2 => rdg_keep (Below.refl _ _) h2), p11 := fun _ => set_same (by have := h.siz; omega) }⟩
    case genda =>
      intro d a wc hd hI hall
      obtain ⟨t, rfl, h⟩ := hI
      have hdn : ∀ j, j < 12 → dn d j := fun j hj => dn_all hd hall hj
      have hd : ∀ j, (_ : j < 12 := by decide) → dn d j := fun j hj => hdn j hj
      obtain ⟨v10, e10, r10⟩ := h.p10 (hd 10)
      obtain ⟨v7, e7, r7⟩ := h.p7 (hd 7)
      obtain ⟨v2, e2, r2⟩ := h.p2 (hd 2)
      obtain ⟨v6, e6, r6⟩ := h.p6 (hd 6)
      obtain ⟨v8, e8, r8⟩ := h.p8 (hd 8)
      have hfe := frame_eq [(5, v10), (6, _), (13, v7), (14, _), (15, _), (16, v2), (17, _), (18, _), (19, _), (20, v6), (21, v8), (22, _)] (h.siz.trans rfl) h.kp rfl ⟨e10, h.p11 (hd 11), e7, h.p0 (hd 0), h.p1 (hd 1), e2, h.p3 (hd 3), h.p4 (hd 4), h.p5 (hd 5), e6, e8, h.p9 (hd 9), trivial⟩
      simp only [List.foldl_cons, List.foldl_nil, List.setIfInBounds_toArray, List.set_cons_succ, List.set_cons_zero] at hfe
      have hbc := h.bel
      subst hfe
      clear h hdn hd hall
      have HEa := Lib.hid (H1.out.trans (hbc.mono H1.out.size))
      rename World => w3
      have HRA := Lib.hid r10
      obtain ⟨Ua, Ka, rfl⟩ := r10.form
      obtain ⟨Ua', Ka', rfl⟩ := r8.form
      clear hbc r2 r6 r7 r8
      obtain ⟨g0, g1, g2, g3⟩ := BXA.out w3 HEa.out
      go_wp2_with fail
      refine (rCutsF_any x s most _ w3 (HGL.out w3 HEa.out) (by omega)).mono ?_
      rintro e4 w4 ⟨vb, rfl, hrb, hb4⟩
      obtain ⟨Ub, Kb, rfl⟩ := hrb.form
      have HRB := Lib.hid hrb
      have H4 := Lib.hid hb4
      have H4a := Lib.hid (HEa.out.trans (hb4.mono HEa.out.size))
      have HFI := Lib.hid (Lx.cutsR_fine x s most)
      obtain ⟨n, hn⟩ : ∃ n, n = (Lx.cutsR x s most).length := ⟨_, rfl⟩
      have HN := Lib.hid hn
      rw [← hn]
      have hn64 : n ≤ 64 := by rw [hn]; exact HFI.out.1
      clear hb4 hrb g0 g1 g2 g3 hn r10
      go_wp2_with fail
      go_loopg [9] n (fun g i wr => ∃ k : Nat, k ≤ n ∧ g = n - k ∧ i = .int .i64 k ∧ Below w4.heap.size w4 wr)
      case atStart => exact ⟨0, Nat.zero_le _, rfl, rfl, Below.refl _ _⟩
      case round =>
        obtain ⟨i, hi, rfl, rfl, hbr⟩ := hrel
        have HBR := Lib.hid hbr
        by_cases hlt : i < n
        · have hltI : (i : Int) < (n : Int) := by omega
          obtain ⟨c, hc⟩ : ∃ c, (Lx.cutsR x s most)[i]? = some c := ⟨_, List.getElem?_eq_getElem (by rw [← HN.out]; exact hlt)⟩
          have ha := HRA.out.keep (w' := wr) (ok' := fun b => b < wr.heap.size) fun b hb => ⟨by have := hbr.size; have := H4.out.size; omega, (hbr.block b (by have := H4.out.size; omega)).trans (H4.out.block b hb.1)⟩
          have hb := HRB.out.keep (w' := wr) (ok' := fun b => b < wr.heap.size) fun b hb => ⟨by have := hbr.size; omega, hbr.block b hb⟩
          obtain ⟨ba, oa, va, hUa, hba, ka0, ka1, hfa⟩ := rdg_cut ha hc
          obtain ⟨bb, ob, vb, hUb, hbb, kb0, kb1, hfb⟩ := rdg_cut hb hc
          subst hUa
          subst hUb
          obtain ⟨Fa, cfa, rfl⟩ := hfa.form
          obtain ⟨Fb, cfb, rfl⟩ := hfb.form
          obtain ⟨nf, hnf⟩ : ∃ nf, nf = c.1.length := ⟨_, rfl⟩
          rw [← hnf] at ka0 kb0
          have CL : Hid (∀ W : World, Below wr.heap.size wr W → W.cell? ⟨ba, oa + i * 2, none⟩ = some (.slice Fa nf cfa) ∧ W.cell? ⟨ba, oa + i * 2 + 1, none⟩ = some (.int .i64 c.2) ∧ W.cell? ⟨bb, ob + i * 2, none⟩ = some (.slice Fb nf cfb) ∧ W.cell? ⟨bb, ob + i * 2 + 1, none⟩ = some (.int .i64 c.2)) := Lib.hid fun W hW =>
            ⟨(hW.cell (p := ⟨ba, _, none⟩) hba).trans ka0, (hW.cell (p := ⟨ba, _, none⟩) hba).trans ka1, (hW.cell (p := ⟨bb, _, none⟩) hbb).trans kb0, (hW.cell (p := ⟨bb, _, none⟩) hbb).trans kb1⟩
          have HSF : Hid (∀ W : World, Below wr.heap.size wr W → Calls Tryd.prog 23 #[.slice Fa nf cfa, .slice Fb nf cfb] W (RetBB true W)) := Lib.hid fun W hW => by
            have hsm := HFI.out.2 c (List.mem_of_getElem? hc)
            have := SameForms_any _ _ c.1 c.1 W (fun b => b < W.heap.size) (fun b hb => hb) (hfa.keep fun b hb => ⟨Nat.lt_of_lt_of_le hb hW.size, hW.block b hb⟩) (hfb.keep fun b hb => ⟨Nat.lt_of_lt_of_le hb hW.size, hW.block b hb⟩) hsm hsm
            rw [← hnf] at this
            simpa using this
          clear hbr ha hb ka0 ka1 kb0 kb1 hfa hfb hnf hc hlt
          go_upto_region 10 with fail
          refine wp_region_inv2T (fun T0 => ZbI T0 wr ba oa Ka bb ob Kb n i c.2 Fa nf cfa Fb cfb) (by kernel_rfl) (by kernel_rfl) ?g0b ?gstepb ?gendb
          case g0b =>
            have hno : ∀ j, ¬ dn (Array.replicate 25 false) j := by
              intro j; unfold dn; by_cases hj : j < 25 <;> simp [Array.getD, hj]
            have na : ∀ {j : Nat} {Z : Prop}, dn (Array.replicate 25 false) j → Z := fun hj => absurd hj (hno _)
            exact ⟨_, rfl, { bel := (Below.refl _ _).drew, siz := rfl, kp := fun _ _ => rfl, k5 := rfl, k7 := rfl, k9 := rfl, p0 := na, p1 := na, p2 := na, p3 := na, p4 := na, p5 := na, p6 := na, p7 := na, p8 := na, p9 := na, p10 := na, p11 := na, p12 := na, p13 := na, p14 := na, p15 := na, p16 := na, p17 := na, p18 := na, p19 := na, p20 := na, p21 := na, p22 := na, p23 := na, p24 := na }⟩
          case gstepb =>
            intro T0 d a wc i hd hI hi
            obtain ⟨hlt, hnd, hpre⟩ := mem_ready hi
            have hd' : d.size = 25 := hd
            have hin : i < 25 := hlt
            clear hi hd hlt
            obtain ⟨t, rfl, h⟩ := hI
            have hcs : i = 0 ∨ i = 1 ∨ i = 2 ∨ i = 3 ∨ i = 4 ∨ i = 5 ∨ i = 6 ∨ i = 7 ∨ i = 8 ∨ i = 9 ∨ i = 10 ∨ i = 11 ∨ i = 12 ∨ i = 13 ∨ i = 14 ∨ i = 15 ∨ i = 16 ∨ i = 17 ∨ i = 18 ∨ i = 19 ∨ i = 20 ∨ i = 21 ∨ i = 22 ∨ i = 23 ∨ i = 24 := by omega
            rcases hcs with rfl | rfl | rfl | rfl | rfl | rfl | rfl | rfl | rfl | rfl | rfl | rfl | rfl | rfl | rfl | rfl | rfl | rfl | rfl | rfl | rfl | rfl | rfl | rfl | rfl
            · have hi : 0 < d.size := by omega
              have q5 := h.k5
              refine wpOp_plain rfl rfl ?_
              go_simp
              exact ⟨_, rfl, { bel := h.bel, siz := (by simpa using h.siz), kp := rk h.kp, k5 := rs h.k5, k7 := rs h.k7, k9 := rs h.k9, p0 := fun _ => set_same (by have := h.siz; omega), p1 := rp hi h.p1, p2 := rp hi h.p2, p3 := rp hi h.p3, p4 := rp hi h.p4, p5 := rp hi h.p5, p6 := rp hi h.p6, p7 := rp hi h.p7, p8 := rp hi h.p8, p9 := rp hi h.p9, p10 := rp hi h.p10, p11 := rp hi h.p11, p12 := rp hi h.p12, p13 := rp hi h.p13, p14 := rp hi h.p14, p15 := rp hi h.p15, p16 := rp hi h.p16, p17 := rp hi h.p17, p18 := rp hi h.p18, p19 := rp hi h.p19, p20 := rp hi h.p20, p21 := rp hi h.p21, p22 := rp hi h.p22, p23 := rp hi h.p23, p24 := rp hi h.p24 }⟩
            · have hi : 1 < d.size := by omega
              have q9 := h.k9
              refine wpOp_plain rfl rfl ?_
              go_simp
              exact ⟨_, rfl, { bel := h.bel, siz := (by simpa using h.siz), kp := rk h.kp, k5 := rs h.k5, k7 := rs h.k7, k9 := rs h.k9, p0 := rp hi h.p0, p1 := fun _ => set_same (by have := h.siz; omega), p2 := rp hi h.p2, p3 := rp hi h.p3, p4 := rp hi h.p4, p5 := rp hi h.p5, p6 := rp hi h.p6, p7 := rp hi h.p7, p8 := rp hi h.p8, p9 := rp hi h.p9, p10 := rp hi h.p10, p11 := rp hi h.p11, p12 := rp hi h.p12, p13 := rp hi h.p13, p14 := rp hi h.p14, p15 := rp hi h.p15, p16 := rp hi h.p16, p17 := rp hi h.p17, p18 := rp hi h.p18, p19 := rp hi h.p19, p20 := rp hi h.p20, p21 := rp hi h.p21, p22 := rp hi h.p22, p23 := rp hi h.p23, p24 := rp hi h.p24 }⟩
            · have hi : 2 < d.size := by omega
              have e0 := h.p0 (hpre _ rfl ⟨0, .data⟩ (by simp) rfl)
              have e1 := h.p1 (hpre _ rfl ⟨1, .data⟩ (by simp) rfl)
              have hx1 : (i : Int) < (n : Int) := by omega
              refine wpOp_plain rfl rfl ?_
              go_simp
              exact ⟨_, rfl, { bel := h.bel, siz := (by simpa using h.siz), kp := rk h.kp, k5 := rs h.k5, k7 := rs h.k7, k9 := rs h.k9, p0 := rp hi h.p0, p1 := rp hi h.p1, p2 := fun _ => set_same (by have := h.siz; omega), p3 := rp hi h.p3, p4 := rp hi h.p4, p5 := rp hi h.p5, p6 := rp hi h.p6, p7 := rp hi h.p7, p8 := rp hi h.p8, p9 := rp hi h.p9, p10 := rp hi h.p10, p11 := rp hi h.p11, p12 := rp hi h.p12, p13 := rp hi h.p13, p14 := rp hi h.p14, p15 := rp hi h.p15, p16 := rp hi h.p16, p17 := rp hi h.p17, p18 := rp hi h.p18, p19 := rp hi h.p19, p20 := rp hi h.p20, p21 := rp hi h.p21, p22 := rp hi h.p22, p23 := rp hi h.p23, p24 := rp hi h.p24 }⟩
            · have hi : 3 < d.size := by omega
              have e2 := h.p2 (hpre _ rfl ⟨2, .data⟩ (by simp) rfl)
              refine wpOp_plain rfl rfl ?_
              go_simp
              exact ⟨_, rfl, { bel := h.bel, siz := (by simpa using h.siz), kp := rk h.kp, k5 := rs h.k5, k7 := rs h.k7, k9 := rs h.k9, p0 := rp hi h.p0, p1 := rp hi h.p1, p2 := rp hi h.p2, p3 := fun _ => set_same (by have := h.siz; omega), p4 := rp hi h.p4, p5 := rp hi h.p5, p6 := rp hi h.p6, p7 := rp hi h.p7, p8 := rp hi h.p8, p9 := rp hi h.p9, p10 := rp hi h.p10, p11 := rp hi h.p11, p12 := rp hi h.p12, p13 := rp hi h.p13, p14 := rp hi h.p14, p15 := rp hi h.p15, p16 := rp hi h.p16, p17 := rp hi h.p17, p18 := rp hi h.p18, p19 := rp hi h.p19, p20 := rp hi h.p20, p21 := rp hi h.p21, p22 := rp hi h.p22, p23 := rp hi h.p23, p24 := rp hi h.p24 }⟩
            · have hi : 4 < d.size := by omega
              have e3 := h.p3 (hpre _ rfl ⟨3, .data⟩ (by simp) rfl)
              obtain ⟨k0, k1, k2, k3⟩ := CL.out wc h.bel
              refine wpOp_plain rfl rfl ?_
              go_simp
              exact ⟨_, rfl, { bel := h.bel, siz := (by simpa using h.siz), kp := rk h.kp, k5 := rs h.k5, k7 := rs h.k7, k9 := rs h.k9, p0 := rp hi h.p0, p1 := rp hi h.p1, p2 := rp hi h.p2, p3 := rp hi h.p3, p4 := fun _ => set_same (by have := h.siz; omega), p5 := rp hi h.p5, p6 := rp hi h.p6, p7 := rp hi h.p7, p8 := rp hi h.p8, p9 := rp hi h.p9, p10 := rp hi h.p10, p11 := rp hi h.p11, p12 := rp hi h.p12, p13 := rp hi h.p13, p14 := rp hi h.p14, p15 := rp hi h.p15, p16 := rp hi h.p16, p17 := rp hi h.p17, p18 := rp hi h.p18, p19 := rp hi h.p19, p20 := rp hi h.p20, p21 := rp hi h.p21, p22 := rp hi h.p22, p23 := rp hi h.p23, p24 := rp hi h.p24 }⟩
            · have hi : 5 < d.size := by omega
              have q7 := h.k7
              refine wpOp_plain rfl rfl ?_
              go_simp
              exact ⟨_, rfl, { bel := h.bel, siz := (by simpa using h.siz), kp := rk h.kp, k5 := rs h.k5, k7 := rs h.k7, k9 := rs h.k9, p0 := rp hi h.p0, p1 := rp hi h.p1, p2 := rp hi h.p2, p3 := rp hi h.p3, p4 := rp hi h.p4, p5 := fun _ => set_same (by have := h.siz; omega), p6 := rp hi h.p6, p7 := rp hi h.p7, p8 := rp hi h.p8, p9 := rp hi h.p9, p10 := rp hi h.p10, p11 := rp hi h.p11, p12 := rp hi h.p12, p13 := rp hi h.p13, p14 := rp hi h.p14, p15 := rp hi h.p15, p16 := rp hi h.p16, p17 := rp hi h.p17, p18 := rp hi h.p18, p19 := rp hi h.p19, p20 := rp hi h.p20, p21 := rp hi h.p21, p22 := rp hi h.p22, p23 := rp hi h.p23, p24 := rp hi h.p24 }⟩
            · have hi : 6 < d.size := by omega
              have q9 := h.k9
              refine wpOp_plain rfl rfl ?_
              go_simp
              exact ⟨_, rfl, { bel := h.bel, siz := (by simpa using h.siz), kp := rk h.kp, k5 := rs h.k5, k7 := rs h.k7, k9 := rs h.k9, p0 := rp hi h.p0, p1 := rp hi h.p1, p2 := rp hi h.p2, p3 := rp hi h.p3, p4 := rp hi h.p4, p5 := rp hi h.p5, p6 := fun _ => set_same (by have := h.siz; omega), p7 := rp hi h.p7, p8 := rp hi h.p8, p9 := rp hi h.p9, p10 := rp hi h.p10, p11 := rp hi h.p11, p12 := rp hi h.p12, p13 := rp hi h.p13, p14 := rp hi h.p14, p15 := rp hi h.p15, p16 := rp hi h.p16, p17 := rp hi h.p17, p18 := rp hi h.p18, p19 := rp hi h.p19, p20 := rp hi h.p20, p21 := rp hi h.p21, p22 := rp hi h.p22, p23 := rp hi h.p23, p24 := rp hi h.p24 }⟩
            · have hi : 7 < d.size := by omega
              have e5 := h.p5 (hpre _ rfl ⟨5, .data⟩ (by simp) rfl)
              have e6 := h.p6 (hpre _ rfl ⟨6, .data⟩ (by simp) rfl)
              have hx1 : (i : Int) < (n : Int) := by omega
              refine wpOp_plain rfl rfl ?_
              go_simp
              exact ⟨_, rfl, { bel := h.bel, siz := (by simpa using h.siz), kp := rk h.kp, k5 := rs h.k5, k7 := rs h.k7, k9 := rs h.k9, p0 := rp hi h.p0, p1 := rp hi h.p1, p2 := rp hi h.p2, p3 := rp hi h.p3, p4 := rp hi h.p4, p5 := rp hi h.p5, p6 := rp hi h.p6, p7 := fun _ => set_same (by have := h.siz; omega), p8 := rp hi h.p8, p9 := rp hi h.p9, p10 := rp hi h.p10, p11 := rp hi h.p11, p12 := rp hi h.p12, p13 := rp hi h.p13, p14 := rp hi h.p14, p15 := rp hi h.p15, p16 := rp hi h.p16, p17 := rp hi h.p17, p18 := rp hi h.p18, p19 := rp hi h.p19, p20 := rp hi h.p20, p21 := rp hi h.p21, p22 := rp hi h.p22, p23 := rp hi h.p23, p24 := rp hi h.p24 }⟩
            · have hi : 8 < d.size := by omega
              have e7 := h.p7 (hpre _ rfl ⟨7, .data⟩ (by simp) rfl)
              refine wpOp_plain rfl rfl ?_
              go_simp
              exact ⟨_, rfl, { bel := h.bel, siz := (by simpa using h.siz), kp := rk h.kp, k5 := rs h.k5, k7 := rs h.k7, k9 := rs h.k9, p0 := rp hi h.p0, p1 := rp hi h.p1, p2 := rp hi h.p2, p3 := rp hi h.p3, p4 := rp hi h.p4, p5 := rp hi h.p5, p6 := rp hi h.p6, p7 := rp hi h.p7, p8 := fun _ => set_same (by have := h.siz; omega), p9 := rp hi h.p9, p10 := rp hi h.p10, p11 := rp hi h.p11, p12 := rp hi h.p12, p13 := rp hi h.p13, p14 := rp hi h.p14, p15 := rp hi h.p15, p16 := rp hi h.p16, p17 := rp hi h.p17, p18 := rp hi h.p18, p19 := rp hi h.p19, p20 := rp hi h.p20, p21 := rp hi h.p21, p22 := rp hi h.p22, p23 := rp hi h.p23, p24 := rp hi h.p24 }⟩
            · have hi : 9 < d.size := by omega
              have e8 := h.p8 (hpre _ rfl ⟨8, .data⟩ (by simp) rfl)
              obtain ⟨k0, k1, k2, k3⟩ := CL.out wc h.bel
              refine wpOp_plain rfl rfl ?_
              go_simp
              exact ⟨_, rfl, { bel := h.bel, siz := (by simpa using h.siz), kp := rk h.kp, k5 := rs h.k5, k7 := rs h.k7, k9 := rs h.k9, p0 := rp hi h.p0, p1 := rp hi h.p1, p2 := rp hi h.p2, p3 := rp hi h.p3, p4 := rp hi h.p4, p5 := rp hi h.p5, p6 := rp hi h.p6, p7 := rp hi h.p7, p8 := rp hi h.p8, p9 := fun _ => set_same (by have := h.siz; omega), p10 := rp hi h.p10, p11 := rp hi h.p11, p12 := rp hi h.p12, p13 := rp hi h.p13, p14 := rp hi h.p14, p15 := rp hi h.p15, p16 := rp hi h.p16, p17 := rp hi h.p17, p18 := rp hi h.p18, p19 := rp hi h.p19, p20 := rp hi h.p20, p21 := rp hi h.p21, p22 := rp hi h.p22, p23 := rp hi h.p23, p24 := rp hi h.p24 }⟩
            · have hi : 10 < d.size := by omega
              have e4 := h.p4 (hpre _ rfl ⟨4, .data⟩ (by simp) rfl)
              have e9 := h.p9 (hpre _ rfl ⟨9, .data⟩ (by simp) rfl)
              refine wpOp_plain rfl rfl ?_
              go_simp
              exact ⟨_, rfl, { bel := h.bel, siz := (by simpa using h.siz), kp := rk h.kp, k5 := rs h.k5, k7 := rs h.k7, k9 := rs h.k9, p0 := rp hi h.p0, p1 := rp hi h.p1, p2 := rp hi h.p2, p3 := rp hi h.p3, p4 := rp hi h.p4, p5 := rp hi h.p5, p6 := rp hi h.p6, p7 := rp hi h.p7, p8 := rp hi h.p8, p9 := rp hi h.p9, p10 := fun _ => set_same (by have := h.siz; omega), p11 := rp hi h.p11, p12 := rp hi h.p12, p13 := rp hi h.p13, p14 := rp hi h.p14, p15 := rp hi h.p15, p16 := rp hi h.p16, p17 := rp hi h.p17, p18 := rp hi h.p18, p19 := rp hi h.p19, p20 := rp hi h.p20, p21 := rp hi h.p21, p22 := rp hi h.p22, p23 := rp hi h.p23, p24 := rp hi h.p24 }⟩
            · have hi : 11 < d.size := by omega
              have e10 := h.p10 (hpre _ rfl ⟨10, .data⟩ (by simp) rfl)
              refine wpOp_plain rfl rfl ?_
              go_simp
              exact ⟨_, rfl, { bel := h.bel, siz := (by simpa using h.siz), kp := rk h.kp, k5 := rs h.k5, k7 := rs h.k7, k9 := rs h.k9, p0 := rp hi h.p0, p1 := rp hi h.p1, p2 := rp hi h.p2, p3 := rp hi h.p3, p4 := rp hi h.p4, p5 := rp hi h.p5, p6 := rp hi h.p6, p7 := rp hi h.p7, p8 := rp hi h.p8, p9 := rp hi h.p9, p10 := rp hi h.p10, p11 := fun _ => set_same (by have := h.siz; omega), p12 := rp hi h.p12, p13 := rp hi h.p13, p14 := rp hi h.p14, p15 := rp hi h.p15, p16 := rp hi h.p16, p17 := rp hi h.p17, p18 := rp hi h.p18, p19 := rp hi h.p19, p20 := rp hi h.p20, p21 := rp hi h.p21, p22 := rp hi h.p22, p23 := rp hi h.p23, p24 := rp hi h.p24 }⟩
            · have hi : 12 < d.size := by omega
              have q5 := h.k5
              refine wpOp_guard rfl (wanted_of (d := 59) rfl rfl (h.p11 (hpre _ rfl ⟨11, .guard⟩ (by simp) rfl))) ?_
              go_simp
              exact ⟨_, rfl, { bel := h.bel, siz := (by simpa using h.siz), kp := rk h.kp, k5 := rs h.k5, k7 := rs h.k7, k9 := rs h.k9, p0 := rp hi h.p0, p1 := rp hi h.p1, p2 := rp hi h.p2, p3 := rp hi h.p3, p4 := rp hi h.p4, p5 := rp hi h.p5, p6 := rp hi h.p6, p7 := rp hi h.p7, p8 := rp hi h.p8, p9 := rp hi h.p9, p10 := rp hi h.p10, p11 := rp hi h.p11, p12 := fun _ => set_same (by have := h.siz; omega), p13 := rp hi h.p13, p14 := rp hi h.p14, p15 := rp hi h.p15, p16 := rp hi h.p16, p17 := rp hi h.p17, p18 := rp hi h.p18, p19 := rp hi h.p19, p20 := rp hi h.p20, p21 := rp hi h.p21, p22 := rp hi h.p22, p23 := rp hi h.p23, p24 := rp hi h.p24 }⟩
            · have hi : 13 < d.size := by omega
              have q9 := h.k9
              refine wpOp_guard rfl (wanted_of (d := 59) rfl rfl (h.p11 (hpre _ rfl ⟨11, .guard⟩ (by simp) rfl))) ?_
              go_simp
              exact ⟨_, rfl, { bel := h.bel, siz := (by simpa using h.siz), kp := rk h.kp, k5 := rs h.k5, k7 := rs h.k7, k9 := rs h.k9, p0 := rp hi h.p0, p1 := rp hi h.p1, p2 := rp hi h.p2, p3 := rp hi h.p3, p4 := rp hi h.p4, p5 := rp hi h.p5, p6 := rp hi h.p6, p7 := rp hi h.p7, p8 := rp hi h.p8, p9 := rp hi h.p9, p10 := rp hi h.p10, p11 := rp hi h.p11, p12 := rp hi h.p12, p13 := fun _ => set_same (by have := h.siz; omega), p14 := rp hi h.p14, p15 := rp hi h.p15, p16 := rp hi h.p16, p17 := rp hi h.p17, p18 := rp hi h.p18, p19 := rp hi h.p19, p20 := rp hi h.p20, p21 := rp hi h.p21, p22 := rp hi h.p22, p23 := rp hi h.p23, p24 := rp hi h.p24 }⟩
            · have hi : 14 < d.size := by omega
              have e12 := h.p12 (hpre _ rfl ⟨12, .data⟩ (by simp) rfl)
              have e13 := h.p13 (hpre _ rfl ⟨13, .data⟩ (by simp) rfl)
              have hx1 : (i : Int) < (n : Int) := by omega
              refine wpOp_guard rfl (wanted_of (d := 59) rfl rfl (h.p11 (hpre _ rfl ⟨11, .guard⟩ (by simp) rfl))) ?_
              go_simp
              exact ⟨_, rfl, { bel := h.bel, siz := (by simpa using h.siz), kp := rk h.kp, k5 := rs h.k5, k7 := rs h.k7, k9 := rs h.k9, p0 := rp hi h.p0, p1 := rp hi h.p1, p2 := rp hi h.p2, p3 := rp hi h.p3, p4 := rp hi h.p4, p5 := rp hi h.p5, p6 := rp hi h.p6, p7 := rp hi h.p7, p8 := rp hi h.p8, p9 := rp hi h.p9, p10 := rp hi h.p10, p11 := rp hi h.p11, p12 := rp hi h.p12, p13 := rp hi h.p13, p14 := fun _ => set_same (by have := h.siz; omega), p15 := rp hi h.p15, p16 := rp hi h.p16, p17 := rp hi h.p17, p18 := rp hi h.p18, p19 := rp hi h.p19, p20 := rp hi h.p20, p21 := rp hi h.p21, p22 := rp hi h.p22, p23 := rp hi h.p23, p24 := rp hi h.p24 }⟩
            · have hi : 15 < d.size := by omega
              have e14 := h.p14 (hpre _ rfl ⟨14, .data⟩ (by simp) rfl)
              refine wpOp_guard rfl (wanted_of (d := 59) rfl rfl (h.p11 (hpre _ rfl ⟨11, .guard⟩ (by simp) rfl))) ?_
              go_simp
              exact ⟨_, rfl, { bel := h.bel, siz := (by simpa using h.siz), kp := rk h.kp, k5 := rs h.k5, k7 := rs h.k7, k9 := rs h.k9, p0 := rp hi h.p0, p1 := rp hi h.p1, p2 := rp hi h.p2, p3 := rp hi h.p3, p4 := rp hi h.p4, p5 := rp hi h.p5, p6 := rp hi h.p6, p7 := rp hi h.p7, p8 := rp hi h.p8, p9 := rp hi h.p9, p10 := rp hi h.p10, p11 := rp hi h.p11, p12 := rp hi h.p12, p13 := rp hi h.p13, p14 := rp hi h.p14, p15 := fun _ => set_same (by have := h.siz; omega), p16 := rp hi h.p16, p17 := rp hi h.p17, p18 := rp hi h.p18, p19 := rp hi h.p19, p20 := rp hi h.p20, p21 := rp hi h.p21, p22 := rp hi h.p22, p23 := rp hi h.p23, p24 := rp hi h.p24 }⟩
            · have hi : 16 < d.size := by omega
              have e15 := h.p15 (hpre _ rfl ⟨15, .data⟩ (by simp) rfl)
              obtain ⟨k0, k1, k2, k3⟩ := CL.out wc h.bel
              refine wpOp_guard rfl (wanted_of (d := 59) rfl rfl (h.p11 (hpre _ rfl ⟨11, .guard⟩ (by simp) rfl))) ?_
              go_simp
              exact ⟨_, rfl, { bel := h.bel, siz := (by simpa using h.siz), kp := rk h.kp, k5 := rs h.k5, k7 := rs h.k7, k9 := rs h.k9, p0 := rp hi h.p0, p1 := rp hi h.p1, p2 := rp hi h.p2, p3 := rp hi h.p3, p4 := rp hi h.p4, p5 := rp hi h.p5, p6 := rp hi h.p6, p7 := rp hi h.p7, p8 := rp hi h.p8, p9 := rp hi h.p9, p10 := rp hi h.p10, p11 := rp hi h.p11, p12 := rp hi h.p12, p13 := rp hi h.p13, p14 := rp hi h.p14, p15 := rp hi h.p15, p16 := fun _ => set_same (by have := h.siz; omega), p17 := rp hi h.p17, p18 := rp hi h.p18, p19 := rp hi h.p19, p20 := rp hi h.p20, p21 := rp hi h.p21, p22 := rp hi h.p22, p23 := rp hi h.p23, p24 := rp hi h.p24 }⟩
            · have hi : 17 < d.size := by omega
              have q7 := h.k7
              refine wpOp_guard rfl (wanted_of (d := 59) rfl rfl (h.p11 (hpre _ rfl ⟨11, .guard⟩ (by simp) rfl))) ?_
              go_simp
              exact ⟨_, rfl, { bel := h.bel, siz := (by simpa using h.siz), kp := rk h.kp, k5 := rs h.k5, k7 := rs h.k7, k9 := rs h.k9, p0 := rp hi h.p0, p1 := rp hi h.p1, p2 := rp hi h.p2, p3 := rp hi h.p3, p4 := rp hi h.p4, p5 := rp hi h.p5, p6 := rp hi h.p6, p7 := rp hi h.p7, p8 := rp hi h.p8, p9 := rp hi h.p9, p10 := rp hi h.p10, p11 := rp hi h.p11, p12 := rp hi h.p12, p13 := rp hi h.p13, p14 := rp hi h.p14, p15 := rp hi h.p15, p16 := rp hi h.p16, p17 := fun _ => set_same (by have := h.siz; omega), p18 := rp hi h.p18, p19 := rp hi h.p19, p20 := rp hi h.p20, p21 := rp hi h.p21, p22 := rp hi h.p22, p23 := rp hi h.p23, p24 := rp hi h.p24 }⟩
            · have hi : 18 < d.size := by omega
              have q9 := h.k9
              refine wpOp_guard rfl (wanted_of (d := 59) rfl rfl (h.p11 (hpre _ rfl ⟨11, .guard⟩ (by simp) rfl))) ?_
              go_simp
              exact ⟨_, rfl, { bel := h.bel, siz := (by simpa using h.siz), kp := rk h.kp, k5 := rs h.k5, k7 := rs h.k7, k9 := rs h.k9, p0 := rp hi h.p0, p1 := rp hi h.p1, p2 := rp hi h.p2, p3 := rp hi h.p3, p4 := rp hi h.p4, p5 := rp hi h.p5, p6 := rp hi h.p6, p7 := rp hi h.p7, p8 := rp hi h.p8, p9 := rp hi h.p9, p10 := rp hi h.p10, p11 := rp hi h.p11, p12 := rp hi h.p12, p13 := rp hi h.p13, p14 := rp hi h.p14, p15 := rp hi h.p15, p16 := rp hi h.p16, p17 := rp hi h.p17, p18 := fun _ => set_same (by have := h.siz; omega), p19 := rp hi h.p19, p20 := rp hi h.p20, p21 := rp hi h.p21, p22 := rp hi h.p22, p23 := rp hi h.p23, p24 := rp hi h.p24 }⟩
            · have hi : 19 < d.size := by omega
              have e17 := h.p17 (hpre _ rfl ⟨17, .data⟩ (by simp) rfl)
              have e18 := h.p18 (hpre _ rfl ⟨18, .data⟩ (by simp) rfl)
              have hx1 : (i : Int) < (n : Int) := by omega
              refine wpOp_guard rfl (wanted_of (d := 59) rfl rfl (h.p11 (hpre _ rfl ⟨11, .guard⟩ (by simp) rfl))) ?_
              go_simp
              exact ⟨_, rfl, { bel := h.bel, siz := (by simpa using h.siz), kp := rk h.kp, k5 := rs h.k5, k7 := rs h.k7, k9 := rs h.k9, p0 := rp hi h.p0, p1 := rp hi h.p1, p2 := rp hi h.p2, p3 := rp hi h.p3, p4 := rp hi h.p4, p5 := rp hi h.p5, p6 := rp hi h.p6, p7 := rp hi h.p7, p8 := rp hi h.p8, p9 := rp hi h.p9, p10 := rp hi h.p10, p11 := rp hi h.p11, p12 := rp hi h.p12, p13 := rp hi h.p13, p14 := rp hi h.p14, p15 := rp hi h.p15, p16 := rp hi h.p16, p17 := rp hi h.p17, p18 := rp hi h.p18, p19 := fun _ => set_same (by have := h.siz; omega), p20 := rp hi h.p20, p21 := rp hi h.p21, p22 := rp hi h.p22, p23 := rp hi h.p23, p24 := rp hi h.p24 }⟩
            · have hi : 20 < d.size := by omega
              have e19 := h.p19 (hpre _ rfl ⟨19, .data⟩ (by simp) rfl)
              refine wpOp_guard rfl (wanted_of (d := 59) rfl rfl (h.p11 (hpre _ rfl ⟨11, .guard⟩ (by simp) rfl))) ?_
              go_simp
              exact ⟨_, rfl, { bel := h.bel, siz := (by simpa using h.siz), kp := rk h.kp, k5 := rs h.k5, k7 := rs h.k7, k9 := rs h.k9, p0 := rp hi h.p0, p1 := rp hi h.p1, p2 := rp hi h.p2, p3 := rp hi h.p3, p4 := rp hi h.p4, p5 := rp hi h.p5, p6 := rp hi h.p6, p7 := rp hi h.p7, p8 := rp hi h.p8, p9 := rp hi h.p9, p10 := rp hi h.p10, p11 := rp hi h.p11, p12 := rp hi h.p12, p13 := rp hi h.p13, p14 := rp hi h.p14, p15 := rp hi h.p15, p16 := rp hi h.p16, p17 := rp hi h.p17, p18 := rp hi h.p18, p19 := rp hi h.p19, p20 := fun _ => set_same (by have := h.siz; omega), p21 := rp hi h.p21, p22 := rp hi h.p22, p23 := rp hi h.p23, p24 := rp hi h.p24 }⟩
            · have hi : 21 < d.size := by omega
              have e20 := h.p20 (hpre _ rfl ⟨20, .data⟩ (by simp) rfl)
              obtain ⟨k0, k1, k2, k3⟩ := CL.out wc h.bel
              refine wpOp_guard rfl (wanted_of (d := 59) rfl rfl (h.p11 (hpre _ rfl ⟨11, .guard⟩ (by simp) rfl))) ?_
              go_simp
              exact ⟨_, rfl, { bel := h.bel, siz := (by simpa using h.siz), kp := rk h.kp, k5 := rs h.k5, k7 := rs h.k7, k9 := rs h.k9, p0 := rp hi h.p0, p1 := rp hi h.p1, p2 := rp hi h.p2, p3 := rp hi h.p3, p4 := rp hi h.p4, p5 := rp hi h.p5, p6 := rp hi h.p6, p7 := rp hi h.p7, p8 := rp hi h.p8, p9 := rp hi h.p9, p10 := rp hi h.p10, p11 := rp hi h.p11, p12 := rp hi h.p12, p13 := rp hi h.p13, p14 := rp hi h.p14, p15 := rp hi h.p15, p16 := rp hi h.p16, p17 := rp hi h.p17, p18 := rp hi h.p18, p19 := rp hi h.p19, p20 := rp hi h.p20, p21 := fun _ => set_same (by have := h.siz; omega), p22 := rp hi h.p22, p23 := rp hi h.p23, p24 := rp hi h.p24 }⟩
            · have hi : 22 < d.size := by omega
              have e16 := h.p16 (hpre _ rfl ⟨16, .data⟩ (by simp) rfl)
              have e21 := h.p21 (hpre _ rfl ⟨21, .data⟩ (by simp) rfl)
              refine wpOp_guard rfl (wanted_of (d := 59) rfl rfl (h.p11 (hpre _ rfl ⟨11, .guard⟩ (by simp) rfl))) ?_
              go_simp
              refine (HSF.out wc h.bel).mono ?_
              rintro e1 w1 ⟨rfl, hb⟩
              exact ⟨_, rfl, { bel := h.bel.trans (hb.mono h.bel.size), siz := (by simpa using h.siz), kp := rk h.kp, k5 := rs h.k5, k7 := rs h.k7, k9 := rs h.k9, p0 := rp hi h.p0, p1 := rp hi h.p1, p2 := rp hi h.p2, p3 := rp hi h.p3, p4 := rp hi h.p4, p5 := rp hi h.p5, p6 := rp hi h.p6, p7 := rp hi h.p7, p8 := rp hi h.p8, p9 := rp hi h.p9, p10 := rp hi h.p10, p11 := rp hi h.p11, p12 := rp hi h.p12, p13 := rp hi h.p13, p14 := rp hi h.p14, p15 := rp hi h.p15, p16 := rp hi h.p16, p17 := rp hi h.p17, p18 := rp hi h.p18, p19 := rp hi h.p19, p20 := rp hi h.p20, p21 := rp hi h.p21, p22 := fun _ => set_same (by have := h.siz; omega), p23 := rp hi h.p23, p24 := rp hi h.p24 }⟩
            · have hi : 23 < d.size := by omega
              have e22 := h.p22 (hpre _ rfl ⟨22, .data⟩ (by simp) rfl)
              refine wpOp_guard rfl (wanted_of (d := 59) rfl rfl (h.p11 (hpre _ rfl ⟨11, .guard⟩ (by simp) rfl))) ?_
              go_simp
              exact ⟨_, rfl, { bel := h.bel, siz := (by simpa using h.siz), kp := rk h.kp, k5 := rs h.k5, k7 := rs h.k7, k9 := rs h.k9, p0 := rp hi h.p0, p1 := rp hi h.p1, p2 := rp hi h.p2, p3 := rp hi h.p3, p4 := rp hi h.p4, p5 := rp hi h.p5, p6 := rp hi h.p6, p7 := rp hi h.p7, p8 := rp hi h.p8, p9 := rp hi h.p9, p10 := rp hi h.p10, p11 := rp hi h.p11, p12 := rp hi h.p12, p13 := rp hi h.p13, p14 := rp hi h.p14, p15 := rp hi h.p15, p16 := rp hi h.p16, p17 := rp hi h.p17, p18 := rp hi h.p18, p19 := rp hi h.p19, p20 := rp hi h.p20, p21 := rp hi h.p21, p22 := rp hi h.p22, p23 := fun _ => set_same (by have := h.siz; omega), p24 := rp hi h.p24 }⟩
            · have hi : 24 < d.size := by omega
              have e11 := h.p11 (hpre _ rfl ⟨11, .data⟩ (by simp) rfl)
              have e23 := h.p23 (hpre _ rfl ⟨23, .data⟩ (by simp) rfl)
              refine wpOp_plain rfl rfl ?_
              go_simp
              exact ⟨_, rfl, { bel := h.bel, siz := (by simpa using h.siz), kp := rk h.kp, k5 := rs h.k5, k7 := rs h.k7, k9 := rs h.k9, p0 := rp hi h.p0, p1 := rp hi h.p1, p2 := rp hi h.p2, p3 := rp hi h.p3, p4 := rp hi h.p4, p5 := rp hi h.p5, p6 := rp hi h.p6, p7 := rp hi h.p7, p8 := rp hi h.p8, p9 := rp hi h.p9, p10 := rp hi h.p10, p11 := rp hi h.p11, p12 := rp hi h.p12, p13 := rp hi h.p13, p14 := rp hi h.p14, p15 := rp hi h.p15, p16 := rp hi h.p16, p17 := rp hi h.p17, p18 := rp hi h.p18, p19 := rp hi h.p19, p20 := rp hi h.p20, p21 := rp hi h.p21, p22 := rp hi h.p22, p23 := rp hi h.p23, p24 := fun _ => set_same (by have := h.siz; omega) }⟩
          case gendb =>
            intro d a wc hd hI hall
            obtain ⟨t, rfl, h⟩ := hI
            have hdn : ∀ j, j < 25 → dn d j := fun j hj => dn_all hd hall hj
            have hd : ∀ j, (_ : j < 25 := by decide) → dn d j := fun j hj => hdn j hj
            have hfe := frame_eq [(48, _), (49, _), (50, _), (51, _), (52, _), (53, _), (54, _), (55, _), (56, _), (57, _), (58, _), (59, _), (60, _), (61, _), (62, _), (63, _), (64, _), (65, _), (66, _), (67, _), (68, _), (69, _), (70, _), (71, _), (72, _)] (h.siz.trans rfl) h.kp rfl ⟨h.p0 (hd 0), h.p1 (hd 1), h.p2 (hd 2), h.p3 (hd 3), h.p4 (hd 4), h.p5 (hd 5), h.p6 (hd 6), h.p7 (hd 7), h.p8 (hd 8), h.p9 (hd 9), h.p10 (hd 10), h.p11 (hd 11), h.p12 (hd 12), h.p13 (hd 13), h.p14 (hd 14), h.p15 (hd 15), h.p16 (hd 16), h.p17 (hd 17), h.p18 (hd 18), h.p19 (hd 19), h.p20 (hd 20), h.p21 (hd 21), h.p22 (hd 22), h.p23 (hd 23), h.p24 (hd 24), trivial⟩
            simp only [List.foldl_cons, List.foldl_nil, List.setIfInBounds_toArray, List.set_cons_succ, List.set_cons_zero] at hfe
            have hbc := h.bel
            subst hfe
            clear h hdn hd hall
            have HB9 := Lib.hid (HBR.out.trans (hbc.mono HBR.out.size))
            clear hbc
            go_wp2_with fail
            go_roundg (n - (i + 1))
            case measure => omega
            case rel => exact ⟨i + 1, by omega, rfl, by go_num, HB9.out⟩
        · have hltI : ¬ (i : Int) < (n : Int) := by omega
          clear hbr
          go_wp2_with (go_at_call 12; refine (works_any _).mono ?_; rintro e9 w9 ⟨rfl, hb9⟩)
          go_ret
          exact ⟨rfl, HBA.out.trans ((H4a.out.trans ((HBR.out.trans (hb9.mono HBR.out.size)).mono H4a.out.size)).mono HBA.out.size)⟩
  · clear hfar
    go_wp2_with (go_at_call 12; refine (works_any _).mono ?_; rintro e2 w2 ⟨rfl, hb2⟩)
    go_ret
    exact ⟨rfl, HBA.out.trans ((H1.out.trans (hb2.mono H1.out.size)).mono HBA.out.size)⟩
end Go.Proofs.YtpmfjndbckblfaaDoor
