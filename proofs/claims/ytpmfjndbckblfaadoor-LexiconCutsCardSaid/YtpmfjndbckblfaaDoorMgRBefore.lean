/- ostraconref05.before. Made by gen_rbefore.py. -/
import Derived.Test.YtpmfjndbckblfaaDoorMgSameForms
import Derived.Test.YtpmfjndbckblfaaDoorMgRankPlain
import Derived.Test.YtpmfjndbckblfaaDoorMgRegion4
namespace Go.Proofs.YtpmfjndbckblfaaDoor
open Go.RowKit

theorem Lx.rbL_drop {c dd : List Lx.Form} {k : Nat} {a b : Lx.Form} (ha : c[k]? = some a) (hb : dd[k]? = some b) : Lx.rbL (c.drop k) (dd.drop k) = if Lx.cmpF a b = 0 then Lx.rbL (c.drop (k + 1)) (dd.drop (k + 1)) else decide (Lx.cmpF a b < 0) := by
  obtain ⟨h1, rfl⟩ := List.getElem?_eq_some_iff.1 ha
  obtain ⟨h2, rfl⟩ := List.getElem?_eq_some_iff.1 hb
  rw [List.drop_eq_getElem_cons h1, List.drop_eq_getElem_cons h2, Lx.rbL]
theorem Lx.rbL_end {c dd : List Lx.Form} {k : Nat} (hc : k ≤ c.length) (hd : k ≤ dd.length) (h : c.length ≤ k ∨ dd.length ≤ k) : Lx.rbL (c.drop k) (dd.drop k) = decide (c.length < dd.length) := by
  rcases h with h | h
  · rw [List.drop_eq_nil_of_le h]
    cases hb : dd.drop k with
    | nil =>
      have := congrArg List.length hb
      rw [List.length_drop, List.length_nil] at this
      simp [Lx.rbL]; omega
    | cons b r =>
      have := congrArg List.length hb
      rw [List.length_drop, List.length_cons] at this
      simp [Lx.rbL]; omega
  · rw [List.drop_eq_nil_of_le h]
    cases hb : c.drop k with
    | nil =>
      have := congrArg List.length hb
      rw [List.length_drop, List.length_nil] at this
      simp [Lx.rbL]; omega
    | cons b r =>
      have := congrArg List.length hb
      rw [List.length_drop, List.length_cons] at this
      simp [Lx.rbL]; omega
/-- a cut as a value -/
def CutV (w : World) (ok : Nat → Prop) (v : Value) (c : Lx.Cut) : Prop := ∃ f, v = .agg #[f, .int .i64 c.2] ∧ RdG KForm w ok f c.1

structure RbR (T0 : Array Value) (W0 : World) (ba bb b1 o1 n1 c1 b2 o2 n2 c2 k : Nat) (f1 f2 : Lx.Form) (s1 s2 : Value) (r : Int) (d : Array Bool) (t : Array Value) (wc : World) : Prop where
  bel : Below W0.heap.size W0 wc
  siz : t.size = 53
  kp : ∀ i, i ∉ ([6, 31, 32, 33, 34, 35, 36, 37, 38, 39, 40, 41] : List Nat) → t[i]? = T0[i]?
  k2 : t[2]? = some (.pointer (some ⟨ba, 0, none⟩))
  k3 : t[3]? = some (.pointer (some ⟨bb, 0, none⟩))
  k5 : t[5]? = some (.int .i64 (k : Int))
  p0 : dn d 0 → t[31]? = some (.pointer (some ⟨ba, 0, none⟩))
  p1 : dn d 1 → t[32]? = some (.slice (some ⟨b1, o1, none⟩) n1 c1)
  p2 : dn d 2 → t[33]? = some (.int .i64 (k : Int))
  p3 : dn d 3 → t[34]? = some (.pointer (some ⟨b1, o1 + k * 3, none⟩))
  p4 : dn d 4 → t[35]? = some (.agg #[.int .i64 f1.entry, .int .i64 f1.ending, s1])
  p5 : dn d 5 → t[36]? = some (.pointer (some ⟨bb, 0, none⟩))
  p6 : dn d 6 → t[37]? = some (.slice (some ⟨b2, o2, none⟩) n2 c2)
  p7 : dn d 7 → t[38]? = some (.int .i64 (k : Int))
  p8 : dn d 8 → t[39]? = some (.pointer (some ⟨b2, o2 + k * 3, none⟩))
  p9 : dn d 9 → t[40]? = some (.agg #[.int .i64 f2.entry, .int .i64 f2.ending, s2])
  p10 : dn d 10 → t[41]? = some (.int .i64 r)
  p11 : dn d 11 → t[6]? = some (.int .i64 r)
def RbI (T0 : Array Value) (W0 : World) (ba bb b1 o1 n1 c1 b2 o2 n2 c2 k : Nat) (f1 f2 : Lx.Form) (s1 s2 : Value) (r : Int) (d : Array Bool) (a : Act) (wc : World) : Prop := ∃ t : Array Value, a = ⟨t, []⟩ ∧ RbR T0 W0 ba bb b1 o1 n1 c1 b2 o2 n2 c2 k f1 f2 s1 s2 r d t wc

set_option maxRecDepth 100000 in
set_option maxHeartbeats 4000000 in
theorem rbefore_any (vc vd : Value) (c dd : Lx.Cut) (w : World) (ok : Nat → Prop) (hok : ∀ b, ok b → b < w.heap.size) (hc : CutV w ok vc c) (hd : CutV w ok vd dd) (hsc : ∀ f ∈ c.1, FSmall f) (hsd : ∀ f ∈ dd.1, FSmall f) :
    Calls Tryd.prog 102 #[vc, vd] w (RetBB (Lx.rb c dd) w) := by
  obtain ⟨fc, rfl, hfc⟩ := hc
  obtain ⟨fd, rfl, hfd⟩ := hd
  have HSC := Lib.hid hsc
  have HSD := Lib.hid hsd
  have HOK := Lib.hid hok
  have HA : Hid (∀ W : World, Below w.heap.size w W → RdG KForm W ok fc c.1) := Lib.hid fun W hW => hfc.keep fun b hb => ⟨hb, hW.block b (hok b hb)⟩
  have HB : Hid (∀ W : World, Below w.heap.size w W → RdG KForm W ok fd dd.1) := Lib.hid fun W hW => hfd.keep fun b hb => ⟨hb, hW.block b (hok b hb)⟩
  obtain ⟨A0, c1, rfl, hla, hca, -⟩ := hfc
  obtain ⟨A1, c2, rfl, hlb, hcb, -⟩ := hfd
  have hn0 : c.1.length ≤ 9223372036854775807 := by omega
  have hn1 : dd.1.length ≤ 9223372036854775807 := by omega
  obtain ⟨W2, hW2⟩ : ∃ W2, W2 = (w.alloc (.cells #[.slice A0 c.1.length c1, .int .i64 c.2] 51)).alloc (.cells #[.slice A1 dd.1.length c2, .int .i64 dd.2] 51) := ⟨_, rfl⟩
  have HBW : Hid (Below w.heap.size w W2) := Lib.hid (by rw [hW2]; exact ((Below.refl _ _).alloc (Nat.le_refl _) _).alloc (by simp) _)
  have hsz : W2.heap.size = w.heap.size + 2 := by rw [hW2]; simp
  have hfa : W2.heap[w.heap.size]? = some (.cells #[.slice A0 c.1.length c1, .int .i64 c.2] 51 (0, 0)) := by rw [hW2]; exact start_fst w _ _
  have hfb : W2.heap[w.heap.size + 1]? = some (.cells #[.slice A1 dd.1.length c2, .int .i64 dd.2] 51 (0, 0)) := by rw [hW2]; exact start_res2 w _ _
  have CX : Hid (∀ W : World, Below W2.heap.size W2 W → W.cell? ⟨w.heap.size, 0, none⟩ = some (.slice A0 c.1.length c1) ∧ W.cell? ⟨w.heap.size, 1, none⟩ = some (.int .i64 c.2) ∧ W.cell? ⟨w.heap.size + 1, 0, none⟩ = some (.slice A1 dd.1.length c2) ∧ W.cell? ⟨w.heap.size + 1, 1, none⟩ = some (.int .i64 dd.2)) := Lib.hid fun W hW => by
    have p := (hW.block w.heap.size (by omega)).trans hfa
    have q := (hW.block (w.heap.size + 1) (by omega)).trans hfb
    exact ⟨by simp [World.cell?, p], by simp [World.cell?, p], by simp [World.cell?, q], by simp [World.cell?, q]⟩
  have HW2 := Lib.hid hW2
  clear hsc hsd hok hla hca hlb hcb hW2 hfa hfb
  go_enter Tryd.func102, Tryd.ntmps102
  by_cases he : c.2 = dd.2
  · have hq : (c.2 == dd.2) = true := by simp [he]
    have HF : Hid (Lx.rb c dd = Lx.rbL c.1 dd.1) := Lib.hid (by unfold Lx.rb; rw [if_pos he])
    have HQN : Hid ((c.2 != dd.2) = false) := Lib.hid (by simp [he])
    clear he
    go_wp2_with fail
    rw [← HW2.out, HQN.out]
    clear hq
    go_loopg [5] c.1.length (fun g i wr => ∃ k : Nat, k ≤ c.1.length ∧ k ≤ dd.1.length ∧ g = c.1.length - k ∧ i = .int .i64 k ∧ Below W2.heap.size W2 wr ∧ Lx.rbL c.1 dd.1 = Lx.rbL (c.1.drop k) (dd.1.drop k))
    case atStart => exact ⟨0, Nat.zero_le _, Nat.zero_le _, rfl, rfl, Below.refl _ _, rfl⟩
    case round =>
      obtain ⟨k, hk, hk2, rfl, rfl, hbel, heq⟩ := hrel
      have HBEL := Lib.hid hbel
      have HEQ := Lib.hid heq
      have hsr := hbel.size
      obtain ⟨x0, x1, x2, x3⟩ := CX.out wr hbel
      by_cases hlt : k < c.1.length ∧ k < dd.1.length
      · obtain ⟨hlt1, hlt2⟩ := hlt
        have hltI : (k : Int) < (c.1.length : Int) := by omega
        have hltJ : (k : Int) < (dd.1.length : Int) := by omega
        obtain ⟨f1, hp⟩ : ∃ p, c.1[k]? = some p := ⟨_, List.getElem?_eq_getElem hlt1⟩
        obtain ⟨f2, hq'⟩ : ∃ q, dd.1[k]? = some q := ⟨_, List.getElem?_eq_getElem hlt2⟩
        have hbwr := HBW.out.trans (hbel.mono HBW.out.size)
        obtain ⟨b1, o1, rfl, hb1, hc1⟩ := (HA.out wr hbwr).at (by omega)
        obtain ⟨b2, o2, rfl, hb2, hc2⟩ := (HB.out wr hbwr).at (by omega)
        obtain ⟨cs1, ⟨s1, rfl, hr1⟩, hd1⟩ := hc1 k f1 hp
        obtain ⟨cs2, ⟨s2, rfl, hr2⟩, hd2⟩ := hc2 k f2 hq'
        have y0 : wr.cell? ⟨b1, o1 + k * 3, none⟩ = some (.int .i64 f1.entry) := hd1 0 _ rfl
        have y1 : wr.cell? ⟨b1, o1 + k * 3 + 1, none⟩ = some (.int .i64 f1.ending) := hd1 1 _ rfl
        have y2 : wr.cell? ⟨b1, o1 + k * 3 + 2, none⟩ = some s1 := hd1 2 _ rfl
        have z0 : wr.cell? ⟨b2, o2 + k * 3, none⟩ = some (.int .i64 f2.entry) := hd2 0 _ rfl
        have z1 : wr.cell? ⟨b2, o2 + k * 3 + 1, none⟩ = some (.int .i64 f2.ending) := hd2 1 _ rfl
        have z2 : wr.cell? ⟨b2, o2 + k * 3 + 2, none⟩ = some s2 := hd2 2 _ rfl
        have hl1 := HOK.out b1 hb1
        have hl2 := HOK.out b2 hb2
        have HS1 := Lib.hid (HSC.out f1 (List.mem_of_getElem? hp))
        have HS2 := Lib.hid (HSD.out f2 (List.mem_of_getElem? hq'))
        have HCF0 : Hid (∀ W : World, Below wr.heap.size wr W → Calls Tryd.prog 79 #[.agg #[.int .i64 f1.entry, .int .i64 f1.ending, s1], .agg #[.int .i64 f2.entry, .int .i64 f2.ending, s2]] W (RetIB (Lx.cmpF f1 f2) W)) := Lib.hid fun W hW =>
          CompareForms_any _ _ f1 f2 W ⟨⟨s1, rfl, (hr1.keep (w' := W) (ok' := fun b => b < W.heap.size) (fun b hb => ⟨by have := HOK.out b hb; have := hW.size; omega, hW.block b (by have := HOK.out b hb; omega)⟩)).to (fun b hb => hb)⟩⟩
            ⟨⟨s2, rfl, (hr2.keep (w' := W) (ok' := fun b => b < W.heap.size) (fun b hb => ⟨by have := HOK.out b hb; have := hW.size; omega, hW.block b (by have := HOK.out b hb; omega)⟩)).to (fun b hb => hb)⟩⟩ HS1.out HS2.out
        obtain ⟨S1, k1, rfl, -⟩ := hr1
        obtain ⟨S2, k2, rfl, -⟩ := hr2
        have HCF := HCF0
        have CL : Hid (∀ W : World, Below wr.heap.size wr W → W.cell? ⟨w.heap.size, 0, none⟩ = some (.slice (some ⟨b1, o1, none⟩) c.1.length c1) ∧ W.cell? ⟨w.heap.size, 1, none⟩ = some (.int .i64 c.2) ∧ W.cell? ⟨w.heap.size + 1, 0, none⟩ = some (.slice (some ⟨b2, o2, none⟩) dd.1.length c2) ∧ W.cell? ⟨w.heap.size + 1, 1, none⟩ = some (.int .i64 dd.2) ∧
            W.cell? ⟨b1, o1 + k * 3, none⟩ = some (.int .i64 f1.entry) ∧ W.cell? ⟨b1, o1 + k * 3 + 1, none⟩ = some (.int .i64 f1.ending) ∧ W.cell? ⟨b1, o1 + k * 3 + 2, none⟩ = some (.slice S1 f1.clitics.length k1) ∧
            W.cell? ⟨b2, o2 + k * 3, none⟩ = some (.int .i64 f2.entry) ∧ W.cell? ⟨b2, o2 + k * 3 + 1, none⟩ = some (.int .i64 f2.ending) ∧ W.cell? ⟨b2, o2 + k * 3 + 2, none⟩ = some (.slice S2 f2.clitics.length k2)) := Lib.hid fun W hW => by
          obtain ⟨u0, u1, u2, u3⟩ := CX.out W (HBEL.out.trans (hW.mono hsr))
          have g1 : b1 < wr.heap.size := by omega
          have g2 : b2 < wr.heap.size := by omega
          exact ⟨u0, u1, u2, u3, (hW.cell (p := ⟨b1, o1 + k * 3, none⟩) g1).trans y0, (hW.cell (p := ⟨b1, o1 + k * 3 + 1, none⟩) g1).trans y1, (hW.cell (p := ⟨b1, o1 + k * 3 + 2, none⟩) g1).trans y2,
            (hW.cell (p := ⟨b2, o2 + k * 3, none⟩) g2).trans z0, (hW.cell (p := ⟨b2, o2 + k * 3 + 1, none⟩) g2).trans z1, (hW.cell (p := ⟨b2, o2 + k * 3 + 2, none⟩) g2).trans z2⟩
        have HD : Hid (Lx.rbL c.1 dd.1 = if Lx.cmpF f1 f2 = 0 then Lx.rbL (c.1.drop (k + 1)) (dd.1.drop (k + 1)) else decide (Lx.cmpF f1 f2 < 0)) := Lib.hid (HEQ.out.trans (Lx.rbL_drop hp hq'))
        clear hbel heq hp hq' hc1 hc2 hd1 hd2 hbwr HCF0
        go_upto_region 6 with fail
        refine wp_region_inv2T (fun T0 => RbI T0 wr w.heap.size (w.heap.size + 1) b1 o1 c.1.length c1 b2 o2 dd.1.length c2 k f1 f2 (.slice S1 f1.clitics.length k1) (.slice S2 f2.clitics.length k2) (Lx.cmpF f1 f2)) (by kernel_rfl) (by kernel_rfl) ?g0a ?gstepa ?genda
        case g0a =>
          have hno : ∀ j, ¬ dn (Array.replicate 12 false) j := by
            intro j; unfold dn; by_cases hj : j < 12 <;> simp [Array.getD, hj]
          have na : ∀ {j : Nat} {Z : Prop}, dn (Array.replicate 12 false) j → Z := fun hj => absurd hj (hno _)
          exact ⟨_, rfl, { bel := (Below.refl _ _).drew, siz := rfl, kp := fun _ _ => rfl, k2 := rfl, k3 := rfl, k5 := rfl, p0 := na, p1 := na, p2 := na, p3 := na, p4 := na, p5 := na, p6 := na, p7 := na, p8 := na, p9 := na, p10 := na, p11 := na }⟩
        case gstepa =>
          intro T0 d a wc i hd hI hi
          obtain ⟨hlt, hnd, hpre⟩ := mem_ready hi
          have hd' : d.size = 12 := hd
          have hin : i < 12 := hlt
          clear hi hd hlt
          obtain ⟨t, rfl, h⟩ := hI
          have hcs : i = 0 ∨ i = 1 ∨ i = 2 ∨ i = 3 ∨ i = 4 ∨ i = 5 ∨ i = 6 ∨ i = 7 ∨ i = 8 ∨ i = 9 ∨ i = 10 ∨ i = 11 := by omega
          rcases hcs with rfl | rfl | rfl | rfl | rfl | rfl | rfl | rfl | rfl | rfl | rfl | rfl
          · have hi : 0 < d.size := by omega
            have q2 := h.k2
            refine wpOp_plain rfl rfl ?_
            go_simp
            exact ⟨_, rfl, { bel := h.bel, siz := (by simpa using h.siz), kp := rk h.kp, k2 := rs h.k2, k3 := rs h.k3, k5 := rs h.k5, p0 := fun _ => set_same (by have := h.siz; omega), p1 := rp hi h.p1, p2 := rp hi h.p2, p3 := rp hi h.p3, p4 := rp hi h.p4, p5 := rp hi h.p5, p6 := rp hi h.p6, p7 := rp hi h.p7, p8 := rp hi h.p8, p9 := rp hi h.p9, p10 := rp hi h.p10, p11 := rp hi h.p11 }⟩
          · have hi : 1 < d.size := by omega
            have e0 := h.p0 (hpre _ rfl ⟨0, .data⟩ (by simp) rfl)
            obtain ⟨x0, x1, x2, x3, y0, y1, y2, z0, z1, z2⟩ := CL.out wc h.bel
            refine wpOp_plain rfl rfl ?_
            go_simp
            exact ⟨_, rfl, { bel := h.bel, siz := (by simpa using h.siz), kp := rk h.kp, k2 := rs h.k2, k3 := rs h.k3, k5 := rs h.k5, p0 := rp hi h.p0, p1 := fun _ => set_same (by have := h.siz; omega), p2 := rp hi h.p2, p3 := rp hi h.p3, p4 := rp hi h.p4, p5 := rp hi h.p5, p6 := rp hi h.p6, p7 := rp hi h.p7, p8 := rp hi h.p8, p9 := rp hi h.p9, p10 := rp hi h.p10, p11 := rp hi h.p11 }⟩
          · have hi : 2 < d.size := by omega
            have q5 := h.k5
            refine wpOp_plain rfl rfl ?_
            go_simp
            exact ⟨_, rfl, { bel := h.bel, siz := (by simpa using h.siz), kp := rk h.kp, k2 := rs h.k2, k3 := rs h.k3, k5 := rs h.k5, p0 := rp hi h.p0, p1 := rp hi h.p1, p2 := fun _ => set_same (by have := h.siz; omega), p3 := rp hi h.p3, p4 := rp hi h.p4, p5 := rp hi h.p5, p6 := rp hi h.p6, p7 := rp hi h.p7, p8 := rp hi h.p8, p9 := rp hi h.p9, p10 := rp hi h.p10, p11 := rp hi h.p11 }⟩
          · have hi : 3 < d.size := by omega
            have e1 := h.p1 (hpre _ rfl ⟨1, .data⟩ (by simp) rfl)
            have e2 := h.p2 (hpre _ rfl ⟨2, .data⟩ (by simp) rfl)
            refine wpOp_plain rfl rfl ?_
            go_simp
            exact ⟨_, rfl, { bel := h.bel, siz := (by simpa using h.siz), kp := rk h.kp, k2 := rs h.k2, k3 := rs h.k3, k5 := rs h.k5, p0 := rp hi h.p0, p1 := rp hi h.p1, p2 := rp hi h.p2, p3 := fun _ => set_same (by have := h.siz; omega), p4 := rp hi h.p4, p5 := rp hi h.p5, p6 := rp hi h.p6, p7 := rp hi h.p7, p8 := rp hi h.p8, p9 := rp hi h.p9, p10 := rp hi h.p10, p11 := rp hi h.p11 }⟩
          · have hi : 4 < d.size := by omega
            have e3 := h.p3 (hpre _ rfl ⟨3, .data⟩ (by simp) rfl)
            obtain ⟨x0, x1, x2, x3, y0, y1, y2, z0, z1, z2⟩ := CL.out wc h.bel
            refine wpOp_plain rfl rfl ?_
            go_simp
            exact ⟨_, rfl, { bel := h.bel, siz := (by simpa using h.siz), kp := rk h.kp, k2 := rs h.k2, k3 := rs h.k3, k5 := rs h.k5, p0 := rp hi h.p0, p1 := rp hi h.p1, p2 := rp hi h.p2, p3 := rp hi h.p3, p4 := fun _ => set_same (by have := h.siz; omega), p5 := rp hi h.p5, p6 := rp hi h.p6, p7 := rp hi h.p7, p8 := rp hi h.p8, p9 := rp hi h.p9, p10 := rp hi h.p10, p11 := rp hi h.p11 }⟩
          · have hi : 5 < d.size := by omega
            have q3 := h.k3
            refine wpOp_plain rfl rfl ?_
            go_simp
            exact ⟨_, rfl, { bel := h.bel, siz := (by simpa using h.siz), kp := rk h.kp, k2 := rs h.k2, k3 := rs h.k3, k5 := rs h.k5, p0 := rp hi h.p0, p1 := rp hi h.p1, p2 := rp hi h.p2, p3 := rp hi h.p3, p4 := rp hi h.p4, p5 := fun _ => set_same (by have := h.siz; omega), p6 := rp hi h.p6, p7 := rp hi h.p7, p8 := rp hi h.p8, p9 := rp hi h.p9, p10 := rp hi h.p10, p11 := rp hi h.p11 }⟩
          · have hi : 6 < d.size := by omega
            have e5 := h.p5 (hpre _ rfl ⟨5, .data⟩ (by simp) rfl)
            obtain ⟨x0, x1, x2, x3, y0, y1, y2, z0, z1, z2⟩ := CL.out wc h.bel
            refine wpOp_plain rfl rfl ?_
            go_simp
            exact ⟨_, rfl, { bel := h.bel, siz := (by simpa using h.siz), kp := rk h.kp, k2 := rs h.k2, k3 := rs h.k3, k5 := rs h.k5, p0 := rp hi h.p0, p1 := rp hi h.p1, p2 := rp hi h.p2, p3 := rp hi h.p3, p4 := rp hi h.p4, p5 := rp hi h.p5, p6 := fun _ => set_same (by have := h.siz; omega), p7 := rp hi h.p7, p8 := rp hi h.p8, p9 := rp hi h.p9, p10 := rp hi h.p10, p11 := rp hi h.p11 }⟩
          · have hi : 7 < d.size := by omega
            have q5 := h.k5
            refine wpOp_plain rfl rfl ?_
            go_simp
            exact ⟨_, rfl, { bel := h.bel, siz := (by simpa using h.siz), kp := rk h.kp, k2 := rs h.k2, k3 := rs h.k3, k5 := rs h.k5, p0 := rp hi h.p0, p1 := rp hi h.p1, p2 := rp hi h.p2, p3 := rp hi h.p3, p4 := rp hi h.p4, p5 := rp hi h.p5, p6 := rp hi h.p6, p7 := fun _ => set_same (by have := h.siz; omega), p8 := rp hi h.p8, p9 := rp hi h.p9, p10 := rp hi h.p10, p11 := rp hi h.p11 }⟩
          · have hi : 8 < d.size := by omega
            have e6 := h.p6 (hpre _ rfl ⟨6, .data⟩ (by simp) rfl)
            have e7 := h.p7 (hpre _ rfl ⟨7, .data⟩ (by simp) rfl)
            refine wpOp_plain rfl rfl ?_
            go_simp
            exact ⟨_, rfl, { bel := h.bel, siz := (by simpa using h.siz), kp := rk h.kp, k2 := rs h.k2, k3 := rs h.k3, k5 := rs h.k5, p0 := rp hi h.p0, p1 := rp hi h.p1, p2 := rp hi h.p2, p3 := rp hi h.p3, p4 := rp hi h.p4, p5 := rp hi h.p5, p6 := rp hi h.p6, p7 := rp hi h.p7, p8 := fun _ => set_same (by have := h.siz; omega), p9 := rp hi h.p9, p10 := rp hi h.p10, p11 := rp hi h.p11 }⟩
          · have hi : 9 < d.size := by omega
            have e8 := h.p8 (hpre _ rfl ⟨8, .data⟩ (by simp) rfl)
            obtain ⟨x0, x1, x2, x3, y0, y1, y2, z0, z1, z2⟩ := CL.out wc h.bel
            refine wpOp_plain rfl rfl ?_
            go_simp
            exact ⟨_, rfl, { bel := h.bel, siz := (by simpa using h.siz), kp := rk h.kp, k2 := rs h.k2, k3 := rs h.k3, k5 := rs h.k5, p0 := rp hi h.p0, p1 := rp hi h.p1, p2 := rp hi h.p2, p3 := rp hi h.p3, p4 := rp hi h.p4, p5 := rp hi h.p5, p6 := rp hi h.p6, p7 := rp hi h.p7, p8 := rp hi h.p8, p9 := fun _ => set_same (by have := h.siz; omega), p10 := rp hi h.p10, p11 := rp hi h.p11 }⟩
          · have hi : 10 < d.size := by omega
            have e4 := h.p4 (hpre _ rfl ⟨4, .data⟩ (by simp) rfl)
            have e9 := h.p9 (hpre _ rfl ⟨9, .data⟩ (by simp) rfl)
            refine wpOp_plain rfl rfl ?_
            go_simp
            refine (HCF.out wc h.bel).mono ?_
            rintro e1 w1 ⟨rfl, hb⟩
            exact ⟨_, rfl, { bel := h.bel.trans (hb.mono h.bel.size), siz := (by simpa using h.siz), kp := rk h.kp, k2 := rs h.k2, k3 := rs h.k3, k5 := rs h.k5, p0 := rp hi h.p0, p1 := rp hi h.p1, p2 := rp hi h.p2, p3 := rp hi h.p3, p4 := rp hi h.p4, p5 := rp hi h.p5, p6 := rp hi h.p6, p7 := rp hi h.p7, p8 := rp hi h.p8, p9 := rp hi h.p9, p10 := fun _ => set_same (by have := h.siz; omega), p11 := rp hi h.p11 }⟩
          · have hi : 11 < d.size := by omega
            have e10 := h.p10 (hpre _ rfl ⟨10, .data⟩ (by simp) rfl)
            refine wpOp_plain rfl rfl ?_
            go_simp
            exact ⟨_, rfl, { bel := h.bel, siz := (by simpa using h.siz), kp := rk h.kp, k2 := rs h.k2, k3 := rs h.k3, k5 := rs h.k5, p0 := rp hi h.p0, p1 := rp hi h.p1, p2 := rp hi h.p2, p3 := rp hi h.p3, p4 := rp hi h.p4, p5 := rp hi h.p5, p6 := rp hi h.p6, p7 := rp hi h.p7, p8 := rp hi h.p8, p9 := rp hi h.p9, p10 := rp hi h.p10, p11 := fun _ => set_same (by have := h.siz; omega) }⟩
        case genda =>
          intro d a wc hd hI hall
          obtain ⟨t, rfl, h⟩ := hI
          have hdn : ∀ j, j < 12 → dn d j := fun j hj => dn_all hd hall hj
          have hd : ∀ j, (_ : j < 12 := by decide) → dn d j := fun j hj => hdn j hj
          have hfe := frame_eq [(6, _), (31, _), (32, _), (33, _), (34, _), (35, _), (36, _), (37, _), (38, _), (39, _), (40, _), (41, _)] (h.siz.trans rfl) h.kp rfl ⟨h.p11 (hd 11), h.p0 (hd 0), h.p1 (hd 1), h.p2 (hd 2), h.p3 (hd 3), h.p4 (hd 4), h.p5 (hd 5), h.p6 (hd 6), h.p7 (hd 7), h.p8 (hd 8), h.p9 (hd 9), h.p10 (hd 10), trivial⟩
          simp only [List.foldl_cons, List.foldl_nil, List.setIfInBounds_toArray, List.set_cons_succ, List.set_cons_zero] at hfe
          have hbc := h.bel
          subst hfe
          clear h hdn hd hall
          have HBC := Lib.hid (HBEL.out.trans (hbc.mono hsr))
          obtain ⟨x0, x1, x2, x3, y0, y1, y2, z0, z1, z2⟩ := CL.out wc hbc
          clear hbc CL HCF
          generalize Lx.cmpF f1 f2 = r at *
          by_cases h0 : r = 0
          · have hq2 : (r == 0) = true := by simp [h0]
            have hq2' : (r != 0) = false := by simp [h0]
            have HN : Hid (Lx.rbL c.1 dd.1 = Lx.rbL (c.1.drop (k + 1)) (dd.1.drop (k + 1))) := Lib.hid (by rw [HD.out, if_pos h0])
            clear h0 HD
            go_wp2_with fail
            go_roundg (c.1.length - (k + 1))
            case measure => omega
            case rel => exact ⟨k + 1, by omega, by omega, rfl, by go_num, HBC.out, HN.out⟩
          · have hq2 : (r == 0) = false := by simp [h0]
            have hq2' : (r != 0) = true := by simp [h0]
            have HN : Hid (Lx.rb c dd = decide (r < 0)) := Lib.hid (by rw [HF.out, HD.out, if_neg h0])
            clear h0 HD
            go_wp2_with fail
            go_ret
            exact ⟨ret_bool (by rw [HN.out]), HBW.out.trans (HBC.out.mono HBW.out.size)⟩
      · have HN : Hid (Lx.rb c dd = decide (c.1.length < dd.1.length)) := Lib.hid (by rw [HF.out, HEQ.out, Lx.rbL_end hk hk2 (by omega)])
        clear hbel heq
        by_cases hlt1 : (k : Int) < (c.1.length : Int)
        · have hlt2 : ¬ (k : Int) < (dd.1.length : Int) := by omega
          go_wp2_with fail
          go_ret
          exact ⟨ret_bool (by rw [HN.out]), HBW.out.trans (HBEL.out.mono HBW.out.size)⟩
        · go_wp2_with fail
          go_ret
          exact ⟨ret_bool (by rw [HN.out]), HBW.out.trans (HBEL.out.mono HBW.out.size)⟩
  · have hq : (c.2 == dd.2) = false := by simp [he]
    have HF : Hid (Lx.rb c dd = decide (c.2 < dd.2)) := Lib.hid (by unfold Lx.rb; rw [if_neg he])
    clear he
    obtain ⟨x0, x1, x2, x3⟩ := CX.out W2 (Below.refl _ _)
    go_wp2_with fail
    go_ret
    exact ⟨ret_bool (by rw [HF.out]), by have := HBW.out; rwa [HW2.out] at this⟩
end Go.Proofs.YtpmfjndbckblfaaDoor
