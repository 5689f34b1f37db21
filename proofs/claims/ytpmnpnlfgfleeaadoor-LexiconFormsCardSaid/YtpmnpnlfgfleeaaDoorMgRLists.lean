/- ostraconref05.lists. Made by gen_rlists.py. -/
import Derived.Test.YtpmnpnlfgfleeaaDoorMgRTails
import Derived.Test.YtpmnpnlfgfleeaaDoorMgFormsPlain
import Derived.Test.YtpmnpnlfgfleeaaDoorMgRegion4
namespace Go.Proofs.YtpmnpnlfgfleeaaDoor
open Go Go.RowKit

theorem own_ne {w : World} {base ga gb : Nat} {e t : TypeId} {c : Value} {fr : Nat × Nat} (h : w.ownsRow base e 1 (.slice (some ⟨ga, 0, none⟩) 0 0) 0 []) (hg : w.heap[gb]? = some (.cells #[c] t fr)) : ga ≠ gb := by
  rintro rfl
  rcases h.2 with ⟨h1, _⟩ | ⟨g, cap, cur, h1, _, hh, _, _, hs, _⟩
  · cases h1
  · cases h1
    rw [hg] at hh
    cases hh
    simp at hs
/-- a list of the call's own whose rows' blocks N names -/
def OwnN {α : Type} (K : RowK α) (e : TypeId) (w : World) (B : Nat) (N : Nat → Prop) (v : Value) (xs : List α) : Prop :=
  ∃ cells, w.ownsRow B e K.size v xs.length cells ∧ grows K w (fun b => N b ∧ v.ownBlock ≠ some b) cells xs ∧ (∀ b, N b → b < w.heap.size)
section
variable {α : Type} {K : RowK α} {e : TypeId} {w w' : World} {B : Nat} {N N' : Nat → Prop} {v v' : Value} {xs ys : List α}
theorem OwnN.kept (h : OwnN K e w B N v xs) (hb : Below w.heap.size w w') (hN : ∀ b, N b → N' b) (hN' : ∀ b, N' b → b < w'.heap.size := by exact fun b hb => hb.1) : OwnN K e w' B N' v xs := by
  obtain ⟨cells, h1, h2, h3⟩ := h
  exact ⟨cells, keep_own h1 hb, h2.keep fun b hk => ⟨⟨hN b hk.1, hk.2⟩, hb.block b (h3 b hk.1)⟩, hN'⟩
theorem OwnN.more {cells cs : List Value} (h2 : grows K w (fun b => N b ∧ v.ownBlock ≠ some b) cells xs) (_h3 : ∀ b, N b → b < w.heap.size) (hm : grows K w (fun b => N b ∧ v.ownBlock ≠ some b) cs ys)
    (hown : w'.ownsRow B e K.size v' (xs.length + ys.length) (cells ++ cs)) (hg : w.grownBy w' v.ownBlock) (hat : v'.ownBlock = v.ownBlock ∨ v'.ownBlock = some w.heap.size) (hN : ∀ b, N b → N' b ∧ b < w.heap.size) (hN' : ∀ b, N' b → b < w'.heap.size := by exact fun b hb => hb.1) : OwnN K e w' B N' v' (xs ++ ys) := by
  have hk : ∀ b, (N b ∧ v.ownBlock ≠ some b) → (N' b ∧ v'.ownBlock ≠ some b) ∧ w'.heap[b]? = w.heap[b]? := by
    intro b ⟨hb, hne⟩
    refine ⟨⟨(hN b hb).1, ?_⟩, hg.block b (hN b hb).2 (fun e => hne e.symm)⟩
    rcases hat with e | e
    · rw [e]; exact hne
    · rw [e]; intro q; cases q; exact absurd (hN _ hb).2 (Nat.lt_irrefl _)
  exact ⟨_, by rw [List.length_append]; exact hown, (h2.append hm).keep hk, hN'⟩
theorem OwnN.form (h : OwnN K e w B N v xs) : ∃ A c, v = .slice A xs.length c := by
  obtain ⟨cells, h1, _⟩ := h
  exact own_form h1
theorem OwnN.lt (h : OwnN K e w B N v xs) : ∀ g, v.ownBlock = some g → B ≤ g ∧ g < w.heap.size := by
  obtain ⟨cells, h1, _⟩ := h
  exact fun g hg => h1.lt g hg
theorem OwnN.rd (h : OwnN K e w B N v xs) (ok : Nat → Prop) (h1 : ∀ b, N b → ok b) (h2 : ∀ b, B ≤ b → b < w.heap.size → ok b) : RdG K w ok v xs := by
  obtain ⟨cells, g1, g2, g3⟩ := h
  obtain ⟨_, g4⟩ := id g1
  rcases g4 with ⟨rfl, h0⟩ | ⟨g, cap, cur, rfl, hg, hh, hle, hm, hs, ht⟩
  · exact ⟨none, 0, by rw [h0], by omega, by omega, fun hp => by omega⟩
  · refine ⟨some ⟨g, 0, none⟩, cap, rfl, hle, by simpa [maxLen] using hm, fun _ => ⟨g, 0, rfl, h2 g hg (g1.lt g rfl).2, fun i a hi => ?_⟩⟩
    obtain ⟨cs, e1, e2⟩ := g2.at hi
    refine ⟨cs, K.keep (fun b hb => ⟨h1 b hb.1, rfl⟩) e1, fun j u hj => ?_⟩
    have := g1.cells rfl (i * K.size + j) u (e2 j u hj)
    rw [addr_add] at this
    rw [← this, Nat.add_assoc]
end
structure LsaR (T0 : Array Value) (W0 : World) (xv v bg : Value) (bx B S0 c : Nat) (okb : Nat → Prop) (begun : List Int) (ls out : List (List Int)) (d : Array Bool) (t : Array Value) (wc : World) : Prop where
  bel : Below B W0 wc
  siz : t.size = 37
  kp : ∀ i, i ∉ ([7, 24, 25, 26, 27, 28, 29, 30, 31, 32, 33, 34, 35] : List Nat) → t[i]? = T0[i]?
  k1 : t[1]? = some (bg)
  k3 : t[3]? = some (.pointer (some ⟨bx, 0, none⟩))
  k8 : t[8]? = some (.int .i64 (c : Int))
  p0 : dn d 0 → t[24]? = some (v)
  p1 : dn d 1 → t[25]? = some (xv)
  p3 : dn d 3 → t[27]? = some (bg)
  p5 : dn d 5 → t[29]? = some (.int .i64 (c : Int))
  p8 : dn d 8 → t[32]? = some (.int .i64 (c : Int))
  p9 : dn d 9 → t[33]? = some (.int .i64 ((c : Int) + 1))
  kk : ¬ dn d 0 → t[7]? = some v
  belF : ¬ dn d 11 → Below W0.heap.size W0 wc
  p2 : dn d 2 → ¬ dn d 4 → ∃ u, t[26]? = some u ∧ ∃ ga, u = .slice (some ⟨ga, 0, none⟩) 0 0 ∧ ga < wc.heap.size ∧ wc.ownsRow W0.heap.size 3 1 (.slice (some ⟨ga, 0, none⟩) 0 0) 0 []
  p4 : dn d 4 → ¬ dn d 7 → ∃ u, t[28]? = some u ∧ wc.ownsRow W0.heap.size 3 1 u begun.length (begun.flatMap encInt)
  p6 : dn d 6 → ¬ dn d 7 → ∃ u, t[30]? = some u ∧ ∃ gb, u = .slice (some ⟨gb, 0, none⟩) 1 1 ∧ gb < wc.heap.size ∧ wc.heap[gb]? = some (.cells #[.int .i64 (c : Int)] 3 (0, 0))
  p7 : dn d 7 → ¬ dn d 10 → ∃ u, t[31]? = some u ∧ RdX wc (fun b => b < wc.heap.size ∧ W0.heap.size ≤ b) 1 encInt u (begun ++ [(c : Int)])
  p10 : dn d 10 → ¬ dn d 11 → ∃ u, t[34]? = some u ∧ RdG KInts wc (fun b => b < wc.heap.size ∧ W0.heap.size ≤ b) u ls
  p11 : dn d 11 → ∃ A k cc, t[35]? = some (.slice A k cc) ∧ OwnN KInts 47 wc B (fun b => b < wc.heap.size ∧ (okb b ∨ S0 ≤ b)) (.slice A k cc) (out ++ ls) ∧ W0.grownBy wc v.ownBlock ∧ (dn d 12 → t[7]? = some (.slice A k cc))
  l4 : dn d 4 → dn d 2
  l7 : dn d 7 → dn d 4 ∧ dn d 6
  l10 : dn d 10 → dn d 7
  l11 : dn d 11 → dn d 0 ∧ dn d 10
  l12 : dn d 12 → dn d 11
def LsaI (T0 : Array Value) (W0 : World) (xv v bg : Value) (bx B S0 c : Nat) (okb : Nat → Prop) (begun : List Int) (ls out : List (List Int)) (d : Array Bool) (a : Act) (wc : World) : Prop := ∃ t : Array Value, a = ⟨t, []⟩ ∧ LsaR T0 W0 xv v bg bx B S0 c okb begun ls out d t wc

/-- What lists does, for one number of clitics that may still come. -/
def ListsSays (x : Lx.Lexicon) (k : Nat) : Prop :=
  ∀ (begun : List Int) (first : Nat) (ok : Nat → Prop) (A0 A1 A2 : Option Addr) (n0 c0 n1 c1 c2 : Nat) (vb : Value) (w : World), begun.length + k = 3 → first ≤ x.clitics.length → (∀ b, ok b → b < w.heap.size) → RdX w ok 1 encInt vb begun →
    Calls Tryd.prog 32 #[.agg #[.slice A0 n0 c0, .slice A1 n1 c1, .slice A2 x.clitics.length c2], vb, .int .i64 first] w (fun e w' => ∃ v, e = .returned v ∧ RdG KInts w' (fun b => b < w'.heap.size ∧ (ok b ∨ w.heap.size ≤ b)) v (Lx.listsV x.clitics.length k begun first) ∧ Below w.heap.size w w')

set_option maxRecDepth 100000 in
set_option maxHeartbeats 4000000 in
theorem lists_step (x : Lx.Lexicon) (hn10 : x.clitics.length ≤ 10) (k : Nat) (ih : ∀ k', k = k' + 1 → ListsSays x k') : ListsSays x k := by
  intro begun first ok A0 A1 A2 n0 c0 n1 c1 c2 vb w hlen hfi hok hvb
  have IH := Lib.hid ih
  have HVB := Lib.hid hvb
  have HOK := Lib.hid hok
  clear ih
  obtain ⟨Ab, cb, rfl, -⟩ := hvb
  clear hok
  obtain ⟨i1, hi1, hz1, hs1, hb1⟩ := info_parts info_int
  obtain ⟨i9, hi9, hz9, hs9, hb9⟩ := info_parts info_sInt
  go_enter Tryd.func32, Tryd.ntmps32
  go_wp2_with fail
  obtain ⟨w1, hw1⟩ : ∃ w1, w1 = (w.alloc (.cells #[.slice A0 n0 c0, .slice A1 n1 c1, .slice A2 x.clitics.length c2] 26)).alloc (.cells #[.slice Ab begun.length cb] 47) := ⟨_, rfl⟩
  have hal : Below w.heap.size w w1 := by rw [hw1]; exact ((Below.refl _ _).alloc (Nat.le_refl _) _).alloc (by simp) _
  have hnew : w1.heap[w.heap.size + 1]? = some (.cells #[.slice Ab begun.length cb] 47 (0, 0)) := by rw [hw1]; exact start_res2 _ _ _
  have hlex : w1.heap[w.heap.size]? = some (.cells #[.slice A0 n0 c0, .slice A1 n1 c1, .slice A2 x.clitics.length c2] 26 (0, 0)) := by rw [hw1]; exact start_fst _ _ _
  have hs1w : w1.heap.size = w.heap.size + 2 := by rw [hw1]; simp
  have hown1 : OwnN KInts 47 w1 (w.heap.size + 1) (fun b => b < w1.heap.size ∧ (ok b ∨ w.heap.size ≤ b)) (.slice (some ⟨w.heap.size + 1, 0, none⟩) 1 1) [begun] := by
    refine ⟨[.slice Ab begun.length cb], ⟨rfl, .inr ⟨w.heap.size + 1, 1, _, rfl, Nat.le_refl _, hnew, Nat.le_refl _, by simp [maxLen], rfl, rfl⟩⟩, ?_, fun b hb => hb.1⟩
    have : grows KInts w1 (fun b => (b < w1.heap.size ∧ (ok b ∨ w.heap.size ≤ b)) ∧ (Value.slice (some ⟨w.heap.size + 1, 0, none⟩) 1 1).ownBlock ≠ some b) ([.slice Ab begun.length cb] ++ []) [begun] :=
      .cons ⟨_, rfl, HVB.out.keep fun b hb => ⟨⟨⟨by have := HOK.out b hb; omega, .inl hb⟩, by have := HOK.out b hb; simp [Value.ownBlock]; omega⟩, hal.block b (HOK.out b hb)⟩⟩ .nil
    exact this
  have HAL := Lib.hid hal
  have HOW1 := Lib.hid hown1
  have HLEX := Lib.hid hlex
  have HW1 := Lib.hid hw1
  clear hal hnew hlex hown1 hw1
  rw [← HW1.out]
  go_loopg [7, 8] (x.clitics.length - first) (fun g v i wr => ∃ j : Nat, first ≤ j ∧ j ≤ x.clitics.length ∧ (k = 0 → j = first) ∧ g = x.clitics.length - j ∧ i = .int .i64 j ∧ (∃ A n c, v = .slice A n c) ∧ OwnN KInts 47 wr (w.heap.size + 1) (fun b => b < wr.heap.size ∧ (ok b ∨ w.heap.size ≤ b)) v (Lx.listsTo x.clitics.length (k - 1) begun first j) ∧
    Below w.heap.size w wr ∧ w.heap.size + 1 ≤ wr.heap.size ∧ wr.heap[w.heap.size]? = some (.cells #[.slice A0 n0 c0, .slice A1 n1 c1, .slice A2 x.clitics.length c2] 26 (0, 0)))
  case atStart => exact ⟨first, Nat.le_refl _, hfi, fun _ => rfl, rfl, rfl, ⟨_, _, _, rfl⟩, by rw [Lx.listsTo_start]; exact HOW1.out, HAL.out, by omega, HLEX.out⟩
  case round =>
    obtain ⟨j, hj1, hj2, hk0, rfl, rfl, ⟨Av, nv, cv, rfl⟩, hog, hbel, hsz, hx⟩ := hrel
    have x0 : wr.cell? ⟨w.heap.size, 0, none⟩ = some (.slice A0 n0 c0) := by simp [World.cell?, hx]
    have x1 : wr.cell? ⟨w.heap.size, 1, none⟩ = some (.slice A1 n1 c1) := by simp [World.cell?, hx]
    have x2 : wr.cell? ⟨w.heap.size, 2, none⟩ = some (.slice A2 x.clitics.length c2) := by simp [World.cell?, hx]
    have HOG := Lib.hid hog
    have HBEL := Lib.hid hbel
    have HX := Lib.hid hx
    clear hog hbel hx hs1w
    by_cases hgo : j < x.clitics.length ∧ begun.length < 3
    · obtain ⟨hlt, hl3⟩ := hgo
      obtain ⟨K, rfl⟩ : ∃ K, k = K + 1 := ⟨k - 1, by omega⟩
      have hjI : (j : Int) < (x.clitics.length : Int) := by omega
      have hlI : (begun.length : Int) < 3 := by omega
      rw [Nat.add_sub_cancel] at HOG
      have hvlt : ∀ q, (Value.slice Av nv cv).ownBlock = some q → w.heap.size + 1 ≤ q ∧ q < wr.heap.size := HOG.out.lt
      obtain ⟨out, hout⟩ : ∃ out, out = Lx.listsTo x.clitics.length K begun first j := ⟨_, rfl⟩
      obtain ⟨ls, hls⟩ : ∃ ls, ls = Lx.listsV x.clitics.length K (begun ++ [(j : Int)]) (j + 1) := ⟨_, rfl⟩
      have hcnt : ∀ K' b f, K' ≤ 3 → (Lx.listsV x.clitics.length K' b f).length ≤ 1331 := fun K' b f h => by
        have h1 := Lx.listsV_count x.clitics.length K' b f
        have h2 : (x.clitics.length + 1) ^ K' ≤ 11 ^ K' := Nat.pow_le_pow_left (by omega) _
        have h3 : 11 ^ K' ≤ 11 ^ 3 := Nat.pow_le_pow_right (by omega) h
        omega
      have hol : out.length ≤ 20000 := by
        have h1 := (Lx.listsTo_prefix x.clitics.length K begun hj1 (by omega : j ≤ x.clitics.length)).length_le
        have h2 := hcnt (K + 1) begun first (by omega)
        rw [hout]
        omega
      have hll : ls.length ≤ 1331 := by rw [hls]; exact hcnt K _ _ (by omega)
      have HN : Hid (Lx.listsTo x.clitics.length K begun first (j + 1) = out ++ ls) := Lib.hid (by rw [Lx.listsTo_succ _ _ _ hj1, hout, hls])
      rw [← hout] at HOG
      have OUT : Hid (OwnN KInts 47 wr (w.heap.size + 1) (fun b => b < wr.heap.size ∧ (ok b ∨ w.heap.size ≤ b)) (.slice Av nv cv) out) := HOG
      have VB : Hid (∀ W, Below (w.heap.size + 1) wr W → RdS W W.heap.size 1 encInt (.slice Ab begun.length cb) begun) := Lib.hid fun W hW =>
        (HVB.out.keep (w' := W) (ok' := fun b => b < W.heap.size) (fun b hb => by
          have h1 := HOK.out b hb
          have h2 := HBEL.out.size
          have h3 := hW.size
          exact ⟨by omega, (hW.block b (by omega)).trans (HBEL.out.block b h1)⟩)).to (fun b hb => hb)
      have BX : Hid (∀ W, Below (w.heap.size + 1) wr W → W.cell? ⟨w.heap.size, 0, none⟩ = some (.slice A0 n0 c0) ∧ W.cell? ⟨w.heap.size, 1, none⟩ = some (.slice A1 n1 c1) ∧ W.cell? ⟨w.heap.size, 2, none⟩ = some (.slice A2 x.clitics.length c2)) := Lib.hid fun W hW => by
        have e := (hW.block w.heap.size (by omega)).trans HX.out
        exact ⟨by simp [World.cell?, e], by simp [World.cell?, e], by simp [World.cell?, e]⟩
      have HREC : Hid (∀ (W : World) (u : Value), Below wr.heap.size wr W → RdX W (fun b => b < W.heap.size ∧ wr.heap.size ≤ b) 1 encInt u (begun ++ [(j : Int)]) →
          Calls Tryd.prog 32 #[(.agg #[.slice A0 n0 c0, .slice A1 n1 c1, .slice A2 x.clitics.length c2]), u, .int .i64 ((j : Int) + 1)] W (fun e w' => ∃ v, e = .returned v ∧ RdG KInts w' (fun b => b < w'.heap.size ∧ wr.heap.size ≤ b) v ls ∧ Below W.heap.size W w')) := Lib.hid fun W u hW hu => by
        have := (IH.out K rfl) (begun ++ [(j : Int)]) (j + 1) (fun b => b < W.heap.size ∧ wr.heap.size ≤ b) A0 A1 A2 n0 c0 n1 c1 c2 u W (by simp; omega) (by omega) (fun b hb => hb.1) hu
        refine this.mono ?_
        rintro e w' ⟨v, h1, h2, h3⟩
        refine ⟨v, h1, ?_, h3⟩
        rw [hls]
        exact h2.keep (fun b hb => ⟨⟨hb.1, by have := hW.size; rcases hb.2 with q | q <;> omega⟩, rfl⟩)
      have hbl3 : begun.length ≤ 3 := by omega
      go_upto_region 5 with fail
      clear x0 x1 x2 hout hls hcnt
      refine wp_region_inv2T (fun T0 => LsaI T0 wr (.agg #[.slice A0 n0 c0, .slice A1 n1 c1, .slice A2 x.clitics.length c2]) (.slice Av nv cv) (.slice Ab begun.length cb) w.heap.size (w.heap.size + 1) w.heap.size j ok begun ls out) (by kernel_rfl) (by kernel_rfl) ?g0a ?gstepa ?genda
      case g0a =>
        have hno : ∀ j, ¬ dn (Array.replicate 13 false) j := by
          intro j; unfold dn; by_cases hj : j < 13 <;> simp [Array.getD, hj]
        have na : ∀ {j : Nat} {Z : Prop}, dn (Array.replicate 13 false) j → Z := fun hj => absurd hj (hno _)
        exact ⟨_, rfl, { bel := (Below.refl _ _).drew, siz := rfl, kp := fun _ _ => rfl, k1 := rfl, k3 := rfl, k8 := rfl, p0 := na, p1 := na, p3 := na, p5 := na, p8 := na, p9 := na, kk := fun _ => rfl, belF := fun _ => (Below.refl _ _).drew, p2 := fun hj => absurd hj (hno _), p4 := fun hj => absurd hj (hno _), p6 := fun hj => absurd hj (hno _), p7 := fun hj => absurd hj (hno _), p10 := fun hj => absurd hj (hno _), p11 := fun hj => absurd hj (hno _), l4 := fun hj => absurd hj (hno _), l7 := fun hj => absurd hj (hno _), l10 := fun hj => absurd hj (hno _), l11 := fun hj => absurd hj (hno _), l12 := fun hj => absurd hj (hno _) }⟩
      case gstepa =>
        intro T0 d a wc i hd hI hi
        obtain ⟨hlt, hnd, hpre⟩ := mem_ready hi
        have hd' : d.size = 13 := hd
        have hin : i < 13 := hlt
        clear hi hd hlt
        obtain ⟨t, rfl, h⟩ := hI
        have hcs : i = 0 ∨ i = 1 ∨ i = 2 ∨ i = 3 ∨ i = 4 ∨ i = 5 ∨ i = 6 ∨ i = 7 ∨ i = 8 ∨ i = 9 ∨ i = 10 ∨ i = 11 ∨ i = 12 := by omega
        rcases hcs with rfl | rfl | rfl | rfl | rfl | rfl | rfl | rfl | rfl | rfl | rfl | rfl | rfl
        · have hi : 0 < d.size := by omega
          have hnd' := not_dn hi hnd
          have q7 := h.kk hnd'
          refine wpOp_plain rfl rfl ?_
          go_simp
          exact ⟨_, rfl, { bel := h.bel, siz := (by simpa using h.siz), kp := rk h.kp, k1 := rs h.k1, k3 := rs h.k3, k8 := rs h.k8, kk := fun hk => absurd (dn_self hi) hk, belF := fun hk => h.belF (fun q => hk (dn_up q)), p2 := fun hj hk => by obtain ⟨u, e1, e2⟩ := h.p2 (dn_of hi hj (by decide)) (fun q => hk (dn_up q)); exact ⟨u, (set_other (by decide)).trans e1, e2⟩, p4 := fun hj hk => by obtain ⟨u, e1, e2⟩ := h.p4 (dn_of hi hj (by decide)) (fun q => hk (dn_up q)); exact ⟨u, (set_other (by decide)).trans e1, e2⟩, p6 := fun hj hk => by obtain ⟨u, e1, e2⟩ := h.p6 (dn_of hi hj (by decide)) (fun q => hk (dn_up q)); exact ⟨u, (set_other (by decide)).trans e1, e2⟩, p7 := fun hj hk => by obtain ⟨u, e1, e2⟩ := h.p7 (dn_of hi hj (by decide)) (fun q => hk (dn_up q)); exact ⟨u, (set_other (by decide)).trans e1, e2⟩, p10 := fun hj hk => by obtain ⟨u, e1, e2⟩ := h.p10 (dn_of hi hj (by decide)) (fun q => hk (dn_up q)); exact ⟨u, (set_other (by decide)).trans e1, e2⟩, p11 := fun hj => by obtain ⟨A, k, cc, e1, e2, e3, e4⟩ := h.p11 (dn_of hi hj (by decide)); exact ⟨A, k, cc, (set_other (by decide)).trans e1, e2, e3, fun h12 => (set_other (by decide)).trans (e4 (dn_of hi h12 (by decide)))⟩, l4 := fun hj => dn_up (h.l4 (dn_of hi hj (by decide))), l7 := fun hj => (fun q => ⟨dn_up q.1, dn_up q.2⟩) (h.l7 (dn_of hi hj (by decide))), l10 := fun hj => dn_up (h.l10 (dn_of hi hj (by decide))), l11 := fun hj => (fun q => ⟨dn_up q.1, dn_up q.2⟩) (h.l11 (dn_of hi hj (by decide))), l12 := fun hj => dn_up (h.l12 (dn_of hi hj (by decide))), p0 := fun _ => set_same (by have := h.siz; omega), p1 := rp hi h.p1, p3 := rp hi h.p3, p5 := rp hi h.p5, p8 := rp hi h.p8, p9 := rp hi h.p9 }⟩
        · have hi : 1 < d.size := by omega
          have q3 := h.k3
          obtain ⟨m0, m1, m2⟩ := BX.out wc h.bel
          refine wpOp_plain rfl rfl ?_
          go_simp
          exact ⟨_, rfl, { bel := h.bel, siz := (by simpa using h.siz), kp := rk h.kp, k1 := rs h.k1, k3 := rs h.k3, k8 := rs h.k8, kk := fun hk => (set_other (by decide)).trans (h.kk (fun q => hk (dn_up q))), belF := fun hk => h.belF (fun q => hk (dn_up q)), p2 := fun hj hk => by obtain ⟨u, e1, e2⟩ := h.p2 (dn_of hi hj (by decide)) (fun q => hk (dn_up q)); exact ⟨u, (set_other (by decide)).trans e1, e2⟩, p4 := fun hj hk => by obtain ⟨u, e1, e2⟩ := h.p4 (dn_of hi hj (by decide)) (fun q => hk (dn_up q)); exact ⟨u, (set_other (by decide)).trans e1, e2⟩, p6 := fun hj hk => by obtain ⟨u, e1, e2⟩ := h.p6 (dn_of hi hj (by decide)) (fun q => hk (dn_up q)); exact ⟨u, (set_other (by decide)).trans e1, e2⟩, p7 := fun hj hk => by obtain ⟨u, e1, e2⟩ := h.p7 (dn_of hi hj (by decide)) (fun q => hk (dn_up q)); exact ⟨u, (set_other (by decide)).trans e1, e2⟩, p10 := fun hj hk => by obtain ⟨u, e1, e2⟩ := h.p10 (dn_of hi hj (by decide)) (fun q => hk (dn_up q)); exact ⟨u, (set_other (by decide)).trans e1, e2⟩, p11 := fun hj => by obtain ⟨A, k, cc, e1, e2, e3, e4⟩ := h.p11 (dn_of hi hj (by decide)); exact ⟨A, k, cc, (set_other (by decide)).trans e1, e2, e3, fun h12 => (set_other (by decide)).trans (e4 (dn_of hi h12 (by decide)))⟩, l4 := fun hj => dn_up (h.l4 (dn_of hi hj (by decide))), l7 := fun hj => (fun q => ⟨dn_up q.1, dn_up q.2⟩) (h.l7 (dn_of hi hj (by decide))), l10 := fun hj => dn_up (h.l10 (dn_of hi hj (by decide))), l11 := fun hj => (fun q => ⟨dn_up q.1, dn_up q.2⟩) (h.l11 (dn_of hi hj (by decide))), l12 := fun hj => dn_up (h.l12 (dn_of hi hj (by decide))), p0 := rp hi h.p0, p1 := fun _ => set_same (by have := h.siz; omega), p3 := rp hi h.p3, p5 := rp hi h.p5, p8 := rp hi h.p8, p9 := rp hi h.p9 }⟩
        · have hi : 2 < d.size := by omega
          have hnd' := not_dn hi hnd
          have h11 : ¬ dn d 11 := fun q => hnd' (h.l4 (h.l7 (h.l10 (h.l11 q).2)).1)
          have hb : Below wc.heap.size wc (wc.alloc (.cells #[] 3)) := (Below.refl _ _).alloc (Nat.le_refl _) _
          refine wpOp_plain rfl rfl ?_
          go_simp
          exact ⟨_, rfl, { bel := h.bel.trans (hb.mono (by have := h.bel.size; omega)), siz := (by simpa using h.siz), kp := rk h.kp, k1 := rs h.k1, k3 := rs h.k3, k8 := rs h.k8, kk := fun hk => (set_other (by decide)).trans (h.kk (fun q => hk (dn_up q))), belF := fun _ => (h.belF h11).trans (hb.mono (h.belF h11).size), p2 := fun _ _ => ⟨_, set_same (by have := h.siz; omega), wc.heap.size, rfl, by simp, own_empty (h.belF h11).size⟩, p4 := fun hj hk => by obtain ⟨u, e1, e2⟩ := h.p4 (dn_of hi hj (by decide)) (fun q => hk (dn_up q)); exact ⟨u, (set_other (by decide)).trans e1, keep_own e2 hb⟩, p6 := fun hj hk => by obtain ⟨u, e1, e2⟩ := h.p6 (dn_of hi hj (by decide)) (fun q => hk (dn_up q)); exact ⟨u, (set_other (by decide)).trans e1, (by obtain ⟨gb, f1, f2, f3⟩ := e2; exact ⟨gb, f1, Nat.lt_of_lt_of_le f2 hb.size, (hb.block gb f2).trans f3⟩)⟩, p7 := fun hj hk => by obtain ⟨u, e1, e2⟩ := h.p7 (dn_of hi hj (by decide)) (fun q => hk (dn_up q)); exact ⟨u, (set_other (by decide)).trans e1, e2.keep (fun b hk' => ⟨⟨Nat.lt_of_lt_of_le hk'.1 hb.size, hk'.2⟩, hb.block b hk'.1⟩)⟩, p10 := fun hj hk => by obtain ⟨u, e1, e2⟩ := h.p10 (dn_of hi hj (by decide)) (fun q => hk (dn_up q)); exact ⟨u, (set_other (by decide)).trans e1, e2.keep (fun b hk' => ⟨⟨Nat.lt_of_lt_of_le hk'.1 hb.size, hk'.2⟩, hb.block b hk'.1⟩)⟩, p11 := fun hj => absurd (dn_of hi hj (by decide)) h11, l4 := fun hj => dn_up (h.l4 (dn_of hi hj (by decide))), l7 := fun hj => (fun q => ⟨dn_up q.1, dn_up q.2⟩) (h.l7 (dn_of hi hj (by decide))), l10 := fun hj => dn_up (h.l10 (dn_of hi hj (by decide))), l11 := fun hj => (fun q => ⟨dn_up q.1, dn_up q.2⟩) (h.l11 (dn_of hi hj (by decide))), l12 := fun hj => dn_up (h.l12 (dn_of hi hj (by decide))), p0 := rp hi h.p0, p1 := rp hi h.p1, p3 := rp hi h.p3, p5 := rp hi h.p5, p8 := rp hi h.p8, p9 := rp hi h.p9 }⟩
        · have hi : 3 < d.size := by omega
          have q1 := h.k1
          refine wpOp_plain rfl rfl ?_
          go_simp
          exact ⟨_, rfl, { bel := h.bel, siz := (by simpa using h.siz), kp := rk h.kp, k1 := rs h.k1, k3 := rs h.k3, k8 := rs h.k8, kk := fun hk => (set_other (by decide)).trans (h.kk (fun q => hk (dn_up q))), belF := fun hk => h.belF (fun q => hk (dn_up q)), p2 := fun hj hk => by obtain ⟨u, e1, e2⟩ := h.p2 (dn_of hi hj (by decide)) (fun q => hk (dn_up q)); exact ⟨u, (set_other (by decide)).trans e1, e2⟩, p4 := fun hj hk => by obtain ⟨u, e1, e2⟩ := h.p4 (dn_of hi hj (by decide)) (fun q => hk (dn_up q)); exact ⟨u, (set_other (by decide)).trans e1, e2⟩, p6 := fun hj hk => by obtain ⟨u, e1, e2⟩ := h.p6 (dn_of hi hj (by decide)) (fun q => hk (dn_up q)); exact ⟨u, (set_other (by decide)).trans e1, e2⟩, p7 := fun hj hk => by obtain ⟨u, e1, e2⟩ := h.p7 (dn_of hi hj (by decide)) (fun q => hk (dn_up q)); exact ⟨u, (set_other (by decide)).trans e1, e2⟩, p10 := fun hj hk => by obtain ⟨u, e1, e2⟩ := h.p10 (dn_of hi hj (by decide)) (fun q => hk (dn_up q)); exact ⟨u, (set_other (by decide)).trans e1, e2⟩, p11 := fun hj => by obtain ⟨A, k, cc, e1, e2, e3, e4⟩ := h.p11 (dn_of hi hj (by decide)); exact ⟨A, k, cc, (set_other (by decide)).trans e1, e2, e3, fun h12 => (set_other (by decide)).trans (e4 (dn_of hi h12 (by decide)))⟩, l4 := fun hj => dn_up (h.l4 (dn_of hi hj (by decide))), l7 := fun hj => (fun q => ⟨dn_up q.1, dn_up q.2⟩) (h.l7 (dn_of hi hj (by decide))), l10 := fun hj => dn_up (h.l10 (dn_of hi hj (by decide))), l11 := fun hj => (fun q => ⟨dn_up q.1, dn_up q.2⟩) (h.l11 (dn_of hi hj (by decide))), l12 := fun hj => dn_up (h.l12 (dn_of hi hj (by decide))), p0 := rp hi h.p0, p1 := rp hi h.p1, p3 := fun _ => set_same (by have := h.siz; omega), p5 := rp hi h.p5, p8 := rp hi h.p8, p9 := rp hi h.p9 }⟩
        · have hi : 4 < d.size := by omega
          have hnd' := not_dn hi hnd
          have h11 : ¬ dn d 11 := fun q => hnd' (h.l7 (h.l10 (h.l11 q).2)).1
          have d2 : dn d 2 := hpre _ rfl ⟨2, .data⟩ (by simp) rfl
          have d3 : dn d 3 := hpre _ rfl ⟨3, .data⟩ (by simp) rfl
          have e3 := h.p3 d3
          obtain ⟨_, e2, ga, rfl, hga, ho⟩ := h.p2 d2 hnd'
          have hvb := VB.out wc h.bel
          refine wpOp_plain rfl rfl ?_
          refine wp_append_rd (enc := encInt) (.tmp 26) (.tmp 27) _ rfl wr.heap.size 3 i1 _ 1 8 len_int one_int Tryd.underlying47 hi1 hz1 hs1 hb1 rfl (by decide) (.slice (some ⟨ga, 0, none⟩) 0 0) 0 [] (eval_tmp e2) ho wc.heap.size (.slice Ab begun.length cb) begun (eval_tmp e3) hvb (by simp only [maxLen]; omega) (by omega) (h.belF h11).size ?_
          intro v' w' hown' hg hat
          simp only [Nat.zero_add, List.nil_append] at hown'
          have hbw : Below wr.heap.size wr w' := below_own_grown (h.belF h11) hg ho (Nat.le_refl _) (h.belF h11).size
          exact ⟨_, rfl, { bel := hbw.mono (by omega), siz := (by simpa using h.siz), kp := rk h.kp, k1 := rs h.k1, k3 := rs h.k3, k8 := rs h.k8, kk := fun hk => (set_other (by decide)).trans (h.kk (fun q => hk (dn_up q))), belF := fun _ => hbw, p2 := fun _ hk => absurd (dn_self hi) hk, p4 := fun _ _ => ⟨v', set_same (by have := h.siz; show 28 < t.size; omega), hown'⟩, p6 := fun hj hk => by obtain ⟨u, e1, gb, f1, f2, f3⟩ := h.p6 (dn_of hi hj (by decide)) (fun q => hk (dn_up q)); exact ⟨u, (set_other (by decide)).trans e1, gb, f1, Nat.lt_of_lt_of_le f2 hg.size, (hg.block _ f2 (fun q => by simp [Value.ownBlock] at q; exact own_ne ho f3 q.symm)).trans f3⟩, p7 := fun hj => absurd (h.l7 (dn_of hi hj (by decide))).1 hnd', p10 := fun hj => absurd (h.l7 (h.l10 (dn_of hi hj (by decide)))).1 hnd', p11 := fun hj => absurd (dn_of hi hj (by decide)) h11, l4 := fun _ => dn_up d2, l7 := fun hj => (fun q => ⟨dn_up q.1, dn_up q.2⟩) (h.l7 (dn_of hi hj (by decide))), l10 := fun hj => dn_up (h.l10 (dn_of hi hj (by decide))), l11 := fun hj => (fun q => ⟨dn_up q.1, dn_up q.2⟩) (h.l11 (dn_of hi hj (by decide))), l12 := fun hj => dn_up (h.l12 (dn_of hi hj (by decide))), p0 := rp hi h.p0, p1 := rp hi h.p1, p3 := rp hi h.p3, p5 := rp hi h.p5, p8 := rp hi h.p8, p9 := rp hi h.p9 }⟩
        · have hi : 5 < d.size := by omega
          have q8 := h.k8
          refine wpOp_plain rfl rfl ?_
          go_simp
          exact ⟨_, rfl, { bel := h.bel, siz := (by simpa using h.siz), kp := rk h.kp, k1 := rs h.k1, k3 := rs h.k3, k8 := rs h.k8, kk := fun hk => (set_other (by decide)).trans (h.kk (fun q => hk (dn_up q))), belF := fun hk => h.belF (fun q => hk (dn_up q)), p2 := fun hj hk => by obtain ⟨u, e1, e2⟩ := h.p2 (dn_of hi hj (by decide)) (fun q => hk (dn_up q)); exact ⟨u, (set_other (by decide)).trans e1, e2⟩, p4 := fun hj hk => by obtain ⟨u, e1, e2⟩ := h.p4 (dn_of hi hj (by decide)) (fun q => hk (dn_up q)); exact ⟨u, (set_other (by decide)).trans e1, e2⟩, p6 := fun hj hk => by obtain ⟨u, e1, e2⟩ := h.p6 (dn_of hi hj (by decide)) (fun q => hk (dn_up q)); exact ⟨u, (set_other (by decide)).trans e1, e2⟩, p7 := fun hj hk => by obtain ⟨u, e1, e2⟩ := h.p7 (dn_of hi hj (by decide)) (fun q => hk (dn_up q)); exact ⟨u, (set_other (by decide)).trans e1, e2⟩, p10 := fun hj hk => by obtain ⟨u, e1, e2⟩ := h.p10 (dn_of hi hj (by decide)) (fun q => hk (dn_up q)); exact ⟨u, (set_other (by decide)).trans e1, e2⟩, p11 := fun hj => by obtain ⟨A, k, cc, e1, e2, e3, e4⟩ := h.p11 (dn_of hi hj (by decide)); exact ⟨A, k, cc, (set_other (by decide)).trans e1, e2, e3, fun h12 => (set_other (by decide)).trans (e4 (dn_of hi h12 (by decide)))⟩, l4 := fun hj => dn_up (h.l4 (dn_of hi hj (by decide))), l7 := fun hj => (fun q => ⟨dn_up q.1, dn_up q.2⟩) (h.l7 (dn_of hi hj (by decide))), l10 := fun hj => dn_up (h.l10 (dn_of hi hj (by decide))), l11 := fun hj => (fun q => ⟨dn_up q.1, dn_up q.2⟩) (h.l11 (dn_of hi hj (by decide))), l12 := fun hj => dn_up (h.l12 (dn_of hi hj (by decide))), p0 := rp hi h.p0, p1 := rp hi h.p1, p3 := rp hi h.p3, p5 := fun _ => set_same (by have := h.siz; omega), p8 := rp hi h.p8, p9 := rp hi h.p9 }⟩
        · have hi : 6 < d.size := by omega
          have hnd' := not_dn hi hnd
          have h11 : ¬ dn d 11 := fun q => hnd' (h.l7 (h.l10 (h.l11 q).2)).2
          have d5 : dn d 5 := hpre _ rfl ⟨5, .data⟩ (by simp) rfl
          have e5 := h.p5 d5
          have hb : Below wc.heap.size wc (wc.alloc (.cells #[.int .i64 (j : Int)] 3)) := (Below.refl _ _).alloc (Nat.le_refl _) _
          refine wpOp_plain rfl rfl ?_
          go_simp
          exact ⟨_, rfl, { bel := h.bel.trans (hb.mono (by have := h.bel.size; omega)), siz := (by simpa using h.siz), kp := rk h.kp, k1 := rs h.k1, k3 := rs h.k3, k8 := rs h.k8, kk := fun hk => (set_other (by decide)).trans (h.kk (fun q => hk (dn_up q))), belF := fun _ => (h.belF h11).trans (hb.mono (h.belF h11).size), p2 := fun hj hk => by obtain ⟨u, e1, e2⟩ := h.p2 (dn_of hi hj (by decide)) (fun q => hk (dn_up q)); exact ⟨u, (set_other (by decide)).trans e1, (by obtain ⟨ga, f1, f2, f3⟩ := e2; exact ⟨ga, f1, Nat.lt_of_lt_of_le f2 hb.size, keep_own f3 hb⟩)⟩, p4 := fun hj hk => by obtain ⟨u, e1, e2⟩ := h.p4 (dn_of hi hj (by decide)) (fun q => hk (dn_up q)); exact ⟨u, (set_other (by decide)).trans e1, keep_own e2 hb⟩, p6 := fun _ _ => ⟨_, set_same (by have := h.siz; omega), wc.heap.size, rfl, by simp, heap_alloc_new _ _⟩, p7 := fun hj hk => by obtain ⟨u, e1, e2⟩ := h.p7 (dn_of hi hj (by decide)) (fun q => hk (dn_up q)); exact ⟨u, (set_other (by decide)).trans e1, e2.keep (fun b hk' => ⟨⟨Nat.lt_of_lt_of_le hk'.1 hb.size, hk'.2⟩, hb.block b hk'.1⟩)⟩, p10 := fun hj hk => by obtain ⟨u, e1, e2⟩ := h.p10 (dn_of hi hj (by decide)) (fun q => hk (dn_up q)); exact ⟨u, (set_other (by decide)).trans e1, e2.keep (fun b hk' => ⟨⟨Nat.lt_of_lt_of_le hk'.1 hb.size, hk'.2⟩, hb.block b hk'.1⟩)⟩, p11 := fun hj => absurd (dn_of hi hj (by decide)) h11, l4 := fun hj => dn_up (h.l4 (dn_of hi hj (by decide))), l7 := fun hj => (fun q => ⟨dn_up q.1, dn_up q.2⟩) (h.l7 (dn_of hi hj (by decide))), l10 := fun hj => dn_up (h.l10 (dn_of hi hj (by decide))), l11 := fun hj => (fun q => ⟨dn_up q.1, dn_up q.2⟩) (h.l11 (dn_of hi hj (by decide))), l12 := fun hj => dn_up (h.l12 (dn_of hi hj (by decide))), p0 := rp hi h.p0, p1 := rp hi h.p1, p3 := rp hi h.p3, p5 := rp hi h.p5, p8 := rp hi h.p8, p9 := rp hi h.p9 }⟩
        · have hi : 7 < d.size := by omega
          have hnd' := not_dn hi hnd
          have h11 : ¬ dn d 11 := fun q => hnd' (h.l10 (h.l11 q).2)
          have d4 : dn d 4 := hpre _ rfl ⟨4, .data⟩ (by simp) rfl
          have d6 : dn d 6 := hpre _ rfl ⟨6, .data⟩ (by simp) rfl
          obtain ⟨u4, e4, ho⟩ := h.p4 d4 hnd'
          obtain ⟨_, e6, gb, rfl, hgb, hs6⟩ := h.p6 d6 hnd'
          refine wpOp_plain rfl rfl ?_
          refine wp_append_rd (enc := encInt) (.tmp 28) (.tmp 30) _ rfl wr.heap.size 3 i1 _ 1 8 len_int one_int Tryd.underlying47 hi1 hz1 hs1 hb1 rfl (by decide) u4 begun.length (begun.flatMap encInt) (eval_tmp e4) ho wc.heap.size (.slice (some ⟨gb, 0, none⟩) 1 1) [(j : Int)] (eval_tmp e6) (rds_block (xs := [(j : Int)]) len_int hs6 rfl hgb (Nat.le_refl 1) (by decide)) (by simp only [maxLen]; show begun.length + 1 ≤ _; omega) (by show (begun.length + 1) * 8 ≤ _; omega) (h.belF h11).size ?_
          intro v' w' hown' hg hat
          have hown2 : w'.ownsRow wr.heap.size 3 1 v' (begun ++ [(j : Int)]).length ((begun ++ [(j : Int)]).flatMap encInt) := by rw [List.length_append, List.flatMap_append]; exact hown'
          have hbw : Below wr.heap.size wr w' := below_own_grown (h.belF h11) hg ho (Nat.le_refl _) (h.belF h11).size
          exact ⟨_, rfl, { bel := hbw.mono (by omega), siz := (by simpa using h.siz), kp := rk h.kp, k1 := rs h.k1, k3 := rs h.k3, k8 := rs h.k8, kk := fun hk => (set_other (by decide)).trans (h.kk (fun q => hk (dn_up q))), belF := fun _ => hbw, p2 := fun _ hk => absurd (dn_up d4) hk, p4 := fun _ hk => absurd (dn_self hi) hk, p6 := fun _ hk => absurd (dn_self hi) hk, p7 := fun _ _ => ⟨v', set_same (by have := h.siz; show 31 < t.size; omega), (rdx_of_own len_int hown2).keep (fun b hb => ⟨⟨hb.2, hb.1⟩, rfl⟩)⟩, p10 := fun hj => absurd (h.l10 (dn_of hi hj (by decide))) hnd', p11 := fun hj => absurd (dn_of hi hj (by decide)) h11, l4 := fun hj => dn_up (h.l4 (dn_of hi hj (by decide))), l7 := fun _ => ⟨dn_up d4, dn_up d6⟩, l10 := fun hj => dn_up (h.l10 (dn_of hi hj (by decide))), l11 := fun hj => (fun q => ⟨dn_up q.1, dn_up q.2⟩) (h.l11 (dn_of hi hj (by decide))), l12 := fun hj => dn_up (h.l12 (dn_of hi hj (by decide))), p0 := rp hi h.p0, p1 := rp hi h.p1, p3 := rp hi h.p3, p5 := rp hi h.p5, p8 := rp hi h.p8, p9 := rp hi h.p9 }⟩
        · have hi : 8 < d.size := by omega
          have q8 := h.k8
          refine wpOp_plain rfl rfl ?_
          go_simp
          exact ⟨_, rfl, { bel := h.bel, siz := (by simpa using h.siz), kp := rk h.kp, k1 := rs h.k1, k3 := rs h.k3, k8 := rs h.k8, kk := fun hk => (set_other (by decide)).trans (h.kk (fun q => hk (dn_up q))), belF := fun hk => h.belF (fun q => hk (dn_up q)), p2 := fun hj hk => by obtain ⟨u, e1, e2⟩ := h.p2 (dn_of hi hj (by decide)) (fun q => hk (dn_up q)); exact ⟨u, (set_other (by decide)).trans e1, e2⟩, p4 := fun hj hk => by obtain ⟨u, e1, e2⟩ := h.p4 (dn_of hi hj (by decide)) (fun q => hk (dn_up q)); exact ⟨u, (set_other (by decide)).trans e1, e2⟩, p6 := fun hj hk => by obtain ⟨u, e1, e2⟩ := h.p6 (dn_of hi hj (by decide)) (fun q => hk (dn_up q)); exact ⟨u, (set_other (by decide)).trans e1, e2⟩, p7 := fun hj hk => by obtain ⟨u, e1, e2⟩ := h.p7 (dn_of hi hj (by decide)) (fun q => hk (dn_up q)); exact ⟨u, (set_other (by decide)).trans e1, e2⟩, p10 := fun hj hk => by obtain ⟨u, e1, e2⟩ := h.p10 (dn_of hi hj (by decide)) (fun q => hk (dn_up q)); exact ⟨u, (set_other (by decide)).trans e1, e2⟩, p11 := fun hj => by obtain ⟨A, k, cc, e1, e2, e3, e4⟩ := h.p11 (dn_of hi hj (by decide)); exact ⟨A, k, cc, (set_other (by decide)).trans e1, e2, e3, fun h12 => (set_other (by decide)).trans (e4 (dn_of hi h12 (by decide)))⟩, l4 := fun hj => dn_up (h.l4 (dn_of hi hj (by decide))), l7 := fun hj => (fun q => ⟨dn_up q.1, dn_up q.2⟩) (h.l7 (dn_of hi hj (by decide))), l10 := fun hj => dn_up (h.l10 (dn_of hi hj (by decide))), l11 := fun hj => (fun q => ⟨dn_up q.1, dn_up q.2⟩) (h.l11 (dn_of hi hj (by decide))), l12 := fun hj => dn_up (h.l12 (dn_of hi hj (by decide))), p0 := rp hi h.p0, p1 := rp hi h.p1, p3 := rp hi h.p3, p5 := rp hi h.p5, p8 := fun _ => set_same (by have := h.siz; omega), p9 := rp hi h.p9 }⟩
        · have hi : 9 < d.size := by omega
          have e8 := h.p8 (hpre _ rfl ⟨8, .data⟩ (by simp) rfl)
          refine wpOp_plain rfl rfl ?_
          go_simp
          simp (disch := omega) only [IntWalk.i64_in]
          exact ⟨_, rfl, { bel := h.bel, siz := (by simpa using h.siz), kp := rk h.kp, k1 := rs h.k1, k3 := rs h.k3, k8 := rs h.k8, kk := fun hk => (set_other (by decide)).trans (h.kk (fun q => hk (dn_up q))), belF := fun hk => h.belF (fun q => hk (dn_up q)), p2 := fun hj hk => by obtain ⟨u, e1, e2⟩ := h.p2 (dn_of hi hj (by decide)) (fun q => hk (dn_up q)); exact ⟨u, (set_other (by decide)).trans e1, e2⟩, p4 := fun hj hk => by obtain ⟨u, e1, e2⟩ := h.p4 (dn_of hi hj (by decide)) (fun q => hk (dn_up q)); exact ⟨u, (set_other (by decide)).trans e1, e2⟩, p6 := fun hj hk => by obtain ⟨u, e1, e2⟩ := h.p6 (dn_of hi hj (by decide)) (fun q => hk (dn_up q)); exact ⟨u, (set_other (by decide)).trans e1, e2⟩, p7 := fun hj hk => by obtain ⟨u, e1, e2⟩ := h.p7 (dn_of hi hj (by decide)) (fun q => hk (dn_up q)); exact ⟨u, (set_other (by decide)).trans e1, e2⟩, p10 := fun hj hk => by obtain ⟨u, e1, e2⟩ := h.p10 (dn_of hi hj (by decide)) (fun q => hk (dn_up q)); exact ⟨u, (set_other (by decide)).trans e1, e2⟩, p11 := fun hj => by obtain ⟨A, k, cc, e1, e2, e3, e4⟩ := h.p11 (dn_of hi hj (by decide)); exact ⟨A, k, cc, (set_other (by decide)).trans e1, e2, e3, fun h12 => (set_other (by decide)).trans (e4 (dn_of hi h12 (by decide)))⟩, l4 := fun hj => dn_up (h.l4 (dn_of hi hj (by decide))), l7 := fun hj => (fun q => ⟨dn_up q.1, dn_up q.2⟩) (h.l7 (dn_of hi hj (by decide))), l10 := fun hj => dn_up (h.l10 (dn_of hi hj (by decide))), l11 := fun hj => (fun q => ⟨dn_up q.1, dn_up q.2⟩) (h.l11 (dn_of hi hj (by decide))), l12 := fun hj => dn_up (h.l12 (dn_of hi hj (by decide))), p0 := rp hi h.p0, p1 := rp hi h.p1, p3 := rp hi h.p3, p5 := rp hi h.p5, p8 := rp hi h.p8, p9 := fun _ => set_same (by have := h.siz; omega) }⟩
        · have hi : 10 < d.size := by omega
          have hnd' := not_dn hi hnd
          have h11 : ¬ dn d 11 := fun q => hnd' (h.l11 q).2
          have d1 : dn d 1 := hpre _ rfl ⟨1, .data⟩ (by simp) rfl
          have d7 : dn d 7 := hpre _ rfl ⟨7, .data⟩ (by simp) rfl
          have d9 : dn d 9 := hpre _ rfl ⟨9, .data⟩ (by simp) rfl
          have e1 := h.p1 d1
          have e9 := h.p9 d9
          obtain ⟨u7, e7, hr7⟩ := h.p7 d7 hnd'
          refine wpOp_plain rfl rfl ?_
          go_simp
          refine (HREC.out wc u7 (h.belF h11) hr7).mono ?_
          rintro e1 w1 ⟨vr, rfl, hrr, hb⟩
          exact ⟨_, rfl, { bel := h.bel.trans (hb.mono (by have := h.bel.size; omega)), siz := (by simpa using h.siz), kp := rk h.kp, k1 := rs h.k1, k3 := rs h.k3, k8 := rs h.k8, kk := fun hk => (set_other (by decide)).trans (h.kk (fun q => hk (dn_up q))), belF := fun _ => (h.belF h11).trans (hb.mono (h.belF h11).size), p2 := fun hj hk => by obtain ⟨u, e1, e2⟩ := h.p2 (dn_of hi hj (by decide)) (fun q => hk (dn_up q)); exact ⟨u, (set_other (by decide)).trans e1, (by obtain ⟨ga, f1, f2, f3⟩ := e2; exact ⟨ga, f1, Nat.lt_of_lt_of_le f2 hb.size, keep_own f3 hb⟩)⟩, p4 := fun hj hk => by obtain ⟨u, e1, e2⟩ := h.p4 (dn_of hi hj (by decide)) (fun q => hk (dn_up q)); exact ⟨u, (set_other (by decide)).trans e1, keep_own e2 hb⟩, p6 := fun hj hk => by obtain ⟨u, e1, e2⟩ := h.p6 (dn_of hi hj (by decide)) (fun q => hk (dn_up q)); exact ⟨u, (set_other (by decide)).trans e1, (by obtain ⟨gb, f1, f2, f3⟩ := e2; exact ⟨gb, f1, Nat.lt_of_lt_of_le f2 hb.size, (hb.block gb f2).trans f3⟩)⟩, p7 := fun _ hk => absurd (dn_self hi) hk, p10 := fun _ _ => ⟨vr, set_same (by have := h.siz; omega), hrr⟩, p11 := fun hj => absurd (dn_of hi hj (by decide)) h11, l4 := fun hj => dn_up (h.l4 (dn_of hi hj (by decide))), l7 := fun hj => (fun q => ⟨dn_up q.1, dn_up q.2⟩) (h.l7 (dn_of hi hj (by decide))), l10 := fun _ => dn_up d7, l11 := fun hj => (fun q => ⟨dn_up q.1, dn_up q.2⟩) (h.l11 (dn_of hi hj (by decide))), l12 := fun hj => dn_up (h.l12 (dn_of hi hj (by decide))), p0 := rp hi h.p0, p1 := rp hi h.p1, p3 := rp hi h.p3, p5 := rp hi h.p5, p8 := rp hi h.p8, p9 := rp hi h.p9 }⟩
        · have hi : 11 < d.size := by omega
          have hnd' := not_dn hi hnd
          have d0 : dn d 0 := hpre _ rfl ⟨0, .data⟩ (by simp) rfl
          have d10 : dn d 10 := hpre _ rfl ⟨10, .data⟩ (by simp) rfl
          have e0 := h.p0 d0
          obtain ⟨u, e10, hr10⟩ := h.p10 d10 hnd'
          obtain ⟨ys, hyl, hys, hyg⟩ := rdg_rows hr10 (fun b hb => hb.1)
          have hbl := h.belF hnd'
          obtain ⟨cells, hown, hrows, hnn⟩ := OUT.out.kept (N' := fun b => b < wc.heap.size ∧ (ok b ∨ w.heap.size ≤ b)) hbl (fun b hb => ⟨Nat.lt_of_lt_of_le hb.1 hbl.size, hb.2⟩)
          refine wpOp_plain rfl rfl ?_
          refine wp_append_rd (enc := encSl) (.tmp 24) (.tmp 34) _ rfl (w.heap.size + 1) 47 i9 _ 1 24 len_sl one_sl Tryd.underlying88 hi9 hz9 hs9 hb9 rfl (by decide) (.slice Av nv cv) out.length cells (eval_tmp e0) hown wc.heap.size u ys (eval_tmp e10) hys (by simp only [maxLen]; omega) (by omega) (by have := hbl.size; omega) ?_
          intro v' w' hown' hg hat
          obtain ⟨A', c', hv'⟩ := own_form hown'
          subst hv'
          have hOG : OwnN KInts 47 w' (w.heap.size + 1) (fun b => b < w'.heap.size ∧ (ok b ∨ w.heap.size ≤ b)) (.slice A' (out.length + ys.length) c') (out ++ ls) := OwnN.more hrows hnn (hyg.keep (fun b hb => ⟨⟨⟨hb.1, .inr (by omega)⟩, (fun q => by have := (hvlt _ q).2; omega)⟩, rfl⟩)) (by rw [← hyl]; exact hown') hg hat (fun b hb => ⟨⟨Nat.lt_of_lt_of_le hb.1 hg.size, hb.2⟩, hb.1⟩)
          have hgr : wr.grownBy w' (Value.slice Av nv cv).ownBlock := grown_after (grown_of_below hbl) hg (.inl rfl)
          exact ⟨_, rfl, { bel := (Below.refl _ wr).grown hgr (by omega) (fun q hq => (hvlt q hq).1), siz := (by simpa using h.siz), kp := rk h.kp, k1 := rs h.k1, k3 := rs h.k3, k8 := rs h.k8, kk := fun hk => (set_other (by decide)).trans (h.kk (fun q => hk (dn_up q))), belF := fun hk => absurd (dn_self hi) hk, p2 := fun _ hk => absurd (dn_up (h.l7 (h.l10 d10)).1) hk, p4 := fun _ hk => absurd (dn_up (h.l10 d10)) hk, p6 := fun _ hk => absurd (dn_up (h.l10 d10)) hk, p7 := fun _ hk => absurd (dn_up d10) hk, p10 := fun _ hk => absurd (dn_self hi) hk, p11 := fun _ => ⟨A', _, c', set_same (by have := h.siz; show 35 < t.size; omega), hOG, hgr, fun h12 => absurd (h.l12 (dn_of hi h12 (by decide))) hnd'⟩, l4 := fun hj => dn_up (h.l4 (dn_of hi hj (by decide))), l7 := fun hj => (fun q => ⟨dn_up q.1, dn_up q.2⟩) (h.l7 (dn_of hi hj (by decide))), l10 := fun hj => dn_up (h.l10 (dn_of hi hj (by decide))), l11 := fun _ => ⟨dn_up d0, dn_up d10⟩, l12 := fun hj => dn_up (h.l12 (dn_of hi hj (by decide))), p0 := rp hi h.p0, p1 := rp hi h.p1, p3 := rp hi h.p3, p5 := rp hi h.p5, p8 := rp hi h.p8, p9 := rp hi h.p9 }⟩
        · have hi : 12 < d.size := by omega
          have hnd' := not_dn hi hnd
          have d11 : dn d 11 := hpre _ rfl ⟨11, .data⟩ (by simp) rfl
          obtain ⟨A', n', c', e11, hOG, hgr, -⟩ := h.p11 d11
          refine wpOp_plain rfl rfl ?_
          go_simp
          exact ⟨_, rfl, { bel := h.bel, siz := (by simpa using h.siz), kp := rk h.kp, k1 := rs h.k1, k3 := rs h.k3, k8 := rs h.k8, kk := fun hk => absurd (dn_up (h.l11 d11).1) hk, belF := fun hk => h.belF (fun q => hk (dn_up q)), p2 := fun hj hk => by obtain ⟨u, e1, e2⟩ := h.p2 (dn_of hi hj (by decide)) (fun q => hk (dn_up q)); exact ⟨u, (set_other (by decide)).trans e1, e2⟩, p4 := fun hj hk => by obtain ⟨u, e1, e2⟩ := h.p4 (dn_of hi hj (by decide)) (fun q => hk (dn_up q)); exact ⟨u, (set_other (by decide)).trans e1, e2⟩, p6 := fun hj hk => by obtain ⟨u, e1, e2⟩ := h.p6 (dn_of hi hj (by decide)) (fun q => hk (dn_up q)); exact ⟨u, (set_other (by decide)).trans e1, e2⟩, p7 := fun hj hk => by obtain ⟨u, e1, e2⟩ := h.p7 (dn_of hi hj (by decide)) (fun q => hk (dn_up q)); exact ⟨u, (set_other (by decide)).trans e1, e2⟩, p10 := fun hj hk => by obtain ⟨u, e1, e2⟩ := h.p10 (dn_of hi hj (by decide)) (fun q => hk (dn_up q)); exact ⟨u, (set_other (by decide)).trans e1, e2⟩, p11 := fun _ => ⟨A', n', c', (set_other (by decide)).trans e11, hOG, hgr, fun _ => set_same (by have := h.siz; omega)⟩, l4 := fun hj => dn_up (h.l4 (dn_of hi hj (by decide))), l7 := fun hj => (fun q => ⟨dn_up q.1, dn_up q.2⟩) (h.l7 (dn_of hi hj (by decide))), l10 := fun hj => dn_up (h.l10 (dn_of hi hj (by decide))), l11 := fun hj => (fun q => ⟨dn_up q.1, dn_up q.2⟩) (h.l11 (dn_of hi hj (by decide))), l12 := fun _ => dn_up d11, p0 := rp hi h.p0, p1 := rp hi h.p1, p3 := rp hi h.p3, p5 := rp hi h.p5, p8 := rp hi h.p8, p9 := rp hi h.p9 }⟩
      case genda =>
        intro d a wc hd hI hall
        obtain ⟨t, rfl, h⟩ := hI
        have hdn : ∀ j, j < 13 → dn d j := fun j hj => dn_all hd hall hj
        have hd : ∀ j, (_ : j < 13 := by decide) → dn d j := fun j hj => hdn j hj
        obtain ⟨t7, x7⟩ : ∃ v, t[7]? = some v := ⟨_, Array.getElem?_eq_getElem (by have := h.siz; omega)⟩
        obtain ⟨t26, x26⟩ : ∃ v, t[26]? = some v := ⟨_, Array.getElem?_eq_getElem (by have := h.siz; omega)⟩
        obtain ⟨t28, x28⟩ : ∃ v, t[28]? = some v := ⟨_, Array.getElem?_eq_getElem (by have := h.siz; omega)⟩
        obtain ⟨t30, x30⟩ : ∃ v, t[30]? = some v := ⟨_, Array.getElem?_eq_getElem (by have := h.siz; omega)⟩
        obtain ⟨t31, x31⟩ : ∃ v, t[31]? = some v := ⟨_, Array.getElem?_eq_getElem (by have := h.siz; omega)⟩
        obtain ⟨t34, x34⟩ : ∃ v, t[34]? = some v := ⟨_, Array.getElem?_eq_getElem (by have := h.siz; omega)⟩
        obtain ⟨t35, x35⟩ : ∃ v, t[35]? = some v := ⟨_, Array.getElem?_eq_getElem (by have := h.siz; omega)⟩
        obtain ⟨A', n', c', -, hOG, hgr, h7⟩ := h.p11 (hd 11)
        have e7 := h7 (hd 12)
        obtain rfl : t7 = .slice A' n' c' := by rw [x7] at e7; simpa using e7
        have hfe := frame_eq [(7, _), (24, _), (25, _), (26, _), (27, _), (28, _), (29, _), (30, _), (31, _), (32, _), (33, _), (34, _), (35, _)] (h.siz.trans rfl) h.kp rfl ⟨x7, h.p0 (hd 0), h.p1 (hd 1), x26, h.p3 (hd 3), x28, h.p5 (hd 5), x30, x31, h.p8 (hd 8), h.p9 (hd 9), x34, x35, trivial⟩
        simp only [List.foldl_cons, List.foldl_nil, List.setIfInBounds_toArray, List.set_cons_succ, List.set_cons_zero] at hfe
        have hbc := h.bel
        subst hfe
        clear h hdn hd hall
        have hsc := hgr.size
        have HOGC : Hid (OwnN KInts 47 wc (w.heap.size + 1) (fun b => b < wc.heap.size ∧ (ok b ∨ w.heap.size ≤ b)) (.slice A' n' c') (Lx.listsTo x.clitics.length K begun first (j + 1))) := Lib.hid (by rw [HN.out]; exact hOG)
        have HBC : Hid (Below w.heap.size w wc) := Lib.hid (HBEL.out.grown hgr (by omega) (fun q hq => by have := (hvlt q hq).1; omega))
        have HXC := Lib.hid ((hgr.block w.heap.size (by omega) (fun q => by have := (hvlt _ q.symm).1; omega)).trans HX.out)
        clear hOG hgr h7 e7 hbc
        go_wp2_with fail
        go_roundg (x.clitics.length - (j + 1))
        case measure => omega
        case rel => exact ⟨j + 1, by omega, by omega, (fun h => by omega), rfl, by go_num, ⟨_, _, _, rfl⟩, HOGC.out, HBC.out, by omega, HXC.out⟩
    · have HF : Hid (Lx.listsV x.clitics.length k begun first = Lx.listsTo x.clitics.length (k - 1) begun first j) := Lib.hid (by
        cases k with
        | zero => rw [hk0 rfl, Lx.listsTo_start]; rfl
        | succ K => rw [show j = x.clitics.length by omega]; rfl)
      by_cases hlt : j < x.clitics.length
      · have hl3 : begun.length = 3 := by omega
        have hjI : (j : Int) < (x.clitics.length : Int) := by omega
        have hlI : ¬ (begun.length : Int) < 3 := by omega
        go_wp2_with fail
        go_ret
        exact ⟨_, rfl, by rw [HF.out]; exact HOG.out.rd _ (fun b hb => hb) (fun b h1 h2 => ⟨h2, .inr (by omega)⟩), HBEL.out⟩
      · have hjI : ¬ (j : Int) < (x.clitics.length : Int) := by omega
        go_wp2_with fail
        go_ret
        exact ⟨_, rfl, by rw [HF.out]; exact HOG.out.rd _ (fun b hb => hb) (fun b h1 h2 => ⟨h2, .inr (by omega)⟩), HBEL.out⟩
theorem rlists_any (x : Lx.Lexicon) (h : x.clitics.length ≤ 10) : ∀ k, ListsSays x k
  | 0 => lists_step x h 0 (fun k h => by cases h)
  | k + 1 => lists_step x h (k + 1) (fun k' e => by cases e; exact rlists_any x h k)
end Go.Proofs.YtpmnpnlfgfleeaaDoor
