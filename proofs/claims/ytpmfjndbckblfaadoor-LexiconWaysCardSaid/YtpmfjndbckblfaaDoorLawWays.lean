/- ostraconlaw05.LexiconWays: the walk. Made by gen_lawways.py. -/
import Derived.Test.YtpmfjndbckblfaaDoorRReach
import Derived.Test.YtpmfjndbckblfaaDoorFar
import Derived.Test.YtpmfjndbckblfaaDoorWorks
import Derived.Test.YtpmfjndbckblfaaDoorCopy
namespace Go.Proofs.YtpmfjndbckblfaaDoor
open Go.RowKit

theorem Lx.ats_part {x : Lx.Lexicon} {s : ByteArray} (h : Lx.checkV x = 0) {i t : Nat} (hi : i < t) (ht : t ≤ s.size) : Lx.cR x s i t = (Lx.withK (Lx.ats x s i) (t - i)).length := by
  have hs : (s.extract i s.size).size = s.size - i := by simp [ByteArray.size_extract]
  unfold Lx.cR Lx.ats
  rw [Lx.with_law h (by rw [hs]; omega)]
  congr 2
  unfold Lx.part
  rw [List.drop_zero, Nat.sub_zero, Lib.extract_to_end]
  simp [ByteArray.data_extract]
theorem Lx.ats_ok {x : Lx.Lexicon} {s : ByteArray} (h : Lx.checkV x = 0) : ∀ i, i < s.size → ∀ m ∈ Lx.ats x s i, 1 ≤ m.long ∧ m.long ≤ s.size - i ∧ m.long ≤ 24 := fun i hi m hm => by
  have h1 := Lx.matchesV_fits h m hm
  have h2 := h1.le
  rw [ByteArray.size_extract] at h2
  exact ⟨h1.pos, by omega, Lx.matchesV_far h m hm⟩
def Lx.waysV (x : Lx.Lexicon) (s : ByteArray) : Int := if Lx.speechV x s = 0 then (Lx.wayT (Lx.ats x s) s.size s.size 0 : Nat) else 0
def Lx.farestV (x : Lx.Lexicon) (s : ByteArray) : Int := if Lx.speechV x s = 0 then (Lx.farT (Lx.reachT (Lx.ats x s) s.size) s.size : Nat) else 0
theorem Lx.ways_law {x : Lx.Lexicon} {s : ByteArray} (h : Lx.checkV x = 0) : Lx.wayT (Lx.ats x s) s.size s.size 0 = Lx.rwayT (Lx.cR x s) s.size s.size 0 :=
  Lx.way_law (Lx.ats_ok h) (fun _ _ hi ht => Lx.ats_part h hi ht) _ (Nat.le_refl _) 0
theorem Lx.reaches_law {x : Lx.Lexicon} {s : ByteArray} (h : Lx.checkV x = 0) : Lx.reachT (Lx.ats x s) s.size = Lx.rreachT (Lx.cR x s) s.size s.size :=
  funext fun j => Lx.reach_law (Lx.ats_ok h) (fun _ _ hi ht => Lx.ats_part h hi ht) _ (Nat.le_refl _) j

theorem Ways_any (x : Lx.Lexicon) (s : ByteArray) (vx : Value) (w : World) (hr : RdL w w.heap.size vx x) (hs : s.size ≤ 1000) : Calls Tryd.prog 30 #[vx, .string s] w (RetNN (Lx.waysV x s) (Lx.speechV x s) w) := by
  by_cases hz : Lx.speechV x s = 0
  · have h := Ways_good x s vx w hr hz
    have e : Lx.waysV x s = ((Lx.wayT (Lx.ats x s) s.size s.size 0 : Nat) : Int) := by unfold Lx.waysV; rw [if_pos hz]
    rw [e, hz]
    exact h
  · have h := Ways_bad x s vx w hr hs hz
    have e : Lx.waysV x s = 0 := by unfold Lx.waysV; rw [if_neg hz]
    rw [e]
    exact h

theorem rWays_any (x : Lx.Lexicon) (s : ByteArray) (vx : Value) (w : World) (hr : RdL w w.heap.size vx x) (hs : s.size ≤ 1000) : Calls Tryd.prog 31 #[vx, .string s] w (RetNN (Lx.waysV x s) (Lx.speechV x s) w) := by
  by_cases hz : Lx.speechV x s = 0
  · have h := rWays_good x s vx w hr hz
    have e : Lx.waysV x s = ((Lx.rwayT (Lx.cR x s) s.size s.size 0 : Nat) : Int) := by unfold Lx.waysV; rw [if_pos hz]; rw [Lx.ways_law (Lx.speech_parts hz).1]
    rw [e, hz]
    exact h
  · have h := rWays_bad x s vx w hr hs hz
    have e : Lx.waysV x s = 0 := by unfold Lx.waysV; rw [if_neg hz]
    rw [e]
    exact h

theorem Reach_any (x : Lx.Lexicon) (s : ByteArray) (vx : Value) (w : World) (hr : RdL w w.heap.size vx x) (hs : s.size ≤ 1000) : Calls Tryd.prog 32 #[vx, .string s] w (RetNN (Lx.farestV x s) (Lx.speechV x s) w) := by
  by_cases hz : Lx.speechV x s = 0
  · have h := Reach_good x s vx w hr hz
    have e : Lx.farestV x s = ((Lx.farT (Lx.reachT (Lx.ats x s) s.size) s.size : Nat) : Int) := by unfold Lx.farestV; rw [if_pos hz]
    rw [e, hz]
    exact h
  · have h := Reach_bad x s vx w hr hs hz
    have e : Lx.farestV x s = 0 := by unfold Lx.farestV; rw [if_neg hz]
    rw [e]
    exact h

theorem rReach_any (x : Lx.Lexicon) (s : ByteArray) (vx : Value) (w : World) (hr : RdL w w.heap.size vx x) (hs : s.size ≤ 1000) : Calls Tryd.prog 33 #[vx, .string s] w (RetNN (Lx.farestV x s) (Lx.speechV x s) w) := by
  by_cases hz : Lx.speechV x s = 0
  · have h := rReach_good x s vx w hr hz
    have e : Lx.farestV x s = ((Lx.farT (Lx.rreachT (Lx.cR x s) s.size s.size) s.size : Nat) : Int) := by unfold Lx.farestV; rw [if_pos hz]; rw [Lx.reaches_law (Lx.speech_parts hz).1]
    rw [e, hz]
    exact h
  · have h := rReach_bad x s vx w hr hs hz
    have e : Lx.farestV x s = 0 := by unfold Lx.farestV; rw [if_neg hz]
    rw [e]
    exact h
structure YaR (T0 : Array Value) (W0 : World) (xv : Value) (bs : Nat) (x : Lx.Lexicon) (s : ByteArray) (a1 a2 : Int) (d : Array Bool) (t : Array Value) (wc : World) : Prop where
  bel : Below W0.heap.size W0 wc
  siz : t.size = 69
  kp : ∀ i, i ∉ ([3, 4, 14, 15, 16, 17, 18, 19, 20, 21, 22] : List Nat) → t[i]? = T0[i]?
  k1 : t[1]? = some (.pointer (some ⟨bs, 0, none⟩))
  p0 : dn d 0 → t[15]? = some (.pointer (some ⟨bs, 0, none⟩))
  p1 : dn d 1 → t[16]? = some (xv)
  p2 : dn d 2 → ∃ v, t[17]? = some v ∧ RdL wc wc.heap.size v x
  p3 : dn d 3 → t[18]? = some (.pointer (some ⟨bs, 3, none⟩))
  p4 : dn d 4 → t[19]? = some (.string s)
  p5 : dn d 5 → t[20]? = some (.tuple #[.int .i64 a1, .int .i64 a2])
  p6 : dn d 6 → t[14]? = some (.tuple #[.int .i64 a1, .int .i64 a2])
  p7 : dn d 7 → t[21]? = some (.int .i64 a1)
  p8 : dn d 8 → t[22]? = some (.int .i64 a2)
  p9 : dn d 9 → t[3]? = some (.int .i64 a1)
  p10 : dn d 10 → t[4]? = some (.int .i64 a2)
def YaI (T0 : Array Value) (W0 : World) (xv : Value) (bs : Nat) (x : Lx.Lexicon) (s : ByteArray) (a1 a2 : Int) (d : Array Bool) (a : Act) (wc : World) : Prop := ∃ t : Array Value, a = ⟨t, []⟩ ∧ YaR T0 W0 xv bs x s a1 a2 d t wc
structure YbR (T0 : Array Value) (W0 : World) (xv : Value) (bs : Nat) (x : Lx.Lexicon) (s : ByteArray) (a1 a2 : Int) (d : Array Bool) (t : Array Value) (wc : World) : Prop where
  bel : Below W0.heap.size W0 wc
  siz : t.size = 69
  kp : ∀ i, i ∉ ([7, 8, 31, 32, 33, 34, 35, 36, 37, 38, 39] : List Nat) → t[i]? = T0[i]?
  k1 : t[1]? = some (.pointer (some ⟨bs, 0, none⟩))
  p0 : dn d 0 → t[32]? = some (.pointer (some ⟨bs, 0, none⟩))
  p1 : dn d 1 → t[33]? = some (xv)
  p2 : dn d 2 → ∃ v, t[34]? = some v ∧ RdL wc wc.heap.size v x
  p3 : dn d 3 → t[35]? = some (.pointer (some ⟨bs, 3, none⟩))
  p4 : dn d 4 → t[36]? = some (.string s)
  p5 : dn d 5 → t[37]? = some (.tuple #[.int .i64 a1, .int .i64 a2])
  p6 : dn d 6 → t[31]? = some (.tuple #[.int .i64 a1, .int .i64 a2])
  p7 : dn d 7 → t[38]? = some (.int .i64 a1)
  p8 : dn d 8 → t[39]? = some (.int .i64 a2)
  p9 : dn d 9 → t[7]? = some (.int .i64 a1)
  p10 : dn d 10 → t[8]? = some (.int .i64 a2)
def YbI (T0 : Array Value) (W0 : World) (xv : Value) (bs : Nat) (x : Lx.Lexicon) (s : ByteArray) (a1 a2 : Int) (d : Array Bool) (a : Act) (wc : World) : Prop := ∃ t : Array Value, a = ⟨t, []⟩ ∧ YbR T0 W0 xv bs x s a1 a2 d t wc

set_option maxRecDepth 100000 in
set_option maxHeartbeats 8000000 in
theorem LexiconWays_any (vs : Value) (x : Lx.Lexicon) (s : ByteArray) (w : World) (hs : ∃ v0 v1 v2, vs = .agg #[v0, v1, v2, .string s] ∧ RdL w w.heap.size (.agg #[v0, v1, v2]) x) (hsz : s.size ≤ maxLen) :
    Calls Tryd.prog 6 #[vs] w (RetBB true w) := by
  obtain ⟨v0, v1, v2, rfl, hr⟩ := hs
  have HR := Lib.hid hr
  obtain ⟨⟨_, _, _, e, ⟨A0, c0, rfl, -⟩, ⟨A1, c1, rfl, -⟩, ⟨A2, c2, rfl, -⟩⟩, -, -, -⟩ := hr
  cases e
  have hs0 : s.size ≤ 9223372036854775807 := by simpa [maxLen] using hsz
  obtain ⟨wA, hwA⟩ : ∃ wA, wA = w.alloc (.cells #[.slice A0 x.entries.length c0, .slice A1 x.endings.length c1, .slice A2 x.clitics.length c2, .string s] 40) := ⟨_, rfl⟩
  have hba : Below w.heap.size w wA := by rw [hwA]; exact (Below.refl _ _).alloc (Nat.le_refl _) _
  have hsa : wA.heap.size = w.heap.size + 1 := by rw [hwA]; simp
  have hX : wA.heap[w.heap.size]? = some (.cells #[.slice A0 x.entries.length c0, .slice A1 x.endings.length c1, .slice A2 x.clitics.length c2, .string s] 40 (0, 0)) := by rw [hwA]; exact heap_alloc_new _ _
  have BXA : Hid (∀ W, Below wA.heap.size wA W → W.cell? ⟨w.heap.size, 0, none⟩ = some (.slice A0 x.entries.length c0) ∧ W.cell? ⟨w.heap.size, 1, none⟩ = some (.slice A1 x.endings.length c1) ∧ W.cell? ⟨w.heap.size, 2, none⟩ = some (.slice A2 x.clitics.length c2) ∧
      W.cell? ⟨w.heap.size, 3, none⟩ = some (.string s)) := Lib.hid fun W hW => by
    have a := (hW.block w.heap.size (by omega)).trans hX
    exact ⟨by simp [World.cell?, a], by simp [World.cell?, a], by simp [World.cell?, a], by simp [World.cell?, a]⟩
  have HBA := Lib.hid hba
  have HGL := Lib.hid (fun (W : World) (hW : Below wA.heap.size wA W) => rdl_keep' (hba.trans (hW.mono hba.size)) HR.out)
  have HFAR := Lib.hid (fun (W : World) (hW : Below wA.heap.size wA W) => far_any _ _ _ x s W (HGL.out W hW) hsz)
  have HWA := Lib.hid hwA
  clear hba hX hsz
  go_enter Tryd.func6, Tryd.ntmps6
  go_wp2_with fail
  rw [← HWA.out]
  obtain ⟨g0, g1, g2, g3⟩ := BXA.out wA (Below.refl _ _)
  go_wp2_with fail
  refine (HFAR.out wA (Below.refl _ _)).mono ?_
  rintro e1 w1 ⟨rfl, hb1⟩
  have H1 := Lib.hid hb1
  clear g0 g1 g2 g3 hb1 hwA HWA hsa
  cases hfar : Lx.farV x s
  · have hsmall : x.entries.length ≤ 210 ∧ x.endings.length ≤ 50 ∧ x.clitics.length ≤ 15 ∧ s.size ≤ 100 := by
      simp [Lx.farV, Lx.largeV, Lx.bigV] at hfar; omega
    obtain ⟨hs1, hs2, hs3, hs4⟩ := hsmall
    clear hfar
    have HCPY := Lib.hid (fun (W : World) (hW : Below wA.heap.size wA W) => rCopy_any _ x W (HGL.out W hW) (by omega) (by omega) (by omega))
    go_wp2_with fail
    refine wp_region_inv2T (fun T0 => YaI T0 w1 (.agg #[.slice A0 x.entries.length c0, .slice A1 x.endings.length c1, .slice A2 x.clitics.length c2]) w.heap.size x s (Lx.waysV x s) (Lx.speechV x s)) (by kernel_rfl) (by kernel_rfl) ?g0a ?gstepa ?genda
    case g0a =>
      have hno : ∀ j, ¬ dn (Array.replicate 11 false) j := by
        intro j; unfold dn; by_cases hj : j < 11 <;> simp [Array.getD, hj]
      exact ⟨_, rfl, { bel := (Below.refl _ _).drew, siz := rfl, kp := fun _ _ => rfl, k1 := rfl, p0 := fun hj => absurd hj (hno _), p1 := fun hj => absurd hj (hno _), p2 := fun hj => absurd hj (hno _), p3 := fun hj => absurd hj (hno _), p4 := fun hj => absurd hj (hno _), p5 := fun hj => absurd hj (hno _), p6 := fun hj => absurd hj (hno _), p7 := fun hj => absurd hj (hno _), p8 := fun hj => absurd hj (hno _), p9 := fun hj => absurd hj (hno _), p10 := fun hj => absurd hj (hno _) }⟩
    case gstepa =>
      intro T0 d a wc i hd hI hi
      obtain ⟨hlt, hnd, hpre⟩ := mem_ready hi
      have hd' : d.size = 11 := hd
      have hin : i < 11 := hlt
      clear hi hd hlt
      obtain ⟨t, rfl, h⟩ := hI
      have hcs : i = 0 ∨ i = 1 ∨ i = 2 ∨ i = 3 ∨ i = 4 ∨ i = 5 ∨ i = 6 ∨ i = 7 ∨ i = 8 ∨ i = 9 ∨ i = 10 := by omega
      rcases hcs with rfl | rfl | rfl | rfl | rfl | rfl | rfl | rfl | rfl | rfl | rfl
      · have hi : 0 < d.size := by omega
        have q1 := h.k1
        refine wpOp_plain rfl rfl ?_
        go_simp
        exact ⟨_, rfl, { bel := h.bel, siz := (by simpa using h.siz), kp := fun i hi' => (set_other (fun e => hi' (by subst e; decide))).trans (h.kp i hi'), k1 := (set_other (by decide)).trans h.k1, p0 := fun _ => set_same (by have := h.siz; omega), p1 := fun hj => (set_other (by decide)).trans (h.p1 (dn_of hi hj (by decide))), p2 := fun hj => (by obtain ⟨v, h1, h2⟩ := (h.p2 (dn_of hi hj (by decide))); exact ⟨v, (set_other (by decide)).trans h1, rdl_keep' (Below.refl _ _) h2⟩), p3 := fun hj => (set_other (by decide)).trans (h.p3 (dn_of hi hj (by decide))), p4 := fun hj => (set_other (by decide)).trans (h.p4 (dn_of hi hj (by decide))), p5 := fun hj => (set_other (by decide)).trans (h.p5 (dn_of hi hj (by decide))), p6 := fun hj => (set_other (by decide)).trans (h.p6 (dn_of hi hj (by decide))), p7 := fun hj => (set_other (by decide)).trans (h.p7 (dn_of hi hj (by decide))), p8 := fun hj => (set_other (by decide)).trans (h.p8 (dn_of hi hj (by decide))), p9 := fun hj => (set_other (by decide)).trans (h.p9 (dn_of hi hj (by decide))), p10 := fun hj => (set_other (by decide)).trans (h.p10 (dn_of hi hj (by decide))) }⟩
      · have hi : 1 < d.size := by omega
        have e0 := h.p0 (hpre _ rfl ⟨0, .data⟩ (by simp) rfl)
        obtain ⟨m0, m1, m2, m3⟩ := BXA.out wc (H1.out.trans (h.bel.mono H1.out.size))
        refine wpOp_plain rfl rfl ?_
        go_simp
        exact ⟨_, rfl, { bel := h.bel, siz := (by simpa using h.siz), kp := fun i hi' => (set_other (fun e => hi' (by subst e; decide))).trans (h.kp i hi'), k1 := (set_other (by decide)).trans h.k1, p0 := fun hj => (set_other (by decide)).trans (h.p0 (dn_of hi hj (by decide))), p1 := fun _ => set_same (by have := h.siz; omega), p2 := fun hj => (by obtain ⟨v, h1, h2⟩ := (h.p2 (dn_of hi hj (by decide))); exact ⟨v, (set_other (by decide)).trans h1, rdl_keep' (Below.refl _ _) h2⟩), p3 := fun hj => (set_other (by decide)).trans (h.p3 (dn_of hi hj (by decide))), p4 := fun hj => (set_other (by decide)).trans (h.p4 (dn_of hi hj (by decide))), p5 := fun hj => (set_other (by decide)).trans (h.p5 (dn_of hi hj (by decide))), p6 := fun hj => (set_other (by decide)).trans (h.p6 (dn_of hi hj (by decide))), p7 := fun hj => (set_other (by decide)).trans (h.p7 (dn_of hi hj (by decide))), p8 := fun hj => (set_other (by decide)).trans (h.p8 (dn_of hi hj (by decide))), p9 := fun hj => (set_other (by decide)).trans (h.p9 (dn_of hi hj (by decide))), p10 := fun hj => (set_other (by decide)).trans (h.p10 (dn_of hi hj (by decide))) }⟩
      · have hi : 2 < d.size := by omega
        have e1 := h.p1 (hpre _ rfl ⟨1, .data⟩ (by simp) rfl)
        refine wpOp_plain rfl rfl ?_
        go_simp
        refine (HCPY.out wc (H1.out.trans (h.bel.mono H1.out.size))).mono ?_
        rintro e1 w1 ⟨v1, rfl, hr1, hb⟩
        exact ⟨_, rfl, { bel := h.bel.trans (hb.mono h.bel.size), siz := (by simpa using h.siz), kp := fun i hi' => (set_other (fun e => hi' (by subst e; decide))).trans (h.kp i hi'), k1 := (set_other (by decide)).trans h.k1, p0 := fun hj => (set_other (by decide)).trans (h.p0 (dn_of hi hj (by decide))), p1 := fun hj => (set_other (by decide)).trans (h.p1 (dn_of hi hj (by decide))), p2 := fun _ => ⟨v1, set_same (by have := h.siz; omega), hr1⟩, p3 := fun hj => (set_other (by decide)).trans (h.p3 (dn_of hi hj (by decide))), p4 := fun hj => (set_other (by decide)).trans (h.p4 (dn_of hi hj (by decide))), p5 := fun hj => (set_other (by decide)).trans (h.p5 (dn_of hi hj (by decide))), p6 := fun hj => (set_other (by decide)).trans (h.p6 (dn_of hi hj (by decide))), p7 := fun hj => (set_other (by decide)).trans (h.p7 (dn_of hi hj (by decide))), p8 := fun hj => (set_other (by decide)).trans (h.p8 (dn_of hi hj (by decide))), p9 := fun hj => (set_other (by decide)).trans (h.p9 (dn_of hi hj (by decide))), p10 := fun hj => (set_other (by decide)).trans (h.p10 (dn_of hi hj (by decide))) }⟩
      · have hi : 3 < d.size := by omega
        have q1 := h.k1
        refine wpOp_plain rfl rfl ?_
        go_simp
        exact ⟨_, rfl, { bel := h.bel, siz := (by simpa using h.siz), kp := fun i hi' => (set_other (fun e => hi' (by subst e; decide))).trans (h.kp i hi'), k1 := (set_other (by decide)).trans h.k1, p0 := fun hj => (set_other (by decide)).trans (h.p0 (dn_of hi hj (by decide))), p1 := fun hj => (set_other (by decide)).trans (h.p1 (dn_of hi hj (by decide))), p2 := fun hj => (by obtain ⟨v, h1, h2⟩ := (h.p2 (dn_of hi hj (by decide))); exact ⟨v, (set_other (by decide)).trans h1, rdl_keep' (Below.refl _ _) h2⟩), p3 := fun _ => set_same (by have := h.siz; omega), p4 := fun hj => (set_other (by decide)).trans (h.p4 (dn_of hi hj (by decide))), p5 := fun hj => (set_other (by decide)).trans (h.p5 (dn_of hi hj (by decide))), p6 := fun hj => (set_other (by decide)).trans (h.p6 (dn_of hi hj (by decide))), p7 := fun hj => (set_other (by decide)).trans (h.p7 (dn_of hi hj (by decide))), p8 := fun hj => (set_other (by decide)).trans (h.p8 (dn_of hi hj (by decide))), p9 := fun hj => (set_other (by decide)).trans (h.p9 (dn_of hi hj (by decide))), p10 := fun hj => (set_other (by decide)).trans (h.p10 (dn_of hi hj (by decide))) }⟩
      · have hi : 4 < d.size := by omega
        have e3 := h.p3 (hpre _ rfl ⟨3, .data⟩ (by simp) rfl)
        obtain ⟨m0, m1, m2, m3⟩ := BXA.out wc (H1.out.trans (h.bel.mono H1.out.size))
        refine wpOp_plain rfl rfl ?_
        go_simp
        exact ⟨_, rfl, { bel := h.bel, siz := (by simpa using h.siz), kp := fun i hi' => (set_other (fun e => hi' (by subst e; decide))).trans (h.kp i hi'), k1 := (set_other (by decide)).trans h.k1, p0 := fun hj => (set_other (by decide)).trans (h.p0 (dn_of hi hj (by decide))), p1 := fun hj => (set_other (by decide)).trans (h.p1 (dn_of hi hj (by decide))), p2 := fun hj => (by obtain ⟨v, h1, h2⟩ := (h.p2 (dn_of hi hj (by decide))); exact ⟨v, (set_other (by decide)).trans h1, rdl_keep' (Below.refl _ _) h2⟩), p3 := fun hj => (set_other (by decide)).trans (h.p3 (dn_of hi hj (by decide))), p4 := fun _ => set_same (by have := h.siz; omega), p5 := fun hj => (set_other (by decide)).trans (h.p5 (dn_of hi hj (by decide))), p6 := fun hj => (set_other (by decide)).trans (h.p6 (dn_of hi hj (by decide))), p7 := fun hj => (set_other (by decide)).trans (h.p7 (dn_of hi hj (by decide))), p8 := fun hj => (set_other (by decide)).trans (h.p8 (dn_of hi hj (by decide))), p9 := fun hj => (set_other (by decide)).trans (h.p9 (dn_of hi hj (by decide))), p10 := fun hj => (set_other (by decide)).trans (h.p10 (dn_of hi hj (by decide))) }⟩
      · have hi : 5 < d.size := by omega
        obtain ⟨v2, e2, r2⟩ := h.p2 (hpre _ rfl ⟨2, .data⟩ (by simp) rfl)
        have e4 := h.p4 (hpre _ rfl ⟨4, .data⟩ (by simp) rfl)
        refine wpOp_plain rfl rfl ?_
        go_simp
        refine (Ways_any x s v2 wc r2 (by omega)).mono ?_
        rintro e1 w1 ⟨rfl, hb⟩
        exact ⟨_, rfl, { bel := h.bel.trans (hb.mono h.bel.size), siz := (by simpa using h.siz), kp := fun i hi' => (set_other (fun e => hi' (by subst e; decide))).trans (h.kp i hi'), k1 := (set_other (by decide)).trans h.k1, p0 := fun hj => (set_other (by decide)).trans (h.p0 (dn_of hi hj (by decide))), p1 := fun hj => (set_other (by decide)).trans (h.p1 (dn_of hi hj (by decide))), p2 := fun hj => (by obtain ⟨v, h1, h2⟩ := (h.p2 (dn_of hi hj (by decide))); exact ⟨v, (set_other (by decide)).trans h1, rdl_keep' hb h2⟩), p3 := fun hj => (set_other (by decide)).trans (h.p3 (dn_of hi hj (by decide))), p4 := fun hj => (set_other (by decide)).trans (h.p4 (dn_of hi hj (by decide))), p5 := fun _ => set_same (by have := h.siz; omega), p6 := fun hj => (set_other (by decide)).trans (h.p6 (dn_of hi hj (by decide))), p7 := fun hj => (set_other (by decide)).trans (h.p7 (dn_of hi hj (by decide))), p8 := fun hj => (set_other (by decide)).trans (h.p8 (dn_of hi hj (by decide))), p9 := fun hj => (set_other (by decide)).trans (h.p9 (dn_of hi hj (by decide))), p10 := fun hj => (set_other (by decide)).trans (h.p10 (dn_of hi hj (by decide))) }⟩
      · have hi : 6 < d.size := by omega
        have e5 := h.p5 (hpre _ rfl ⟨5, .data⟩ (by simp) rfl)
        refine wpOp_plain rfl rfl ?_
        go_simp
        exact ⟨_, rfl, { bel := h.bel, siz := (by simpa using h.siz), kp := fun i hi' => (set_other (fun e => hi' (by subst e; decide))).trans (h.kp i hi'), k1 := (set_other (by decide)).trans h.k1, p0 := fun hj => (set_other (by decide)).trans (h.p0 (dn_of hi hj (by decide))), p1 := fun hj => (set_other (by decide)).trans (h.p1 (dn_of hi hj (by decide))), p2 := fun hj => (by obtain ⟨v, h1, h2⟩ := (h.p2 (dn_of hi hj (by decide))); exact ⟨v, (set_other (by decide)).trans h1, rdl_keep' (Below.refl _ _) h2⟩), p3 := fun hj => (set_other (by decide)).trans (h.p3 (dn_of hi hj (by decide))), p4 := fun hj => (set_other (by decide)).trans (h.p4 (dn_of hi hj (by decide))), p5 := fun hj => (set_other (by decide)).trans (h.p5 (dn_of hi hj (by decide))), p6 := fun _ => set_same (by have := h.siz; omega), p7 := fun hj => (set_other (by decide)).trans (h.p7 (dn_of hi hj (by decide))), p8 := fun hj => (set_other (by decide)).trans (h.p8 (dn_of hi hj (by decide))), p9 := fun hj => (set_other (by decide)).trans (h.p9 (dn_of hi hj (by decide))), p10 := fun hj => (set_other (by decide)).trans (h.p10 (dn_of hi hj (by decide))) }⟩
      · have hi : 7 < d.size := by omega
        have e6 := h.p6 (hpre _ rfl ⟨6, .data⟩ (by simp) rfl)
        refine wpOp_plain rfl rfl ?_
        go_simp
        exact ⟨_, rfl, { bel := h.bel, siz := (by simpa using h.siz), kp := fun i hi' => (set_other (fun e => hi' (by subst e; decide))).trans (h.kp i hi'), k1 := (set_other (by decide)).trans h.k1, p0 := fun hj => (set_other (by decide)).trans (h.p0 (dn_of hi hj (by decide))), p1 := fun hj => (set_other (by decide)).trans (h.p1 (dn_of hi hj (by decide))), p2 := fun hj => (by obtain ⟨v, h1, h2⟩ := (h.p2 (dn_of hi hj (by decide))); exact ⟨v, (set_other (by decide)).trans h1, rdl_keep' (Below.refl _ _) h2⟩), p3 := fun hj => (set_other (by decide)).trans (h.p3 (dn_of hi hj (by decide))), p4 := fun hj => (set_other (by decide)).trans (h.p4 (dn_of hi hj (by decide))), p5 := fun hj => (set_other (by decide)).trans (h.p5 (dn_of hi hj (by decide))), p6 := fun hj => (set_other (by decide)).trans (h.p6 (dn_of hi hj (by decide))), p7 := fun _ => set_same (by have := h.siz; omega), p8 := fun hj => (set_other (by decide)).trans (h.p8 (dn_of hi hj (by decide))), p9 := fun hj => (set_other (by decide)).trans (h.p9 (dn_of hi hj (by decide))), p10 := fun hj => (set_other (by decide)).trans (h.p10 (dn_of hi hj (by decide))) }⟩
      · have hi : 8 < d.size := by omega
        have e6 := h.p6 (hpre _ rfl ⟨6, .data⟩ (by simp) rfl)
        refine wpOp_plain rfl rfl ?_
        go_simp
        exact ⟨_, rfl, { bel := h.bel, siz := (by simpa using h.siz), kp := fun i hi' => (set_other (fun e => hi' (by subst e; decide))).trans (h.kp i hi'), k1 := (set_other (by decide)).trans h.k1, p0 := fun hj => (set_other (by decide)).trans (h.p0 (dn_of hi hj (by decide))), p1 := fun hj => (set_other (by decide)).trans (h.p1 (dn_of hi hj (by decide))), p2 := fun hj => (by obtain ⟨v, h1, h2⟩ := (h.p2 (dn_of hi hj (by decide))); exact ⟨v, (set_other (by decide)).trans h1, rdl_keep' (Below.refl _ _) h2⟩), p3 := fun hj => (set_other (by decide)).trans (h.p3 (dn_of hi hj (by decide))), p4 := fun hj => (set_other (by decide)).trans (h.p4 (dn_of hi hj (by decide))), p5 := fun hj => (set_other (by decide)).trans (h.p5 (dn_of hi hj (by decide))), p6 := fun hj => (set_other (by decide)).trans (h.p6 (dn_of hi hj (by decide))), p7 := fun hj => (set_other (by decide)).trans (h.p7 (dn_of hi hj (by decide))), p8 := fun _ => set_same (by have := h.siz; omega), p9 := fun hj => (set_other (by decide)).trans (h.p9 (dn_of hi hj (by decide))), p10 := fun hj => (set_other (by decide)).trans (h.p10 (dn_of hi hj (by decide))) }⟩
      · have hi : 9 < d.size := by omega
        have e7 := h.p7 (hpre _ rfl ⟨7, .data⟩ (by simp) rfl)
        refine wpOp_plain rfl rfl ?_
        go_simp
        exact ⟨_, rfl, { bel := h.bel, siz := (by simpa using h.siz), kp := fun i hi' => (set_other (fun e => hi' (by subst e; decide))).trans (h.kp i hi'), k1 := (set_other (by decide)).trans h.k1, p0 := fun hj => (set_other (by decide)).trans (h.p0 (dn_of hi hj (by decide))), p1 := fun hj => (set_other (by decide)).trans (h.p1 (dn_of hi hj (by decide))), p2 := fun hj => (by obtain ⟨v, h1, h2⟩ := (h.p2 (dn_of hi hj (by decide))); exact ⟨v, (set_other (by decide)).trans h1, rdl_keep' (Below.refl _ _) h2⟩), p3 := fun hj => (set_other (by decide)).trans (h.p3 (dn_of hi hj (by decide))), p4 := fun hj => (set_other (by decide)).trans (h.p4 (dn_of hi hj (by decide))), p5 := fun hj => (set_other (by decide)).trans (h.p5 (dn_of hi hj (by decide))), p6 := fun hj => (set_other (by decide)).trans (h.p6 (dn_of hi hj (by decide))), p7 := fun hj => (set_other (by decide)).trans (h.p7 (dn_of hi hj (by decide))), p8 := fun hj => (set_other (by decide)).trans (h.p8 (dn_of hi hj (by decide))), p9 := fun _ => set_same (by have := h.siz; omega), p10 := fun hj => (set_other (by decide)).trans (h.p10 (dn_of hi hj (by decide))) }⟩
      · have hi : 10 < d.size := by omega
        have e8 := h.p8 (hpre _ rfl ⟨8, .data⟩ (by simp) rfl)
        refine wpOp_plain rfl rfl ?_
        go_simp
        exact ⟨_, rfl, { bel := h.bel, siz := (by simpa using h.siz), kp := fun i hi' => (set_other (fun e => hi' (by subst e; decide))).trans (h.kp i hi'), k1 := (set_other (by decide)).trans h.k1, p0 := fun hj => (set_other (by decide)).trans (h.p0 (dn_of hi hj (by decide))), p1 := fun hj => (set_other (by decide)).trans (h.p1 (dn_of hi hj (by decide))), p2 := fun hj => (by obtain ⟨v, h1, h2⟩ := (h.p2 (dn_of hi hj (by decide))); exact ⟨v, (set_other (by decide)).trans h1, rdl_keep' (Below.refl _ _) h2⟩), p3 := fun hj => (set_other (by decide)).trans (h.p3 (dn_of hi hj (by decide))), p4 := fun hj => (set_other (by decide)).trans (h.p4 (dn_of hi hj (by decide))), p5 := fun hj => (set_other (by decide)).trans (h.p5 (dn_of hi hj (by decide))), p6 := fun hj => (set_other (by decide)).trans (h.p6 (dn_of hi hj (by decide))), p7 := fun hj => (set_other (by decide)).trans (h.p7 (dn_of hi hj (by decide))), p8 := fun hj => (set_other (by decide)).trans (h.p8 (dn_of hi hj (by decide))), p9 := fun hj => (set_other (by decide)).trans (h.p9 (dn_of hi hj (by decide))), p10 := fun _ => set_same (by have := h.siz; omega) }⟩
    case genda =>
      intro d a wc hd hI hall
      obtain ⟨t, rfl, h⟩ := hI
      have hdn : ∀ j, j < 11 → dn d j := fun j hj => dn_all hd hall hj
      have hl : t.toList.length = 69 := h.siz
      obtain ⟨l⟩ := t
      simp only [] at hl
      obtain ⟨t0, l, rfl⟩ := List.exists_cons_of_length_eq_add_one (n := 68) hl; replace hl : l.length = 68 := (by simpa using hl)
      obtain ⟨t1, l, rfl⟩ := List.exists_cons_of_length_eq_add_one (n := 67) hl; replace hl : l.length = 67 := (by simpa using hl)
      obtain ⟨t2, l, rfl⟩ := List.exists_cons_of_length_eq_add_one (n := 66) hl; replace hl : l.length = 66 := (by simpa using hl)
      obtain ⟨t3, l, rfl⟩ := List.exists_cons_of_length_eq_add_one (n := 65) hl; replace hl : l.length = 65 := (by simpa using hl)
      obtain ⟨t4, l, rfl⟩ := List.exists_cons_of_length_eq_add_one (n := 64) hl; replace hl : l.length = 64 := (by simpa using hl)
      obtain ⟨t5, l, rfl⟩ := List.exists_cons_of_length_eq_add_one (n := 63) hl; replace hl : l.length = 63 := (by simpa using hl)
      obtain ⟨t6, l, rfl⟩ := List.exists_cons_of_length_eq_add_one (n := 62) hl; replace hl : l.length = 62 := (by simpa using hl)
      obtain ⟨t7, l, rfl⟩ := List.exists_cons_of_length_eq_add_one (n := 61) hl; replace hl : l.length = 61 := (by simpa using hl)
      obtain ⟨t8, l, rfl⟩ := List.exists_cons_of_length_eq_add_one (n := 60) hl; replace hl : l.length = 60 := (by simpa using hl)
      obtain ⟨t9, l, rfl⟩ := List.exists_cons_of_length_eq_add_one (n := 59) hl; replace hl : l.length = 59 := (by simpa using hl)
      obtain ⟨t10, l, rfl⟩ := List.exists_cons_of_length_eq_add_one (n := 58) hl; replace hl : l.length = 58 := (by simpa using hl)
      obtain ⟨t11, l, rfl⟩ := List.exists_cons_of_length_eq_add_one (n := 57) hl; replace hl : l.length = 57 := (by simpa using hl)
      obtain ⟨t12, l, rfl⟩ := List.exists_cons_of_length_eq_add_one (n := 56) hl; replace hl : l.length = 56 := (by simpa using hl)
      obtain ⟨t13, l, rfl⟩ := List.exists_cons_of_length_eq_add_one (n := 55) hl; replace hl : l.length = 55 := (by simpa using hl)
      obtain ⟨t14, l, rfl⟩ := List.exists_cons_of_length_eq_add_one (n := 54) hl; replace hl : l.length = 54 := (by simpa using hl)
      obtain ⟨t15, l, rfl⟩ := List.exists_cons_of_length_eq_add_one (n := 53) hl; replace hl : l.length = 53 := (by simpa using hl)
      obtain ⟨t16, l, rfl⟩ := List.exists_cons_of_length_eq_add_one (n := 52) hl; replace hl : l.length = 52 := (by simpa using hl)
      obtain ⟨t17, l, rfl⟩ := List.exists_cons_of_length_eq_add_one (n := 51) hl; replace hl : l.length = 51 := (by simpa using hl)
      obtain ⟨t18, l, rfl⟩ := List.exists_cons_of_length_eq_add_one (n := 50) hl; replace hl : l.length = 50 := (by simpa using hl)
      obtain ⟨t19, l, rfl⟩ := List.exists_cons_of_length_eq_add_one (n := 49) hl; replace hl : l.length = 49 := (by simpa using hl)
      obtain ⟨t20, l, rfl⟩ := List.exists_cons_of_length_eq_add_one (n := 48) hl; replace hl : l.length = 48 := (by simpa using hl)
      obtain ⟨t21, l, rfl⟩ := List.exists_cons_of_length_eq_add_one (n := 47) hl; replace hl : l.length = 47 := (by simpa using hl)
      obtain ⟨t22, l, rfl⟩ := List.exists_cons_of_length_eq_add_one (n := 46) hl; replace hl : l.length = 46 := (by simpa using hl)
      obtain ⟨t23, l, rfl⟩ := List.exists_cons_of_length_eq_add_one (n := 45) hl; replace hl : l.length = 45 := (by simpa using hl)
      obtain ⟨t24, l, rfl⟩ := List.exists_cons_of_length_eq_add_one (n := 44) hl; replace hl : l.length = 44 := (by simpa using hl)
      obtain ⟨t25, l, rfl⟩ := List.exists_cons_of_length_eq_add_one (n := 43) hl; replace hl : l.length = 43 := (by simpa using hl)
      obtain ⟨t26, l, rfl⟩ := List.exists_cons_of_length_eq_add_one (n := 42) hl; replace hl : l.length = 42 := (by simpa using hl)
      obtain ⟨t27, l, rfl⟩ := List.exists_cons_of_length_eq_add_one (n := 41) hl; replace hl : l.length = 41 := (by simpa using hl)
      obtain ⟨t28, l, rfl⟩ := List.exists_cons_of_length_eq_add_one (n := 40) hl; replace hl : l.length = 40 := (by simpa using hl)
      obtain ⟨t29, l, rfl⟩ := List.exists_cons_of_length_eq_add_one (n := 39) hl; replace hl : l.length = 39 := (by simpa using hl)
      obtain ⟨t30, l, rfl⟩ := List.exists_cons_of_length_eq_add_one (n := 38) hl; replace hl : l.length = 38 := (by simpa using hl)
      obtain ⟨t31, l, rfl⟩ := List.exists_cons_of_length_eq_add_one (n := 37) hl; replace hl : l.length = 37 := (by simpa using hl)
      obtain ⟨t32, l, rfl⟩ := List.exists_cons_of_length_eq_add_one (n := 36) hl; replace hl : l.length = 36 := (by simpa using hl)
      obtain ⟨t33, l, rfl⟩ := List.exists_cons_of_length_eq_add_one (n := 35) hl; replace hl : l.length = 35 := (by simpa using hl)
      obtain ⟨t34, l, rfl⟩ := List.exists_cons_of_length_eq_add_one (n := 34) hl; replace hl : l.length = 34 := (by simpa using hl)
      obtain ⟨t35, l, rfl⟩ := List.exists_cons_of_length_eq_add_one (n := 33) hl; replace hl : l.length = 33 := (by simpa using hl)
      obtain ⟨t36, l, rfl⟩ := List.exists_cons_of_length_eq_add_one (n := 32) hl; replace hl : l.length = 32 := (by simpa using hl)
      obtain ⟨t37, l, rfl⟩ := List.exists_cons_of_length_eq_add_one (n := 31) hl; replace hl : l.length = 31 := (by simpa using hl)
      obtain ⟨t38, l, rfl⟩ := List.exists_cons_of_length_eq_add_one (n := 30) hl; replace hl : l.length = 30 := (by simpa using hl)
      obtain ⟨t39, l, rfl⟩ := List.exists_cons_of_length_eq_add_one (n := 29) hl; replace hl : l.length = 29 := (by simpa using hl)
      obtain ⟨t40, l, rfl⟩ := List.exists_cons_of_length_eq_add_one (n := 28) hl; replace hl : l.length = 28 := (by simpa using hl)
      obtain ⟨t41, l, rfl⟩ := List.exists_cons_of_length_eq_add_one (n := 27) hl; replace hl : l.length = 27 := (by simpa using hl)
      obtain ⟨t42, l, rfl⟩ := List.exists_cons_of_length_eq_add_one (n := 26) hl; replace hl : l.length = 26 := (by simpa using hl)
      obtain ⟨t43, l, rfl⟩ := List.exists_cons_of_length_eq_add_one (n := 25) hl; replace hl : l.length = 25 := (by simpa using hl)
      obtain ⟨t44, l, rfl⟩ := List.exists_cons_of_length_eq_add_one (n := 24) hl; replace hl : l.length = 24 := (by simpa using hl)
      obtain ⟨t45, l, rfl⟩ := List.exists_cons_of_length_eq_add_one (n := 23) hl; replace hl : l.length = 23 := (by simpa using hl)
      obtain ⟨t46, l, rfl⟩ := List.exists_cons_of_length_eq_add_one (n := 22) hl; replace hl : l.length = 22 := (by simpa using hl)
      obtain ⟨t47, l, rfl⟩ := List.exists_cons_of_length_eq_add_one (n := 21) hl; replace hl : l.length = 21 := (by simpa using hl)
      obtain ⟨t48, l, rfl⟩ := List.exists_cons_of_length_eq_add_one (n := 20) hl; replace hl : l.length = 20 := (by simpa using hl)
      obtain ⟨t49, l, rfl⟩ := List.exists_cons_of_length_eq_add_one (n := 19) hl; replace hl : l.length = 19 := (by simpa using hl)
      obtain ⟨t50, l, rfl⟩ := List.exists_cons_of_length_eq_add_one (n := 18) hl; replace hl : l.length = 18 := (by simpa using hl)
      obtain ⟨t51, l, rfl⟩ := List.exists_cons_of_length_eq_add_one (n := 17) hl; replace hl : l.length = 17 := (by simpa using hl)
      obtain ⟨t52, l, rfl⟩ := List.exists_cons_of_length_eq_add_one (n := 16) hl; replace hl : l.length = 16 := (by simpa using hl)
      obtain ⟨t53, l, rfl⟩ := List.exists_cons_of_length_eq_add_one (n := 15) hl; replace hl : l.length = 15 := (by simpa using hl)
      obtain ⟨t54, l, rfl⟩ := List.exists_cons_of_length_eq_add_one (n := 14) hl; replace hl : l.length = 14 := (by simpa using hl)
      obtain ⟨t55, l, rfl⟩ := List.exists_cons_of_length_eq_add_one (n := 13) hl; replace hl : l.length = 13 := (by simpa using hl)
      obtain ⟨t56, l, rfl⟩ := List.exists_cons_of_length_eq_add_one (n := 12) hl; replace hl : l.length = 12 := (by simpa using hl)
      obtain ⟨t57, l, rfl⟩ := List.exists_cons_of_length_eq_add_one (n := 11) hl; replace hl : l.length = 11 := (by simpa using hl)
      obtain ⟨t58, l, rfl⟩ := List.exists_cons_of_length_eq_add_one (n := 10) hl; replace hl : l.length = 10 := (by simpa using hl)
      obtain ⟨t59, l, rfl⟩ := List.exists_cons_of_length_eq_add_one (n := 9) hl; replace hl : l.length = 9 := (by simpa using hl)
      obtain ⟨t60, l, rfl⟩ := List.exists_cons_of_length_eq_add_one (n := 8) hl; replace hl : l.length = 8 := (by simpa using hl)
      obtain ⟨t61, l, rfl⟩ := List.exists_cons_of_length_eq_add_one (n := 7) hl; replace hl : l.length = 7 := (by simpa using hl)
      obtain ⟨t62, l, rfl⟩ := List.exists_cons_of_length_eq_add_one (n := 6) hl; replace hl : l.length = 6 := (by simpa using hl)
      obtain ⟨t63, l, rfl⟩ := List.exists_cons_of_length_eq_add_one (n := 5) hl; replace hl : l.length = 5 := (by simpa using hl)
      obtain ⟨t64, l, rfl⟩ := List.exists_cons_of_length_eq_add_one (n := 4) hl; replace hl : l.length = 4 := (by simpa using hl)
      obtain ⟨t65, l, rfl⟩ := List.exists_cons_of_length_eq_add_one (n := 3) hl; replace hl : l.length = 3 := (by simpa using hl)
      obtain ⟨t66, l, rfl⟩ := List.exists_cons_of_length_eq_add_one (n := 2) hl; replace hl : l.length = 2 := (by simpa using hl)
      obtain ⟨t67, l, rfl⟩ := List.exists_cons_of_length_eq_add_one (n := 1) hl; replace hl : l.length = 1 := (by simpa using hl)
      obtain ⟨t68, l, rfl⟩ := List.exists_cons_of_length_eq_add_one (n := 0) hl; replace hl : l.length = 0 := (by simpa using hl)
      obtain rfl := List.eq_nil_of_length_eq_zero hl
      clear hl
      have e := h.kp 0 (by decide); simp only [List.getElem?_toArray, List.getElem?_cons_zero, Option.some.injEq] at e; subst e
      have e := h.kp 1 (by decide); simp only [List.getElem?_toArray, List.getElem?_cons_succ, List.getElem?_cons_zero, Option.some.injEq] at e; subst e
      have e := h.kp 2 (by decide); simp only [List.getElem?_toArray, List.getElem?_cons_succ, List.getElem?_cons_zero, Option.some.injEq] at e; subst e
      have e := h.kp 5 (by decide); simp only [List.getElem?_toArray, List.getElem?_cons_succ, List.getElem?_cons_zero, Option.some.injEq] at e; subst e
      have e := h.kp 6 (by decide); simp only [List.getElem?_toArray, List.getElem?_cons_succ, List.getElem?_cons_zero, Option.some.injEq] at e; subst e
      have e := h.kp 7 (by decide); simp only [List.getElem?_toArray, List.getElem?_cons_succ, List.getElem?_cons_zero, Option.some.injEq] at e; subst e
      have e := h.kp 8 (by decide); simp only [List.getElem?_toArray, List.getElem?_cons_succ, List.getElem?_cons_zero, Option.some.injEq] at e; subst e
      have e := h.kp 9 (by decide); simp only [List.getElem?_toArray, List.getElem?_cons_succ, List.getElem?_cons_zero, Option.some.injEq] at e; subst e
      have e := h.kp 10 (by decide); simp only [List.getElem?_toArray, List.getElem?_cons_succ, List.getElem?_cons_zero, Option.some.injEq] at e; subst e
      have e := h.kp 11 (by decide); simp only [List.getElem?_toArray, List.getElem?_cons_succ, List.getElem?_cons_zero, Option.some.injEq] at e; subst e
      have e := h.kp 12 (by decide); simp only [List.getElem?_toArray, List.getElem?_cons_succ, List.getElem?_cons_zero, Option.some.injEq] at e; subst e
      have e := h.kp 13 (by decide); simp only [List.getElem?_toArray, List.getElem?_cons_succ, List.getElem?_cons_zero, Option.some.injEq] at e; subst e
      have e := h.kp 23 (by decide); simp only [List.getElem?_toArray, List.getElem?_cons_succ, List.getElem?_cons_zero, Option.some.injEq] at e; subst e
      have e := h.kp 24 (by decide); simp only [List.getElem?_toArray, List.getElem?_cons_succ, List.getElem?_cons_zero, Option.some.injEq] at e; subst e
      have e := h.kp 25 (by decide); simp only [List.getElem?_toArray, List.getElem?_cons_succ, List.getElem?_cons_zero, Option.some.injEq] at e; subst e
      have e := h.kp 26 (by decide); simp only [List.getElem?_toArray, List.getElem?_cons_succ, List.getElem?_cons_zero, Option.some.injEq] at e; subst e
      have e := h.kp 27 (by decide); simp only [List.getElem?_toArray, List.getElem?_cons_succ, List.getElem?_cons_zero, Option.some.injEq] at e; subst e
      have e := h.kp 28 (by decide); simp only [List.getElem?_toArray, List.getElem?_cons_succ, List.getElem?_cons_zero, Option.some.injEq] at e; subst e
      have e := h.kp 29 (by decide); simp only [List.getElem?_toArray, List.getElem?_cons_succ, List.getElem?_cons_zero, Option.some.injEq] at e; subst e
      have e := h.kp 30 (by decide); simp only [List.getElem?_toArray, List.getElem?_cons_succ, List.getElem?_cons_zero, Option.some.injEq] at e; subst e
      have e := h.kp 31 (by decide); simp only [List.getElem?_toArray, List.getElem?_cons_succ, List.getElem?_cons_zero, Option.some.injEq] at e; subst e
      have e := h.kp 32 (by decide); simp only [List.getElem?_toArray, List.getElem?_cons_succ, List.getElem?_cons_zero, Option.some.injEq] at e; subst e
      have e := h.kp 33 (by decide); simp only [List.getElem?_toArray, List.getElem?_cons_succ, List.getElem?_cons_zero, Option.some.injEq] at e; subst e
      have e := h.kp 34 (by decide); simp only [List.getElem?_toArray, List.getElem?_cons_succ, List.getElem?_cons_zero, Option.some.injEq] at e; subst e
      have e := h.kp 35 (by decide); simp only [List.getElem?_toArray, List.getElem?_cons_succ, List.getElem?_cons_zero, Option.some.injEq] at e; subst e
      have e := h.kp 36 (by decide); simp only [List.getElem?_toArray, List.getElem?_cons_succ, List.getElem?_cons_zero, Option.some.injEq] at e; subst e
      have e := h.kp 37 (by decide); simp only [List.getElem?_toArray, List.getElem?_cons_succ, List.getElem?_cons_zero, Option.some.injEq] at e; subst e
      have e := h.kp 38 (by decide); simp only [List.getElem?_toArray, List.getElem?_cons_succ, List.getElem?_cons_zero, Option.some.injEq] at e; subst e
      have e := h.kp 39 (by decide); simp only [List.getElem?_toArray, List.getElem?_cons_succ, List.getElem?_cons_zero, Option.some.injEq] at e; subst e
      have e := h.kp 40 (by decide); simp only [List.getElem?_toArray, List.getElem?_cons_succ, List.getElem?_cons_zero, Option.some.injEq] at e; subst e
      have e := h.kp 41 (by decide); simp only [List.getElem?_toArray, List.getElem?_cons_succ, List.getElem?_cons_zero, Option.some.injEq] at e; subst e
      have e := h.kp 42 (by decide); simp only [List.getElem?_toArray, List.getElem?_cons_succ, List.getElem?_cons_zero, Option.some.injEq] at e; subst e
      have e := h.kp 43 (by decide); simp only [List.getElem?_toArray, List.getElem?_cons_succ, List.getElem?_cons_zero, Option.some.injEq] at e; subst e
      have e := h.kp 44 (by decide); simp only [List.getElem?_toArray, List.getElem?_cons_succ, List.getElem?_cons_zero, Option.some.injEq] at e; subst e
      have e := h.kp 45 (by decide); simp only [List.getElem?_toArray, List.getElem?_cons_succ, List.getElem?_cons_zero, Option.some.injEq] at e; subst e
      have e := h.kp 46 (by decide); simp only [List.getElem?_toArray, List.getElem?_cons_succ, List.getElem?_cons_zero, Option.some.injEq] at e; subst e
      have e := h.kp 47 (by decide); simp only [List.getElem?_toArray, List.getElem?_cons_succ, List.getElem?_cons_zero, Option.some.injEq] at e; subst e
      have e := h.kp 48 (by decide); simp only [List.getElem?_toArray, List.getElem?_cons_succ, List.getElem?_cons_zero, Option.some.injEq] at e; subst e
      have e := h.kp 49 (by decide); simp only [List.getElem?_toArray, List.getElem?_cons_succ, List.getElem?_cons_zero, Option.some.injEq] at e; subst e
      have e := h.kp 50 (by decide); simp only [List.getElem?_toArray, List.getElem?_cons_succ, List.getElem?_cons_zero, Option.some.injEq] at e; subst e
      have e := h.kp 51 (by decide); simp only [List.getElem?_toArray, List.getElem?_cons_succ, List.getElem?_cons_zero, Option.some.injEq] at e; subst e
      have e := h.kp 52 (by decide); simp only [List.getElem?_toArray, List.getElem?_cons_succ, List.getElem?_cons_zero, Option.some.injEq] at e; subst e
      have e := h.kp 53 (by decide); simp only [List.getElem?_toArray, List.getElem?_cons_succ, List.getElem?_cons_zero, Option.some.injEq] at e; subst e
      have e := h.kp 54 (by decide); simp only [List.getElem?_toArray, List.getElem?_cons_succ, List.getElem?_cons_zero, Option.some.injEq] at e; subst e
      have e := h.kp 55 (by decide); simp only [List.getElem?_toArray, List.getElem?_cons_succ, List.getElem?_cons_zero, Option.some.injEq] at e; subst e
      have e := h.kp 56 (by decide); simp only [List.getElem?_toArray, List.getElem?_cons_succ, List.getElem?_cons_zero, Option.some.injEq] at e; subst e
      have e := h.kp 57 (by decide); simp only [List.getElem?_toArray, List.getElem?_cons_succ, List.getElem?_cons_zero, Option.some.injEq] at e; subst e
      have e := h.kp 58 (by decide); simp only [List.getElem?_toArray, List.getElem?_cons_succ, List.getElem?_cons_zero, Option.some.injEq] at e; subst e
      have e := h.kp 59 (by decide); simp only [List.getElem?_toArray, List.getElem?_cons_succ, List.getElem?_cons_zero, Option.some.injEq] at e; subst e
      have e := h.kp 60 (by decide); simp only [List.getElem?_toArray, List.getElem?_cons_succ, List.getElem?_cons_zero, Option.some.injEq] at e; subst e
      have e := h.kp 61 (by decide); simp only [List.getElem?_toArray, List.getElem?_cons_succ, List.getElem?_cons_zero, Option.some.injEq] at e; subst e
      have e := h.kp 62 (by decide); simp only [List.getElem?_toArray, List.getElem?_cons_succ, List.getElem?_cons_zero, Option.some.injEq] at e; subst e
      have e := h.kp 63 (by decide); simp only [List.getElem?_toArray, List.getElem?_cons_succ, List.getElem?_cons_zero, Option.some.injEq] at e; subst e
      have e := h.kp 64 (by decide); simp only [List.getElem?_toArray, List.getElem?_cons_succ, List.getElem?_cons_zero, Option.some.injEq] at e; subst e
      have e := h.kp 65 (by decide); simp only [List.getElem?_toArray, List.getElem?_cons_succ, List.getElem?_cons_zero, Option.some.injEq] at e; subst e
      have e := h.kp 66 (by decide); simp only [List.getElem?_toArray, List.getElem?_cons_succ, List.getElem?_cons_zero, Option.some.injEq] at e; subst e
      have e := h.kp 67 (by decide); simp only [List.getElem?_toArray, List.getElem?_cons_succ, List.getElem?_cons_zero, Option.some.injEq] at e; subst e
      have e := h.kp 68 (by decide); simp only [List.getElem?_toArray, List.getElem?_cons_succ, List.getElem?_cons_zero, Option.some.injEq] at e; subst e
      have e := h.p9 (hdn 9 (by omega)); simp only [List.getElem?_toArray, List.getElem?_cons_succ, List.getElem?_cons_zero, Option.some.injEq] at e; subst e
      have e := h.p10 (hdn 10 (by omega)); simp only [List.getElem?_toArray, List.getElem?_cons_succ, List.getElem?_cons_zero, Option.some.injEq] at e; subst e
      have e := h.p6 (hdn 6 (by omega)); simp only [List.getElem?_toArray, List.getElem?_cons_succ, List.getElem?_cons_zero, Option.some.injEq] at e; subst e
      have e := h.p0 (hdn 0 (by omega)); simp only [List.getElem?_toArray, List.getElem?_cons_succ, List.getElem?_cons_zero, Option.some.injEq] at e; subst e
      have e := h.p1 (hdn 1 (by omega)); simp only [List.getElem?_toArray, List.getElem?_cons_succ, List.getElem?_cons_zero, Option.some.injEq] at e; subst e
      obtain ⟨v2, e2, r2⟩ := h.p2 (hdn 2 (by omega)); obtain rfl : t17 = v2 := by simpa using e2
      have e := h.p3 (hdn 3 (by omega)); simp only [List.getElem?_toArray, List.getElem?_cons_succ, List.getElem?_cons_zero, Option.some.injEq] at e; subst e
      have e := h.p4 (hdn 4 (by omega)); simp only [List.getElem?_toArray, List.getElem?_cons_succ, List.getElem?_cons_zero, Option.some.injEq] at e; subst e
      have e := h.p5 (hdn 5 (by omega)); simp only [List.getElem?_toArray, List.getElem?_cons_succ, List.getElem?_cons_zero, Option.some.injEq] at e; subst e
      have e := h.p7 (hdn 7 (by omega)); simp only [List.getElem?_toArray, List.getElem?_cons_succ, List.getElem?_cons_zero, Option.some.injEq] at e; subst e
      have e := h.p8 (hdn 8 (by omega)); simp only [List.getElem?_toArray, List.getElem?_cons_succ, List.getElem?_cons_zero, Option.some.injEq] at e; subst e
      have hbc := h.bel
      clear h hdn hall
      have HEa := Lib.hid (H1.out.trans (hbc.mono H1.out.size))
      clear hbc r2
      obtain ⟨g0, g1, g2, g3⟩ := BXA.out wc HEa.out
      go_wp2_with fail
      refine (rWays_any x s _ wc (HGL.out wc HEa.out) (by omega)).mono ?_
      rintro e3 w3 ⟨rfl, hb3⟩
      have H3 := Lib.hid (HEa.out.trans (hb3.mono HEa.out.size))
      clear hb3 g0 g1 g2 g3
      go_wp2_with fail
      refine wp_region_inv2T (fun T0 => YbI T0 w3 (.agg #[.slice A0 x.entries.length c0, .slice A1 x.endings.length c1, .slice A2 x.clitics.length c2]) w.heap.size x s (Lx.farestV x s) (Lx.speechV x s)) (by kernel_rfl) (by kernel_rfl) ?g0b ?gstepb ?gendb
      case g0b =>
        have hno : ∀ j, ¬ dn (Array.replicate 11 false) j := by
          intro j; unfold dn; by_cases hj : j < 11 <;> simp [Array.getD, hj]
        exact ⟨_, rfl, { bel := (Below.refl _ _).drew, siz := rfl, kp := fun _ _ => rfl, k1 := rfl, p0 := fun hj => absurd hj (hno _), p1 := fun hj => absurd hj (hno _), p2 := fun hj => absurd hj (hno _), p3 := fun hj => absurd hj (hno _), p4 := fun hj => absurd hj (hno _), p5 := fun hj => absurd hj (hno _), p6 := fun hj => absurd hj (hno _), p7 := fun hj => absurd hj (hno _), p8 := fun hj => absurd hj (hno _), p9 := fun hj => absurd hj (hno _), p10 := fun hj => absurd hj (hno _) }⟩
      case gstepb =>
        intro T0 d a wc i hd hI hi
        obtain ⟨hlt, hnd, hpre⟩ := mem_ready hi
        have hd' : d.size = 11 := hd
        have hin : i < 11 := hlt
        clear hi hd hlt
        obtain ⟨t, rfl, h⟩ := hI
        have hcs : i = 0 ∨ i = 1 ∨ i = 2 ∨ i = 3 ∨ i = 4 ∨ i = 5 ∨ i = 6 ∨ i = 7 ∨ i = 8 ∨ i = 9 ∨ i = 10 := by omega
        rcases hcs with rfl | rfl | rfl | rfl | rfl | rfl | rfl | rfl | rfl | rfl | rfl
        · have hi : 0 < d.size := by omega
          have q1 := h.k1
          refine wpOp_plain rfl rfl ?_
          go_simp
          exact ⟨_, rfl, { bel := h.bel, siz := (by simpa using h.siz), kp := fun i hi' => (set_other (fun e => hi' (by subst e; decide))).trans (h.kp i hi'), k1 := (set_other (by decide)).trans h.k1, p0 := fun _ => set_same (by have := h.siz; omega), p1 := fun hj => (set_other (by decide)).trans (h.p1 (dn_of hi hj (by decide))), p2 := fun hj => (by obtain ⟨v, h1, h2⟩ := (h.p2 (dn_of hi hj (by decide))); exact ⟨v, (set_other (by decide)).trans h1, rdl_keep' (Below.refl _ _) h2⟩), p3 := fun hj => (set_other (by decide)).trans (h.p3 (dn_of hi hj (by decide))), p4 := fun hj => (set_other (by decide)).trans (h.p4 (dn_of hi hj (by decide))), p5 := fun hj => (set_other (by decide)).trans (h.p5 (dn_of hi hj (by decide))), p6 := fun hj => (set_other (by decide)).trans (h.p6 (dn_of hi hj (by decide))), p7 := fun hj => (set_other (by decide)).trans (h.p7 (dn_of hi hj (by decide))), p8 := fun hj => (set_other (by decide)).trans (h.p8 (dn_of hi hj (by decide))), p9 := fun hj => (set_other (by decide)).trans (h.p9 (dn_of hi hj (by decide))), p10 := fun hj => (set_other (by decide)).trans (h.p10 (dn_of hi hj (by decide))) }⟩
        · have hi : 1 < d.size := by omega
          have e0 := h.p0 (hpre _ rfl ⟨0, .data⟩ (by simp) rfl)
          obtain ⟨m0, m1, m2, m3⟩ := BXA.out wc (H3.out.trans (h.bel.mono H3.out.size))
          refine wpOp_plain rfl rfl ?_
          go_simp
          exact ⟨_, rfl, { bel := h.bel, siz := (by simpa using h.siz), kp := fun i hi' => (set_other (fun e => hi' (by subst e; decide))).trans (h.kp i hi'), k1 := (set_other (by decide)).trans h.k1, p0 := fun hj => (set_other (by decide)).trans (h.p0 (dn_of hi hj (by decide))), p1 := fun _ => set_same (by have := h.siz; omega), p2 := fun hj => (by obtain ⟨v, h1, h2⟩ := (h.p2 (dn_of hi hj (by decide))); exact ⟨v, (set_other (by decide)).trans h1, rdl_keep' (Below.refl _ _) h2⟩), p3 := fun hj => (set_other (by decide)).trans (h.p3 (dn_of hi hj (by decide))), p4 := fun hj => (set_other (by decide)).trans (h.p4 (dn_of hi hj (by decide))), p5 := fun hj => (set_other (by decide)).trans (h.p5 (dn_of hi hj (by decide))), p6 := fun hj => (set_other (by decide)).trans (h.p6 (dn_of hi hj (by decide))), p7 := fun hj => (set_other (by decide)).trans (h.p7 (dn_of hi hj (by decide))), p8 := fun hj => (set_other (by decide)).trans (h.p8 (dn_of hi hj (by decide))), p9 := fun hj => (set_other (by decide)).trans (h.p9 (dn_of hi hj (by decide))), p10 := fun hj => (set_other (by decide)).trans (h.p10 (dn_of hi hj (by decide))) }⟩
        · have hi : 2 < d.size := by omega
          have e1 := h.p1 (hpre _ rfl ⟨1, .data⟩ (by simp) rfl)
          refine wpOp_plain rfl rfl ?_
          go_simp
          refine (HCPY.out wc (H3.out.trans (h.bel.mono H3.out.size))).mono ?_
          rintro e1 w1 ⟨v1, rfl, hr1, hb⟩
          exact ⟨_, rfl, { bel := h.bel.trans (hb.mono h.bel.size), siz := (by simpa using h.siz), kp := fun i hi' => (set_other (fun e => hi' (by subst e; decide))).trans (h.kp i hi'), k1 := (set_other (by decide)).trans h.k1, p0 := fun hj => (set_other (by decide)).trans (h.p0 (dn_of hi hj (by decide))), p1 := fun hj => (set_other (by decide)).trans (h.p1 (dn_of hi hj (by decide))), p2 := fun _ => ⟨v1, set_same (by have := h.siz; omega), hr1⟩, p3 := fun hj => (set_other (by decide)).trans (h.p3 (dn_of hi hj (by decide))), p4 := fun hj => (set_other (by decide)).trans (h.p4 (dn_of hi hj (by decide))), p5 := fun hj => (set_other (by decide)).trans (h.p5 (dn_of hi hj (by decide))), p6 := fun hj => (set_other (by decide)).trans (h.p6 (dn_of hi hj (by decide))), p7 := fun hj => (set_other (by decide)).trans (h.p7 (dn_of hi hj (by decide))), p8 := fun hj => (set_other (by decide)).trans (h.p8 (dn_of hi hj (by decide))), p9 := fun hj => (set_other (by decide)).trans (h.p9 (dn_of hi hj (by decide))), p10 := fun hj => (set_other (by decide)).trans (h.p10 (dn_of hi hj (by decide))) }⟩
        · have hi : 3 < d.size := by omega
          have q1 := h.k1
          refine wpOp_plain rfl rfl ?_
          go_simp
          exact ⟨_, rfl, { bel := h.bel, siz := (by simpa using h.siz), kp := fun i hi' => (set_other (fun e => hi' (by subst e; decide))).trans (h.kp i hi'), k1 := (set_other (by decide)).trans h.k1, p0 := fun hj => (set_other (by decide)).trans (h.p0 (dn_of hi hj (by decide))), p1 := fun hj => (set_other (by decide)).trans (h.p1 (dn_of hi hj (by decide))), p2 := fun hj => (by obtain ⟨v, h1, h2⟩ := (h.p2 (dn_of hi hj (by decide))); exact ⟨v, (set_other (by decide)).trans h1, rdl_keep' (Below.refl _ _) h2⟩), p3 := fun _ => set_same (by have := h.siz; omega), p4 := fun hj => (set_other (by decide)).trans (h.p4 (dn_of hi hj (by decide))), p5 := fun hj => (set_other (by decide)).trans (h.p5 (dn_of hi hj (by decide))), p6 := fun hj => (set_other (by decide)).trans (h.p6 (dn_of hi hj (by decide))), p7 := fun hj => (set_other (by decide)).trans (h.p7 (dn_of hi hj (by decide))), p8 := fun hj => (set_other (by decide)).trans (h.p8 (dn_of hi hj (by decide))), p9 := fun hj => (set_other (by decide)).trans (h.p9 (dn_of hi hj (by decide))), p10 := fun hj => (set_other (by decide)).trans (h.p10 (dn_of hi hj (by decide))) }⟩
        · have hi : 4 < d.size := by omega
          have e3 := h.p3 (hpre _ rfl ⟨3, .data⟩ (by simp) rfl)
          obtain ⟨m0, m1, m2, m3⟩ := BXA.out wc (H3.out.trans (h.bel.mono H3.out.size))
          refine wpOp_plain rfl rfl ?_
          go_simp
          exact ⟨_, rfl, { bel := h.bel, siz := (by simpa using h.siz), kp := fun i hi' => (set_other (fun e => hi' (by subst e; decide))).trans (h.kp i hi'), k1 := (set_other (by decide)).trans h.k1, p0 := fun hj => (set_other (by decide)).trans (h.p0 (dn_of hi hj (by decide))), p1 := fun hj => (set_other (by decide)).trans (h.p1 (dn_of hi hj (by decide))), p2 := fun hj => (by obtain ⟨v, h1, h2⟩ := (h.p2 (dn_of hi hj (by decide))); exact ⟨v, (set_other (by decide)).trans h1, rdl_keep' (Below.refl _ _) h2⟩), p3 := fun hj => (set_other (by decide)).trans (h.p3 (dn_of hi hj (by decide))), p4 := fun _ => set_same (by have := h.siz; omega), p5 := fun hj => (set_other (by decide)).trans (h.p5 (dn_of hi hj (by decide))), p6 := fun hj => (set_other (by decide)).trans (h.p6 (dn_of hi hj (by decide))), p7 := fun hj => (set_other (by decide)).trans (h.p7 (dn_of hi hj (by decide))), p8 := fun hj => (set_other (by decide)).trans (h.p8 (dn_of hi hj (by decide))), p9 := fun hj => (set_other (by decide)).trans (h.p9 (dn_of hi hj (by decide))), p10 := fun hj => (set_other (by decide)).trans (h.p10 (dn_of hi hj (by decide))) }⟩
        · have hi : 5 < d.size := by omega
          obtain ⟨v2, e2, r2⟩ := h.p2 (hpre _ rfl ⟨2, .data⟩ (by simp) rfl)
          have e4 := h.p4 (hpre _ rfl ⟨4, .data⟩ (by simp) rfl)
          refine wpOp_plain rfl rfl ?_
          go_simp
          refine (Reach_any x s v2 wc r2 (by omega)).mono ?_
          rintro e1 w1 ⟨rfl, hb⟩
          exact ⟨_, rfl, { bel := h.bel.trans (hb.mono h.bel.size), siz := (by simpa using h.siz), kp := fun i hi' => (set_other (fun e => hi' (by subst e; decide))).trans (h.kp i hi'), k1 := (set_other (by decide)).trans h.k1, p0 := fun hj => (set_other (by decide)).trans (h.p0 (dn_of hi hj (by decide))), p1 := fun hj => (set_other (by decide)).trans (h.p1 (dn_of hi hj (by decide))), p2 := fun hj => (by obtain ⟨v, h1, h2⟩ := (h.p2 (dn_of hi hj (by decide))); exact ⟨v, (set_other (by decide)).trans h1, rdl_keep' hb h2⟩), p3 := fun hj => (set_other (by decide)).trans (h.p3 (dn_of hi hj (by decide))), p4 := fun hj => (set_other (by decide)).trans (h.p4 (dn_of hi hj (by decide))), p5 := fun _ => set_same (by have := h.siz; omega), p6 := fun hj => (set_other (by decide)).trans (h.p6 (dn_of hi hj (by decide))), p7 := fun hj => (set_other (by decide)).trans (h.p7 (dn_of hi hj (by decide))), p8 := fun hj => (set_other (by decide)).trans (h.p8 (dn_of hi hj (by decide))), p9 := fun hj => (set_other (by decide)).trans (h.p9 (dn_of hi hj (by decide))), p10 := fun hj => (set_other (by decide)).trans (h.p10 (dn_of hi hj (by decide))) }⟩
        · have hi : 6 < d.size := by omega
          have e5 := h.p5 (hpre _ rfl ⟨5, .data⟩ (by simp) rfl)
          refine wpOp_plain rfl rfl ?_
          go_simp
          exact ⟨_, rfl, { bel := h.bel, siz := (by simpa using h.siz), kp := fun i hi' => (set_other (fun e => hi' (by subst e; decide))).trans (h.kp i hi'), k1 := (set_other (by decide)).trans h.k1, p0 := fun hj => (set_other (by decide)).trans (h.p0 (dn_of hi hj (by decide))), p1 := fun hj => (set_other (by decide)).trans (h.p1 (dn_of hi hj (by decide))), p2 := fun hj => (by obtain ⟨v, h1, h2⟩ := (h.p2 (dn_of hi hj (by decide))); exact ⟨v, (set_other (by decide)).trans h1, rdl_keep' (Below.refl _ _) h2⟩), p3 := fun hj => (set_other (by decide)).trans (h.p3 (dn_of hi hj (by decide))), p4 := fun hj => (set_other (by decide)).trans (h.p4 (dn_of hi hj (by decide))), p5 := fun hj => (set_other (by decide)).trans (h.p5 (dn_of hi hj (by decide))), p6 := fun _ => set_same (by have := h.siz; omega), p7 := fun hj => (set_other (by decide)).trans (h.p7 (dn_of hi hj (by decide))), p8 := fun hj => (set_other (by decide)).trans (h.p8 (dn_of hi hj (by decide))), p9 := fun hj => (set_other (by decide)).trans (h.p9 (dn_of hi hj (by decide))), p10 := fun hj => (set_other (by decide)).trans (h.p10 (dn_of hi hj (by decide))) }⟩
        · have hi : 7 < d.size := by omega
          have e6 := h.p6 (hpre _ rfl ⟨6, .data⟩ (by simp) rfl)
          refine wpOp_plain rfl rfl ?_
          go_simp
          exact ⟨_, rfl, { bel := h.bel, siz := (by simpa using h.siz), kp := fun i hi' => (set_other (fun e => hi' (by subst e; decide))).trans (h.kp i hi'), k1 := (set_other (by decide)).trans h.k1, p0 := fun hj => (set_other (by decide)).trans (h.p0 (dn_of hi hj (by decide))), p1 := fun hj => (set_other (by decide)).trans (h.p1 (dn_of hi hj (by decide))), p2 := fun hj => (by obtain ⟨v, h1, h2⟩ := (h.p2 (dn_of hi hj (by decide))); exact ⟨v, (set_other (by decide)).trans h1, rdl_keep' (Below.refl _ _) h2⟩), p3 := fun hj => (set_other (by decide)).trans (h.p3 (dn_of hi hj (by decide))), p4 := fun hj => (set_other (by decide)).trans (h.p4 (dn_of hi hj (by decide))), p5 := fun hj => (set_other (by decide)).trans (h.p5 (dn_of hi hj (by decide))), p6 := fun hj => (set_other (by decide)).trans (h.p6 (dn_of hi hj (by decide))), p7 := fun _ => set_same (by have := h.siz; omega), p8 := fun hj => (set_other (by decide)).trans (h.p8 (dn_of hi hj (by decide))), p9 := fun hj => (set_other (by decide)).trans (h.p9 (dn_of hi hj (by decide))), p10 := fun hj => (set_other (by decide)).trans (h.p10 (dn_of hi hj (by decide))) }⟩
        · have hi : 8 < d.size := by omega
          have e6 := h.p6 (hpre _ rfl ⟨6, .data⟩ (by simp) rfl)
          refine wpOp_plain rfl rfl ?_
          go_simp
          exact ⟨_, rfl, { bel := h.bel, siz := (by simpa using h.siz), kp := fun i hi' => (set_other (fun e => hi' (by subst e; decide))).trans (h.kp i hi'), k1 := (set_other (by decide)).trans h.k1, p0 := fun hj => (set_other (by decide)).trans (h.p0 (dn_of hi hj (by decide))), p1 := fun hj => (set_other (by decide)).trans (h.p1 (dn_of hi hj (by decide))), p2 := fun hj => (by obtain ⟨v, h1, h2⟩ := (h.p2 (dn_of hi hj (by decide))); exact ⟨v, (set_other (by decide)).trans h1, rdl_keep' (Below.refl _ _) h2⟩), p3 := fun hj => (set_other (by decide)).trans (h.p3 (dn_of hi hj (by decide))), p4 := fun hj => (set_other (by decide)).trans (h.p4 (dn_of hi hj (by decide))), p5 := fun hj => (set_other (by decide)).trans (h.p5 (dn_of hi hj (by decide))), p6 := fun hj => (set_other (by decide)).trans (h.p6 (dn_of hi hj (by decide))), p7 := fun hj => (set_other (by decide)).trans (h.p7 (dn_of hi hj (by decide))), p8 := fun _ => set_same (by have := h.siz; omega), p9 := fun hj => (set_other (by decide)).trans (h.p9 (dn_of hi hj (by decide))), p10 := fun hj => (set_other (by decide)).trans (h.p10 (dn_of hi hj (by decide))) }⟩
        · have hi : 9 < d.size := by omega
          have e7 := h.p7 (hpre _ rfl ⟨7, .data⟩ (by simp) rfl)
          refine wpOp_plain rfl rfl ?_
          go_simp
          exact ⟨_, rfl, { bel := h.bel, siz := (by simpa using h.siz), kp := fun i hi' => (set_other (fun e => hi' (by subst e; decide))).trans (h.kp i hi'), k1 := (set_other (by decide)).trans h.k1, p0 := fun hj => (set_other (by decide)).trans (h.p0 (dn_of hi hj (by decide))), p1 := fun hj => (set_other (by decide)).trans (h.p1 (dn_of hi hj (by decide))), p2 := fun hj => (by obtain ⟨v, h1, h2⟩ := (h.p2 (dn_of hi hj (by decide))); exact ⟨v, (set_other (by decide)).trans h1, rdl_keep' (Below.refl _ _) h2⟩), p3 := fun hj => (set_other (by decide)).trans (h.p3 (dn_of hi hj (by decide))), p4 := fun hj => (set_other (by decide)).trans (h.p4 (dn_of hi hj (by decide))), p5 := fun hj => (set_other (by decide)).trans (h.p5 (dn_of hi hj (by decide))), p6 := fun hj => (set_other (by decide)).trans (h.p6 (dn_of hi hj (by decide))), p7 := fun hj => (set_other (by decide)).trans (h.p7 (dn_of hi hj (by decide))), p8 := fun hj => (set_other (by decide)).trans (h.p8 (dn_of hi hj (by decide))), p9 := fun _ => set_same (by have := h.siz; omega), p10 := fun hj => (set_other (by decide)).trans (h.p10 (dn_of hi hj (by decide))) }⟩
        · have hi : 10 < d.size := by omega
          have e8 := h.p8 (hpre _ rfl ⟨8, .data⟩ (by simp) rfl)
          refine wpOp_plain rfl rfl ?_
          go_simp
          exact ⟨_, rfl, { bel := h.bel, siz := (by simpa using h.siz), kp := fun i hi' => (set_other (fun e => hi' (by subst e; decide))).trans (h.kp i hi'), k1 := (set_other (by decide)).trans h.k1, p0 := fun hj => (set_other (by decide)).trans (h.p0 (dn_of hi hj (by decide))), p1 := fun hj => (set_other (by decide)).trans (h.p1 (dn_of hi hj (by decide))), p2 := fun hj => (by obtain ⟨v, h1, h2⟩ := (h.p2 (dn_of hi hj (by decide))); exact ⟨v, (set_other (by decide)).trans h1, rdl_keep' (Below.refl _ _) h2⟩), p3 := fun hj => (set_other (by decide)).trans (h.p3 (dn_of hi hj (by decide))), p4 := fun hj => (set_other (by decide)).trans (h.p4 (dn_of hi hj (by decide))), p5 := fun hj => (set_other (by decide)).trans (h.p5 (dn_of hi hj (by decide))), p6 := fun hj => (set_other (by decide)).trans (h.p6 (dn_of hi hj (by decide))), p7 := fun hj => (set_other (by decide)).trans (h.p7 (dn_of hi hj (by decide))), p8 := fun hj => (set_other (by decide)).trans (h.p8 (dn_of hi hj (by decide))), p9 := fun hj => (set_other (by decide)).trans (h.p9 (dn_of hi hj (by decide))), p10 := fun _ => set_same (by have := h.siz; omega) }⟩
      case gendb =>
        intro d a wc hd hI hall
        obtain ⟨t, rfl, h⟩ := hI
        have hdn : ∀ j, j < 11 → dn d j := fun j hj => dn_all hd hall hj
        have hl : t.toList.length = 69 := h.siz
        obtain ⟨l⟩ := t
        simp only [] at hl
        obtain ⟨t0, l, rfl⟩ := List.exists_cons_of_length_eq_add_one (n := 68) hl; replace hl : l.length = 68 := (by simpa using hl)
        obtain ⟨t1, l, rfl⟩ := List.exists_cons_of_length_eq_add_one (n := 67) hl; replace hl : l.length = 67 := (by simpa using hl)
        obtain ⟨t2, l, rfl⟩ := List.exists_cons_of_length_eq_add_one (n := 66) hl; replace hl : l.length = 66 := (by simpa using hl)
        obtain ⟨t3, l, rfl⟩ := List.exists_cons_of_length_eq_add_one (n := 65) hl; replace hl : l.length = 65 := (by simpa using hl)
        obtain ⟨t4, l, rfl⟩ := List.exists_cons_of_length_eq_add_one (n := 64) hl; replace hl : l.length = 64 := (by simpa using hl)
        obtain ⟨t5, l, rfl⟩ := List.exists_cons_of_length_eq_add_one (n := 63) hl; replace hl : l.length = 63 := (by simpa using hl)
        obtain ⟨t6, l, rfl⟩ := List.exists_cons_of_length_eq_add_one (n := 62) hl; replace hl : l.length = 62 := (by simpa using hl)
        obtain ⟨t7, l, rfl⟩ := List.exists_cons_of_length_eq_add_one (n := 61) hl; replace hl : l.length = 61 := (by simpa using hl)
        obtain ⟨t8, l, rfl⟩ := List.exists_cons_of_length_eq_add_one (n := 60) hl; replace hl : l.length = 60 := (by simpa using hl)
        obtain ⟨t9, l, rfl⟩ := List.exists_cons_of_length_eq_add_one (n := 59) hl; replace hl : l.length = 59 := (by simpa using hl)
        obtain ⟨t10, l, rfl⟩ := List.exists_cons_of_length_eq_add_one (n := 58) hl; replace hl : l.length = 58 := (by simpa using hl)
        obtain ⟨t11, l, rfl⟩ := List.exists_cons_of_length_eq_add_one (n := 57) hl; replace hl : l.length = 57 := (by simpa using hl)
        obtain ⟨t12, l, rfl⟩ := List.exists_cons_of_length_eq_add_one (n := 56) hl; replace hl : l.length = 56 := (by simpa using hl)
        obtain ⟨t13, l, rfl⟩ := List.exists_cons_of_length_eq_add_one (n := 55) hl; replace hl : l.length = 55 := (by simpa using hl)
        obtain ⟨t14, l, rfl⟩ := List.exists_cons_of_length_eq_add_one (n := 54) hl; replace hl : l.length = 54 := (by simpa using hl)
        obtain ⟨t15, l, rfl⟩ := List.exists_cons_of_length_eq_add_one (n := 53) hl; replace hl : l.length = 53 := (by simpa using hl)
        obtain ⟨t16, l, rfl⟩ := List.exists_cons_of_length_eq_add_one (n := 52) hl; replace hl : l.length = 52 := (by simpa using hl)
        obtain ⟨t17, l, rfl⟩ := List.exists_cons_of_length_eq_add_one (n := 51) hl; replace hl : l.length = 51 := (by simpa using hl)
        obtain ⟨t18, l, rfl⟩ := List.exists_cons_of_length_eq_add_one (n := 50) hl; replace hl : l.length = 50 := (by simpa using hl)
        obtain ⟨t19, l, rfl⟩ := List.exists_cons_of_length_eq_add_one (n := 49) hl; replace hl : l.length = 49 := (by simpa using hl)
        obtain ⟨t20, l, rfl⟩ := List.exists_cons_of_length_eq_add_one (n := 48) hl; replace hl : l.length = 48 := (by simpa using hl)
        obtain ⟨t21, l, rfl⟩ := List.exists_cons_of_length_eq_add_one (n := 47) hl; replace hl : l.length = 47 := (by simpa using hl)
        obtain ⟨t22, l, rfl⟩ := List.exists_cons_of_length_eq_add_one (n := 46) hl; replace hl : l.length = 46 := (by simpa using hl)
        obtain ⟨t23, l, rfl⟩ := List.exists_cons_of_length_eq_add_one (n := 45) hl; replace hl : l.length = 45 := (by simpa using hl)
        obtain ⟨t24, l, rfl⟩ := List.exists_cons_of_length_eq_add_one (n := 44) hl; replace hl : l.length = 44 := (by simpa using hl)
        obtain ⟨t25, l, rfl⟩ := List.exists_cons_of_length_eq_add_one (n := 43) hl; replace hl : l.length = 43 := (by simpa using hl)
        obtain ⟨t26, l, rfl⟩ := List.exists_cons_of_length_eq_add_one (n := 42) hl; replace hl : l.length = 42 := (by simpa using hl)
        obtain ⟨t27, l, rfl⟩ := List.exists_cons_of_length_eq_add_one (n := 41) hl; replace hl : l.length = 41 := (by simpa using hl)
        obtain ⟨t28, l, rfl⟩ := List.exists_cons_of_length_eq_add_one (n := 40) hl; replace hl : l.length = 40 := (by simpa using hl)
        obtain ⟨t29, l, rfl⟩ := List.exists_cons_of_length_eq_add_one (n := 39) hl; replace hl : l.length = 39 := (by simpa using hl)
        obtain ⟨t30, l, rfl⟩ := List.exists_cons_of_length_eq_add_one (n := 38) hl; replace hl : l.length = 38 := (by simpa using hl)
        obtain ⟨t31, l, rfl⟩ := List.exists_cons_of_length_eq_add_one (n := 37) hl; replace hl : l.length = 37 := (by simpa using hl)
        obtain ⟨t32, l, rfl⟩ := List.exists_cons_of_length_eq_add_one (n := 36) hl; replace hl : l.length = 36 := (by simpa using hl)
        obtain ⟨t33, l, rfl⟩ := List.exists_cons_of_length_eq_add_one (n := 35) hl; replace hl : l.length = 35 := (by simpa using hl)
        obtain ⟨t34, l, rfl⟩ := List.exists_cons_of_length_eq_add_one (n := 34) hl; replace hl : l.length = 34 := (by simpa using hl)
        obtain ⟨t35, l, rfl⟩ := List.exists_cons_of_length_eq_add_one (n := 33) hl; replace hl : l.length = 33 := (by simpa using hl)
        obtain ⟨t36, l, rfl⟩ := List.exists_cons_of_length_eq_add_one (n := 32) hl; replace hl : l.length = 32 := (by simpa using hl)
        obtain ⟨t37, l, rfl⟩ := List.exists_cons_of_length_eq_add_one (n := 31) hl; replace hl : l.length = 31 := (by simpa using hl)
        obtain ⟨t38, l, rfl⟩ := List.exists_cons_of_length_eq_add_one (n := 30) hl; replace hl : l.length = 30 := (by simpa using hl)
        obtain ⟨t39, l, rfl⟩ := List.exists_cons_of_length_eq_add_one (n := 29) hl; replace hl : l.length = 29 := (by simpa using hl)
        obtain ⟨t40, l, rfl⟩ := List.exists_cons_of_length_eq_add_one (n := 28) hl; replace hl : l.length = 28 := (by simpa using hl)
        obtain ⟨t41, l, rfl⟩ := List.exists_cons_of_length_eq_add_one (n := 27) hl; replace hl : l.length = 27 := (by simpa using hl)
        obtain ⟨t42, l, rfl⟩ := List.exists_cons_of_length_eq_add_one (n := 26) hl; replace hl : l.length = 26 := (by simpa using hl)
        obtain ⟨t43, l, rfl⟩ := List.exists_cons_of_length_eq_add_one (n := 25) hl; replace hl : l.length = 25 := (by simpa using hl)
        obtain ⟨t44, l, rfl⟩ := List.exists_cons_of_length_eq_add_one (n := 24) hl; replace hl : l.length = 24 := (by simpa using hl)
        obtain ⟨t45, l, rfl⟩ := List.exists_cons_of_length_eq_add_one (n := 23) hl; replace hl : l.length = 23 := (by simpa using hl)
        obtain ⟨t46, l, rfl⟩ := List.exists_cons_of_length_eq_add_one (n := 22) hl; replace hl : l.length = 22 := (by simpa using hl)
        obtain ⟨t47, l, rfl⟩ := List.exists_cons_of_length_eq_add_one (n := 21) hl; replace hl : l.length = 21 := (by simpa using hl)
        obtain ⟨t48, l, rfl⟩ := List.exists_cons_of_length_eq_add_one (n := 20) hl; replace hl : l.length = 20 := (by simpa using hl)
        obtain ⟨t49, l, rfl⟩ := List.exists_cons_of_length_eq_add_one (n := 19) hl; replace hl : l.length = 19 := (by simpa using hl)
        obtain ⟨t50, l, rfl⟩ := List.exists_cons_of_length_eq_add_one (n := 18) hl; replace hl : l.length = 18 := (by simpa using hl)
        obtain ⟨t51, l, rfl⟩ := List.exists_cons_of_length_eq_add_one (n := 17) hl; replace hl : l.length = 17 := (by simpa using hl)
        obtain ⟨t52, l, rfl⟩ := List.exists_cons_of_length_eq_add_one (n := 16) hl; replace hl : l.length = 16 := (by simpa using hl)
        obtain ⟨t53, l, rfl⟩ := List.exists_cons_of_length_eq_add_one (n := 15) hl; replace hl : l.length = 15 := (by simpa using hl)
        obtain ⟨t54, l, rfl⟩ := List.exists_cons_of_length_eq_add_one (n := 14) hl; replace hl : l.length = 14 := (by simpa using hl)
        obtain ⟨t55, l, rfl⟩ := List.exists_cons_of_length_eq_add_one (n := 13) hl; replace hl : l.length = 13 := (by simpa using hl)
        obtain ⟨t56, l, rfl⟩ := List.exists_cons_of_length_eq_add_one (n := 12) hl; replace hl : l.length = 12 := (by simpa using hl)
        obtain ⟨t57, l, rfl⟩ := List.exists_cons_of_length_eq_add_one (n := 11) hl; replace hl : l.length = 11 := (by simpa using hl)
        obtain ⟨t58, l, rfl⟩ := List.exists_cons_of_length_eq_add_one (n := 10) hl; replace hl : l.length = 10 := (by simpa using hl)
        obtain ⟨t59, l, rfl⟩ := List.exists_cons_of_length_eq_add_one (n := 9) hl; replace hl : l.length = 9 := (by simpa using hl)
        obtain ⟨t60, l, rfl⟩ := List.exists_cons_of_length_eq_add_one (n := 8) hl; replace hl : l.length = 8 := (by simpa using hl)
        obtain ⟨t61, l, rfl⟩ := List.exists_cons_of_length_eq_add_one (n := 7) hl; replace hl : l.length = 7 := (by simpa using hl)
        obtain ⟨t62, l, rfl⟩ := List.exists_cons_of_length_eq_add_one (n := 6) hl; replace hl : l.length = 6 := (by simpa using hl)
        obtain ⟨t63, l, rfl⟩ := List.exists_cons_of_length_eq_add_one (n := 5) hl; replace hl : l.length = 5 := (by simpa using hl)
        obtain ⟨t64, l, rfl⟩ := List.exists_cons_of_length_eq_add_one (n := 4) hl; replace hl : l.length = 4 := (by simpa using hl)
        obtain ⟨t65, l, rfl⟩ := List.exists_cons_of_length_eq_add_one (n := 3) hl; replace hl : l.length = 3 := (by simpa using hl)
        obtain ⟨t66, l, rfl⟩ := List.exists_cons_of_length_eq_add_one (n := 2) hl; replace hl : l.length = 2 := (by simpa using hl)
        obtain ⟨t67, l, rfl⟩ := List.exists_cons_of_length_eq_add_one (n := 1) hl; replace hl : l.length = 1 := (by simpa using hl)
        obtain ⟨t68, l, rfl⟩ := List.exists_cons_of_length_eq_add_one (n := 0) hl; replace hl : l.length = 0 := (by simpa using hl)
        obtain rfl := List.eq_nil_of_length_eq_zero hl
        clear hl
        have e := h.kp 0 (by decide); simp only [List.getElem?_toArray, List.getElem?_cons_zero, Option.some.injEq] at e; subst e
        have e := h.kp 1 (by decide); simp only [List.getElem?_toArray, List.getElem?_cons_succ, List.getElem?_cons_zero, Option.some.injEq] at e; subst e
        have e := h.kp 2 (by decide); simp only [List.getElem?_toArray, List.getElem?_cons_succ, List.getElem?_cons_zero, Option.some.injEq] at e; subst e
        have e := h.kp 3 (by decide); simp only [List.getElem?_toArray, List.getElem?_cons_succ, List.getElem?_cons_zero, Option.some.injEq] at e; subst e
        have e := h.kp 4 (by decide); simp only [List.getElem?_toArray, List.getElem?_cons_succ, List.getElem?_cons_zero, Option.some.injEq] at e; subst e
        have e := h.kp 5 (by decide); simp only [List.getElem?_toArray, List.getElem?_cons_succ, List.getElem?_cons_zero, Option.some.injEq] at e; subst e
        have e := h.kp 6 (by decide); simp only [List.getElem?_toArray, List.getElem?_cons_succ, List.getElem?_cons_zero, Option.some.injEq] at e; subst e
        have e := h.kp 9 (by decide); simp only [List.getElem?_toArray, List.getElem?_cons_succ, List.getElem?_cons_zero, Option.some.injEq] at e; subst e
        have e := h.kp 10 (by decide); simp only [List.getElem?_toArray, List.getElem?_cons_succ, List.getElem?_cons_zero, Option.some.injEq] at e; subst e
        have e := h.kp 11 (by decide); simp only [List.getElem?_toArray, List.getElem?_cons_succ, List.getElem?_cons_zero, Option.some.injEq] at e; subst e
        have e := h.kp 12 (by decide); simp only [List.getElem?_toArray, List.getElem?_cons_succ, List.getElem?_cons_zero, Option.some.injEq] at e; subst e
        have e := h.kp 13 (by decide); simp only [List.getElem?_toArray, List.getElem?_cons_succ, List.getElem?_cons_zero, Option.some.injEq] at e; subst e
        have e := h.kp 14 (by decide); simp only [List.getElem?_toArray, List.getElem?_cons_succ, List.getElem?_cons_zero, Option.some.injEq] at e; subst e
        have e := h.kp 15 (by decide); simp only [List.getElem?_toArray, List.getElem?_cons_succ, List.getElem?_cons_zero, Option.some.injEq] at e; subst e
        have e := h.kp 16 (by decide); simp only [List.getElem?_toArray, List.getElem?_cons_succ, List.getElem?_cons_zero, Option.some.injEq] at e; subst e
        have e := h.kp 17 (by decide); simp only [List.getElem?_toArray, List.getElem?_cons_succ, List.getElem?_cons_zero, Option.some.injEq] at e; subst e
        have e := h.kp 18 (by decide); simp only [List.getElem?_toArray, List.getElem?_cons_succ, List.getElem?_cons_zero, Option.some.injEq] at e; subst e
        have e := h.kp 19 (by decide); simp only [List.getElem?_toArray, List.getElem?_cons_succ, List.getElem?_cons_zero, Option.some.injEq] at e; subst e
        have e := h.kp 20 (by decide); simp only [List.getElem?_toArray, List.getElem?_cons_succ, List.getElem?_cons_zero, Option.some.injEq] at e; subst e
        have e := h.kp 21 (by decide); simp only [List.getElem?_toArray, List.getElem?_cons_succ, List.getElem?_cons_zero, Option.some.injEq] at e; subst e
        have e := h.kp 22 (by decide); simp only [List.getElem?_toArray, List.getElem?_cons_succ, List.getElem?_cons_zero, Option.some.injEq] at e; subst e
        have e := h.kp 23 (by decide); simp only [List.getElem?_toArray, List.getElem?_cons_succ, List.getElem?_cons_zero, Option.some.injEq] at e; subst e
        have e := h.kp 24 (by decide); simp only [List.getElem?_toArray, List.getElem?_cons_succ, List.getElem?_cons_zero, Option.some.injEq] at e; subst e
        have e := h.kp 25 (by decide); simp only [List.getElem?_toArray, List.getElem?_cons_succ, List.getElem?_cons_zero, Option.some.injEq] at e; subst e
        have e := h.kp 26 (by decide); simp only [List.getElem?_toArray, List.getElem?_cons_succ, List.getElem?_cons_zero, Option.some.injEq] at e; subst e
        have e := h.kp 27 (by decide); simp only [List.getElem?_toArray, List.getElem?_cons_succ, List.getElem?_cons_zero, Option.some.injEq] at e; subst e
        have e := h.kp 28 (by decide); simp only [List.getElem?_toArray, List.getElem?_cons_succ, List.getElem?_cons_zero, Option.some.injEq] at e; subst e
        have e := h.kp 29 (by decide); simp only [List.getElem?_toArray, List.getElem?_cons_succ, List.getElem?_cons_zero, Option.some.injEq] at e; subst e
        have e := h.kp 30 (by decide); simp only [List.getElem?_toArray, List.getElem?_cons_succ, List.getElem?_cons_zero, Option.some.injEq] at e; subst e
        have e := h.kp 40 (by decide); simp only [List.getElem?_toArray, List.getElem?_cons_succ, List.getElem?_cons_zero, Option.some.injEq] at e; subst e
        have e := h.kp 41 (by decide); simp only [List.getElem?_toArray, List.getElem?_cons_succ, List.getElem?_cons_zero, Option.some.injEq] at e; subst e
        have e := h.kp 42 (by decide); simp only [List.getElem?_toArray, List.getElem?_cons_succ, List.getElem?_cons_zero, Option.some.injEq] at e; subst e
        have e := h.kp 43 (by decide); simp only [List.getElem?_toArray, List.getElem?_cons_succ, List.getElem?_cons_zero, Option.some.injEq] at e; subst e
        have e := h.kp 44 (by decide); simp only [List.getElem?_toArray, List.getElem?_cons_succ, List.getElem?_cons_zero, Option.some.injEq] at e; subst e
        have e := h.kp 45 (by decide); simp only [List.getElem?_toArray, List.getElem?_cons_succ, List.getElem?_cons_zero, Option.some.injEq] at e; subst e
        have e := h.kp 46 (by decide); simp only [List.getElem?_toArray, List.getElem?_cons_succ, List.getElem?_cons_zero, Option.some.injEq] at e; subst e
        have e := h.kp 47 (by decide); simp only [List.getElem?_toArray, List.getElem?_cons_succ, List.getElem?_cons_zero, Option.some.injEq] at e; subst e
        have e := h.kp 48 (by decide); simp only [List.getElem?_toArray, List.getElem?_cons_succ, List.getElem?_cons_zero, Option.some.injEq] at e; subst e
        have e := h.kp 49 (by decide); simp only [List.getElem?_toArray, List.getElem?_cons_succ, List.getElem?_cons_zero, Option.some.injEq] at e; subst e
        have e := h.kp 50 (by decide); simp only [List.getElem?_toArray, List.getElem?_cons_succ, List.getElem?_cons_zero, Option.some.injEq] at e; subst e
        have e := h.kp 51 (by decide); simp only [List.getElem?_toArray, List.getElem?_cons_succ, List.getElem?_cons_zero, Option.some.injEq] at e; subst e
        have e := h.kp 52 (by decide); simp only [List.getElem?_toArray, List.getElem?_cons_succ, List.getElem?_cons_zero, Option.some.injEq] at e; subst e
        have e := h.kp 53 (by decide); simp only [List.getElem?_toArray, List.getElem?_cons_succ, List.getElem?_cons_zero, Option.some.injEq] at e; subst e
        have e := h.kp 54 (by decide); simp only [List.getElem?_toArray, List.getElem?_cons_succ, List.getElem?_cons_zero, Option.some.injEq] at e; subst e
        have e := h.kp 55 (by decide); simp only [List.getElem?_toArray, List.getElem?_cons_succ, List.getElem?_cons_zero, Option.some.injEq] at e; subst e
        have e := h.kp 56 (by decide); simp only [List.getElem?_toArray, List.getElem?_cons_succ, List.getElem?_cons_zero, Option.some.injEq] at e; subst e
        have e := h.kp 57 (by decide); simp only [List.getElem?_toArray, List.getElem?_cons_succ, List.getElem?_cons_zero, Option.some.injEq] at e; subst e
        have e := h.kp 58 (by decide); simp only [List.getElem?_toArray, List.getElem?_cons_succ, List.getElem?_cons_zero, Option.some.injEq] at e; subst e
        have e := h.kp 59 (by decide); simp only [List.getElem?_toArray, List.getElem?_cons_succ, List.getElem?_cons_zero, Option.some.injEq] at e; subst e
        have e := h.kp 60 (by decide); simp only [List.getElem?_toArray, List.getElem?_cons_succ, List.getElem?_cons_zero, Option.some.injEq] at e; subst e
        have e := h.kp 61 (by decide); simp only [List.getElem?_toArray, List.getElem?_cons_succ, List.getElem?_cons_zero, Option.some.injEq] at e; subst e
        have e := h.kp 62 (by decide); simp only [List.getElem?_toArray, List.getElem?_cons_succ, List.getElem?_cons_zero, Option.some.injEq] at e; subst e
        have e := h.kp 63 (by decide); simp only [List.getElem?_toArray, List.getElem?_cons_succ, List.getElem?_cons_zero, Option.some.injEq] at e; subst e
        have e := h.kp 64 (by decide); simp only [List.getElem?_toArray, List.getElem?_cons_succ, List.getElem?_cons_zero, Option.some.injEq] at e; subst e
        have e := h.kp 65 (by decide); simp only [List.getElem?_toArray, List.getElem?_cons_succ, List.getElem?_cons_zero, Option.some.injEq] at e; subst e
        have e := h.kp 66 (by decide); simp only [List.getElem?_toArray, List.getElem?_cons_succ, List.getElem?_cons_zero, Option.some.injEq] at e; subst e
        have e := h.kp 67 (by decide); simp only [List.getElem?_toArray, List.getElem?_cons_succ, List.getElem?_cons_zero, Option.some.injEq] at e; subst e
        have e := h.kp 68 (by decide); simp only [List.getElem?_toArray, List.getElem?_cons_succ, List.getElem?_cons_zero, Option.some.injEq] at e; subst e
        have e := h.p9 (hdn 9 (by omega)); simp only [List.getElem?_toArray, List.getElem?_cons_succ, List.getElem?_cons_zero, Option.some.injEq] at e; subst e
        have e := h.p10 (hdn 10 (by omega)); simp only [List.getElem?_toArray, List.getElem?_cons_succ, List.getElem?_cons_zero, Option.some.injEq] at e; subst e
        have e := h.p6 (hdn 6 (by omega)); simp only [List.getElem?_toArray, List.getElem?_cons_succ, List.getElem?_cons_zero, Option.some.injEq] at e; subst e
        have e := h.p0 (hdn 0 (by omega)); simp only [List.getElem?_toArray, List.getElem?_cons_succ, List.getElem?_cons_zero, Option.some.injEq] at e; subst e
        have e := h.p1 (hdn 1 (by omega)); simp only [List.getElem?_toArray, List.getElem?_cons_succ, List.getElem?_cons_zero, Option.some.injEq] at e; subst e
        obtain ⟨v2, e2, r2⟩ := h.p2 (hdn 2 (by omega)); obtain rfl : t34 = v2 := by simpa using e2
        have e := h.p3 (hdn 3 (by omega)); simp only [List.getElem?_toArray, List.getElem?_cons_succ, List.getElem?_cons_zero, Option.some.injEq] at e; subst e
        have e := h.p4 (hdn 4 (by omega)); simp only [List.getElem?_toArray, List.getElem?_cons_succ, List.getElem?_cons_zero, Option.some.injEq] at e; subst e
        have e := h.p5 (hdn 5 (by omega)); simp only [List.getElem?_toArray, List.getElem?_cons_succ, List.getElem?_cons_zero, Option.some.injEq] at e; subst e
        have e := h.p7 (hdn 7 (by omega)); simp only [List.getElem?_toArray, List.getElem?_cons_succ, List.getElem?_cons_zero, Option.some.injEq] at e; subst e
        have e := h.p8 (hdn 8 (by omega)); simp only [List.getElem?_toArray, List.getElem?_cons_succ, List.getElem?_cons_zero, Option.some.injEq] at e; subst e
        have hbc := h.bel
        clear h hdn hall
        have H5 := Lib.hid (H3.out.trans (hbc.mono H3.out.size))
        clear hbc r2
        obtain ⟨g0, g1, g2, g3⟩ := BXA.out wc H5.out
        go_wp2_with fail
        refine (rReach_any x s _ wc (HGL.out wc H5.out) (by omega)).mono ?_
        rintro e6 w6 ⟨rfl, hb6⟩
        have H6 := Lib.hid (H5.out.trans (hb6.mono H5.out.size))
        clear hb6 g0 g1 g2 g3
        go_wp2_with (go_at_call 12; refine (works_any _).mono ?_; rintro e9 w9 ⟨rfl, hb9⟩)
        go_ret
        exact ⟨rfl, HBA.out.trans ((H6.out.trans (hb9.mono H6.out.size)).mono HBA.out.size)⟩
  · clear hfar
    go_wp2_with (go_at_call 12; refine (works_any _).mono ?_; rintro e2 w2 ⟨rfl, hb2⟩)
    go_ret
    exact ⟨rfl, HBA.out.trans ((H1.out.trans (hb2.mono H1.out.size)).mono HBA.out.size)⟩
end Go.Proofs.YtpmfjndbckblfaaDoor
