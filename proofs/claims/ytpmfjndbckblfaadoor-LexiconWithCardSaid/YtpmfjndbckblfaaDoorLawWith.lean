/- ostraconlaw05.LexiconWith: the walk. Made by gen_lawwith.py. -/
import Derived.Test.YtpmfjndbckblfaaDoorLeastF
import Derived.Test.YtpmfjndbckblfaaDoorWorks
import Derived.Test.YtpmfjndbckblfaaDoorBig
import Derived.Test.YtpmfjndbckblfaaDoorCopy
namespace Go.Proofs.YtpmfjndbckblfaaDoor
open Go.RowKit

theorem Lx.leanF_end {x : Lx.Lexicon} {s : ByteArray} : ∀ (fuel : Nat) (m : Lx.Match) (first : Nat), ∀ m' ∈ Lx.leanF x s fuel m first, m'.ending = m.ending
  | 0, m, first, m', h => by simp [Lx.leanF] at h; subst h; rfl
  | fuel + 1, m, first, m', h => by
    unfold Lx.leanF at h
    rw [List.mem_cons] at h
    rcases h with rfl | h
    · rfl
    · split at h
      · simp at h
      · rw [List.mem_flatMap] at h
        obtain ⟨c, _, h⟩ := h
        split at h
        · split at h
          · have := Lx.leanF_end fuel _ _ m' h
            exact this
          · simp at h
        · simp at h
theorem Lx.matchesV_end {x : Lx.Lexicon} {s : ByteArray} : ∀ m ∈ Lx.matchesV x s, -1 ≤ m.ending := by
  intro m hm
  unfold Lx.matchesV Lx.matchesN at hm
  rw [List.mem_flatMap] at hm
  obtain ⟨i, hi, hm⟩ := hm
  unfold Lx.matchesE at hm
  split at hm
  · split at hm
    · unfold Lx.matchesTo at hm
      rw [List.mem_flatMap] at hm
      obtain ⟨q, hq, hm⟩ := hm
      unfold Lx.matchesQ at hm
      split at hm
      · simp at hm
      · split at hm
        · rw [Lx.leanF_end _ _ _ m hm]; simp only; omega
        · simp at hm
    · simp at hm
  · simp at hm
theorem Lx.withV_small {x : Lx.Lexicon} {s : ByteArray} (h : Lx.checkV x = 0) : ∀ f ∈ Lx.withV x s, FSmall f := by
  intro f hf
  have hc := Lx.withV_fits h f hf
  obtain ⟨t0, t1, t2⟩ := Lx.tooMany_no (Lx.check_parts h).1
  refine FitsC.small hc (by omega) (by omega) (by omega) ?_
  unfold Lx.withV Lx.withL at hf
  rw [List.mem_map] at hf
  obtain ⟨m, hm, rfl⟩ := hf
  exact Lx.matchesV_end m (List.mem_filter.1 hm).1
theorem zero_small : FSmall ⟨0, 0, []⟩ := ⟨by simp, by simp, by simp, fun k c hc => by simp at hc⟩
theorem Lx.withR_small {x : Lx.Lexicon} {s : ByteArray} : ∀ f ∈ Lx.withR x s, FSmall f := by
  intro f hf
  unfold Lx.withR at hf
  split at hf
  · rename_i hn
    have hsp : Lx.speechV x s = 0 := by
      rcases Decidable.em (Lx.speechV x s = 0) with q | q
      · exact q
      · rw [(Lx.withN_bad q).1] at hn; exact absurd hn q
    exact Lx.withV_small (Lx.speech_parts hsp).1 f hf
  · cases hf
theorem Lx.leastR_small {x : Lx.Lexicon} {s : ByteArray} : FSmall (Lx.leastR x s) := by
  rcases Decidable.em (Lx.speechV x s = 0) with q | q
  · cases hw : Lx.withV x s with
    | nil => rw [(Lx.leastN_none q hw).2]; exact zero_small
    | cons f0 r =>
      rw [(Lx.leastN_good q hw).2]
      have hs := Lx.withV_small (s := s) (Lx.speech_parts q).1
      rw [hw] at hs
      rcases Lx.leastL_mem (x := x) r f0 with e | e
      · rw [e]; exact hs f0 (by simp)
      · exact hs _ (by simp [e])
  · rw [(Lx.leastN_bad q).2]; exact zero_small
structure WaR (T0 : Array Value) (W0 : World) (xv : Value) (bs : Nat) (x : Lx.Lexicon) (s : ByteArray) (l : List Lx.Form) (n : Int) (d : Array Bool) (t : Array Value) (wc : World) : Prop where
  bel : Below W0.heap.size W0 wc
  siz : t.size = 76
  kp : ∀ i, i ∉ ([3, 4, 21, 22, 23, 24, 25, 26, 27, 28, 29] : List Nat) → t[i]? = T0[i]?
  k1 : t[1]? = some (.pointer (some ⟨bs, 0, none⟩))
  p0 : dn d 0 → t[22]? = some (.pointer (some ⟨bs, 0, none⟩))
  p1 : dn d 1 → t[23]? = some (xv)
  p2 : dn d 2 → ∃ v, t[24]? = some v ∧ RdL wc wc.heap.size v x
  p3 : dn d 3 → t[25]? = some (.pointer (some ⟨bs, 3, none⟩))
  p4 : dn d 4 → t[26]? = some (.string s)
  p5 : dn d 5 → ∃ v, t[27]? = some v ∧ ∃ u, v = .tuple #[u, .int .i64 n] ∧ FormsIn W0 l wc u
  p6 : dn d 6 → ∃ v, t[21]? = some v ∧ ∃ u, v = .tuple #[u, .int .i64 n] ∧ FormsIn W0 l wc u
  p7 : dn d 7 → ∃ v, t[28]? = some v ∧ FormsIn W0 l wc v
  p8 : dn d 8 → t[29]? = some (.int .i64 n)
  p9 : dn d 9 → ∃ v, t[3]? = some v ∧ FormsIn W0 l wc v
  p10 : dn d 10 → t[4]? = some (.int .i64 n)
def WaI (T0 : Array Value) (W0 : World) (xv : Value) (bs : Nat) (x : Lx.Lexicon) (s : ByteArray) (l : List Lx.Form) (n : Int) (d : Array Bool) (a : Act) (wc : World) : Prop := ∃ t : Array Value, a = ⟨t, []⟩ ∧ WaR T0 W0 xv bs x s l n d t wc
structure WbR (T0 : Array Value) (W0 : World) (xv : Value) (bs : Nat) (x : Lx.Lexicon) (s : ByteArray) (f : Lx.Form) (n : Int) (d : Array Bool) (t : Array Value) (wc : World) : Prop where
  bel : Below W0.heap.size W0 wc
  siz : t.size = 76
  kp : ∀ i, i ∉ ([7, 8, 38, 39, 40, 41, 42, 43, 44, 45, 46] : List Nat) → t[i]? = T0[i]?
  k1 : t[1]? = some (.pointer (some ⟨bs, 0, none⟩))
  p0 : dn d 0 → t[39]? = some (.pointer (some ⟨bs, 0, none⟩))
  p1 : dn d 1 → t[40]? = some (xv)
  p3 : dn d 3 → t[42]? = some (.pointer (some ⟨bs, 3, none⟩))
  p4 : dn d 4 → t[43]? = some (.string s)
  p8 : dn d 8 → t[46]? = some (.int .i64 n)
  p11 : dn d 11 → t[8]? = some (.int .i64 n)
  k7 : ¬ dn d 9 → t[7]? = some undef
  p9 : dn d 9 → ∃ g, t[7]? = some (.pointer (some ⟨g, 0, none⟩)) ∧ W0.heap.size ≤ g ∧ g < wc.heap.size ∧ (¬ dn d 10 → wc.heap[g]? = some (.cells #[.int .i64 0, .int .i64 0, .slice none 0 0] 29 (0, 0)))
  p2 : dn d 2 → ¬ dn d 5 → ∃ v, t[41]? = some v ∧ RdL wc wc.heap.size v x
  p5 : dn d 5 → ∃ sx, t[44]? = some (.tuple #[.agg #[.int .i64 f.entry, .int .i64 f.ending, sx], .int .i64 n]) ∧ (dn d 6 → t[38]? = some (.tuple #[.agg #[.int .i64 f.entry, .int .i64 f.ending, sx], .int .i64 n])) ∧ (dn d 7 → t[45]? = some (.agg #[.int .i64 f.entry, .int .i64 f.ending, sx])) ∧ RdX wc (fun b => b < wc.heap.size ∧ W0.heap.size ≤ b ∧ t[7]? ≠ some (.pointer (some ⟨b, 0, none⟩))) 1 encInt sx f.clitics
  p10 : dn d 10 → ∃ g sx, t[7]? = some (.pointer (some ⟨g, 0, none⟩)) ∧ W0.heap.size ≤ g ∧ wc.heap[g]? = some (.cells #[.int .i64 f.entry, .int .i64 f.ending, sx] 29 (0, 0)) ∧ g < wc.heap.size ∧ RdX wc (fun b => b < wc.heap.size ∧ W0.heap.size ≤ b) 1 encInt sx f.clitics
  l7 : dn d 7 → dn d 6
  l6 : dn d 6 → dn d 5
  l10 : dn d 10 → dn d 9 ∧ dn d 7
def WbI (T0 : Array Value) (W0 : World) (xv : Value) (bs : Nat) (x : Lx.Lexicon) (s : ByteArray) (f : Lx.Form) (n : Int) (d : Array Bool) (a : Act) (wc : World) : Prop := ∃ t : Array Value, a = ⟨t, []⟩ ∧ WbR T0 W0 xv bs x s f n d t wc

set_option maxRecDepth 100000 in
set_option maxHeartbeats 8000000 in
theorem LexiconWith_any (vs : Value) (x : Lx.Lexicon) (s : ByteArray) (w : World) (hs : ∃ v0 v1 v2, vs = .agg #[v0, v1, v2, .string s] ∧ RdL w w.heap.size (.agg #[v0, v1, v2]) x) (hsz : s.size ≤ maxLen) :
    Calls Tryd.prog 8 #[vs] w (RetBB true w) := by
  obtain ⟨v0, v1, v2, rfl, hr⟩ := hs
  have HR := Lib.hid hr
  obtain ⟨⟨_, _, _, e, ⟨A0, c0, rfl, -⟩, ⟨A1, c1, rfl, -⟩, ⟨A2, c2, rfl, -⟩⟩, -, -, -⟩ := hr
  cases e
  have hs0 : s.size ≤ 9223372036854775807 := by simpa [maxLen] using hsz
  obtain ⟨wA, hwA⟩ : ∃ wA, wA = w.alloc (.cells #[.slice A0 x.entries.length c0, .slice A1 x.endings.length c1, .slice A2 x.clitics.length c2, .string s] 40) := ⟨_, rfl⟩
  have hba : Below w.heap.size w wA := by rw [hwA]; exact (Below.refl _ _).alloc (Nat.le_refl _) _
  have hsa : wA.heap.size = w.heap.size + 1 := by rw [hwA]; simp
  have hX : wA.heap[w.heap.size]? = some (.cells #[.slice A0 x.entries.length c0, .slice A1 x.endings.length c1, .slice A2 x.clitics.length c2, .string s] 40 (0, 0)) := by rw [hwA]; exact heap_alloc_new _ _
  have BXA : Hid (∀ W, Below wA.heap.size wA W → W.cell? ⟨w.heap.size, 0, none⟩ = some (.slice A0 x.entries.length c0) ∧ W.cell? ⟨w.heap.size, 1, none⟩ = some (.slice A1 x.endings.length c1) ∧ W.cell? ⟨w.heap.size, 2, none⟩ = some (.slice A2 x.clitics.length c2) ∧
      W.cell? ⟨w.heap.size, 3, none⟩ = some (.string s)) := Lib.hid fun W hW => by
    have a := (hW.block w.heap.size (by omega)).trans hX
    exact ⟨by simp [World.cell?, a], by simp [World.cell?, a], by simp [World.cell?, a], by simp [World.cell?, a]⟩
  have HBA := Lib.hid hba
  have HGL := Lib.hid (fun (W : World) (hW : Below wA.heap.size wA W) => rdl_keep' (hba.trans (hW.mono hba.size)) HR.out)
  have HBig := Lib.hid (fun (W : World) (hW : Below wA.heap.size wA W) => Big_any _ x W (HGL.out W hW))
  have HWA := Lib.hid hwA
  clear hba hX hsz
  go_enter Tryd.func8, Tryd.ntmps8
  go_wp2_with fail
  rw [← HWA.out]
  obtain ⟨g0, g1, g2, g3⟩ := BXA.out wA (Below.refl _ _)
  go_wp2_with fail
  refine (HBig.out wA (Below.refl _ _)).mono ?_
  rintro e1 w1 ⟨rfl, hb1⟩
  have H1 := Lib.hid hb1
  clear g0 g1 g2 g3
  obtain ⟨g0, g1, g2, g3⟩ := BXA.out w1 hb1
  clear hb1 hwA HWA
  cases hbig : Lx.bigV x
  · by_cases h100 : 100 < s.size
    · have h100I : (100 : Int) < (s.size : Int) := by omega
      clear hbig
      go_wp2_with (go_at_call 12; refine (works_any _).mono ?_; rintro e2 w2 ⟨rfl, hb2⟩)
      go_ret
      exact ⟨rfl, HBA.out.trans ((H1.out.trans (hb2.mono H1.out.size)).mono HBA.out.size)⟩
    · have h100I : ¬ (100 : Int) < (s.size : Int) := by omega
      have hsmall : x.entries.length ≤ 210 ∧ x.endings.length ≤ 50 ∧ x.clitics.length ≤ 15 := by
        simp [Lx.bigV] at hbig; omega
      obtain ⟨hs1, hs2, hs3⟩ := hsmall
      clear hbig
      have HCPY := Lib.hid (fun (W : World) (hW : Below wA.heap.size wA W) => rCopy_any _ x W (HGL.out W hW) (by omega) (by omega) (by omega))
      obtain ⟨lf, hlf⟩ : ∃ lf, lf = Lx.leastR x s := ⟨_, rfl⟩
      have HLF := Lib.hid hlf
      clear hlf
      go_wp2_with fail
      clear g0 g1 g2 g3
      refine wp_region_inv2T (fun T0 => WaI T0 w1 (.agg #[.slice A0 x.entries.length c0, .slice A1 x.endings.length c1, .slice A2 x.clitics.length c2]) w.heap.size x s (Lx.withR x s) (Lx.withN x s)) (by kernel_rfl) (by kernel_rfl) ?g0a ?gstepa ?genda
      case g0a =>
        have hno : ∀ j, ¬ dn (Array.replicate 11 false) j := by
          intro j; unfold dn; by_cases hj : j < 11 <;> simp [Array.getD, hj]
        exact ⟨_, rfl, { bel := (Below.refl _ _).drew, siz := rfl, kp := fun _ _ => rfl, k1 := rfl, p0 := fun hj => absurd hj (hno _), p1 := fun hj => absurd hj (hno _), p2 := fun hj => absurd hj (hno _), p3 := fun hj => absurd hj (hno _), p4 := fun hj => absurd hj (hno _), p5 := fun hj => absurd hj (hno _), p6 := fun hj => absurd hj (hno _), p7 := fun hj => absurd hj (hno _), p8 := fun hj => absurd hj (hno _), p9 := fun hj => absurd hj (hno _), p10 := fun hj => absurd hj (hno _) }⟩
      case gstepa =>
        intro T0 d a wc i hd hI hi
        obtain ⟨hlt, hnd, hpre⟩ := mem_ready hi
        have hd' : d.size = 11 := hd
        have hin : i < 11 := hlt
        clear hi hd hlt
        obtain ⟨t, rfl, h⟩ := hI
        have hcs : i = 0 ∨ i = 1 ∨ i = 2 ∨ i = 3 ∨ i = 4 ∨ i = 5 ∨ i = 6 ∨ i = 7 ∨ i = 8 ∨ i = 9 ∨ i = 10 := by omega
        rcases hcs with rfl | rfl | rfl | rfl | rfl | rfl | rfl | rfl | rfl | rfl | rfl
        · have hi : 0 < d.size := by omega
          have q1 := h.k1
          refine wpOp_plain rfl rfl ?_
          go_simp
          exact ⟨_, rfl, { bel := h.bel, siz := (by simpa using h.siz), kp := fun i hi' => (set_other (fun e => hi' (by subst e; decide))).trans (h.kp i hi'), k1 := (set_other (by decide)).trans h.k1, p0 := fun _ => set_same (by have := h.siz; omega), p1 := fun hj => (set_other (by decide)).trans (h.p1 (dn_of hi hj (by decide))), p2 := fun hj => (by obtain ⟨v, h1, h2⟩ := (h.p2 (dn_of hi hj (by decide))); exact ⟨v, (set_other (by decide)).trans h1, rdl_keep' (Below.refl _ _) h2⟩), p3 := fun hj => (set_other (by decide)).trans (h.p3 (dn_of hi hj (by decide))), p4 := fun hj => (set_other (by decide)).trans (h.p4 (dn_of hi hj (by decide))), p5 := fun hj => (by obtain ⟨v, h1, h2⟩ := (h.p5 (dn_of hi hj (by decide))); exact ⟨v, (set_other (by decide)).trans h1, (by obtain ⟨u, e, h3⟩ := h2; exact ⟨u, e, rdg_keep (Below.refl _ _) h3⟩)⟩), p6 := fun hj => (by obtain ⟨v, h1, h2⟩ := (h.p6 (dn_of hi hj (by decide))); exact ⟨v, (set_other (by decide)).trans h1, (by obtain ⟨u, e, h3⟩ := h2; exact ⟨u, e, rdg_keep (Below.refl _ _) h3⟩)⟩), p7 := fun hj => (by obtain ⟨v, h1, h2⟩ := (h.p7 (dn_of hi hj (by decide))); exact ⟨v, (set_other (by decide)).trans h1, rdg_keep (Below.refl _ _) h2⟩), p8 := fun hj => (set_other (by decide)).trans (h.p8 (dn_of hi hj (by decide))), p9 := fun hj => (by obtain ⟨v, h1, h2⟩ := (h.p9 (dn_of hi hj (by decide))); exact ⟨v, (set_other (by decide)).trans h1, rdg_keep (Below.refl _ _) h2⟩), p10 := fun hj => (set_other (by decide)).trans (h.p10 (dn_of hi hj (by decide))) }⟩
        · have hi : 1 < d.size := by omega
          have e0 := h.p0 (hpre _ rfl ⟨0, .data⟩ (by simp) rfl)
          obtain ⟨m0, m1, m2, m3⟩ := BXA.out wc (H1.out.trans (h.bel.mono H1.out.size))
          refine wpOp_plain rfl rfl ?_
          go_simp
          exact ⟨_, rfl, { bel := h.bel, siz := (by simpa using h.siz), kp := fun i hi' => (set_other (fun e => hi' (by subst e; decide))).trans (h.kp i hi'), k1 := (set_other (by decide)).trans h.k1, p0 := fun hj => (set_other (by decide)).trans (h.p0 (dn_of hi hj (by decide))), p1 := fun _ => set_same (by have := h.siz; omega), p2 := fun hj => (by obtain ⟨v, h1, h2⟩ := (h.p2 (dn_of hi hj (by decide))); exact ⟨v, (set_other (by decide)).trans h1, rdl_keep' (Below.refl _ _) h2⟩), p3 := fun hj => (set_other (by decide)).trans (h.p3 (dn_of hi hj (by decide))), p4 := fun hj => (set_other (by decide)).trans (h.p4 (dn_of hi hj (by decide))), p5 := fun hj => (by obtain ⟨v, h1, h2⟩ := (h.p5 (dn_of hi hj (by decide))); exact ⟨v, (set_other (by decide)).trans h1, (by obtain ⟨u, e, h3⟩ := h2; exact ⟨u, e, rdg_keep (Below.refl _ _) h3⟩)⟩), p6 := fun hj => (by obtain ⟨v, h1, h2⟩ := (h.p6 (dn_of hi hj (by decide))); exact ⟨v, (set_other (by decide)).trans h1, (by obtain ⟨u, e, h3⟩ := h2; exact ⟨u, e, rdg_keep (Below.refl _ _) h3⟩)⟩), p7 := fun hj => (by obtain ⟨v, h1, h2⟩ := (h.p7 (dn_of hi hj (by decide))); exact ⟨v, (set_other (by decide)).trans h1, rdg_keep (Below.refl _ _) h2⟩), p8 := fun hj => (set_other (by decide)).trans (h.p8 (dn_of hi hj (by decide))), p9 := fun hj => (by obtain ⟨v, h1, h2⟩ := (h.p9 (dn_of hi hj (by decide))); exact ⟨v, (set_other (by decide)).trans h1, rdg_keep (Below.refl _ _) h2⟩), p10 := fun hj => (set_other (by decide)).trans (h.p10 (dn_of hi hj (by decide))) }⟩
        · have hi : 2 < d.size := by omega
          have e1 := h.p1 (hpre _ rfl ⟨1, .data⟩ (by simp) rfl)
          refine wpOp_plain rfl rfl ?_
          go_simp
          refine (HCPY.out wc (H1.out.trans (h.bel.mono H1.out.size))).mono ?_
          rintro e1 w1 ⟨v1, rfl, hr1, hb⟩
          exact ⟨_, rfl, { bel := h.bel.trans (hb.mono h.bel.size), siz := (by simpa using h.siz), kp := fun i hi' => (set_other (fun e => hi' (by subst e; decide))).trans (h.kp i hi'), k1 := (set_other (by decide)).trans h.k1, p0 := fun hj => (set_other (by decide)).trans (h.p0 (dn_of hi hj (by decide))), p1 := fun hj => (set_other (by decide)).trans (h.p1 (dn_of hi hj (by decide))), p2 := fun _ => ⟨v1, set_same (by have := h.siz; omega), hr1⟩, p3 := fun hj => (set_other (by decide)).trans (h.p3 (dn_of hi hj (by decide))), p4 := fun hj => (set_other (by decide)).trans (h.p4 (dn_of hi hj (by decide))), p5 := fun hj => (by obtain ⟨v, h1, h2⟩ := (h.p5 (dn_of hi hj (by decide))); exact ⟨v, (set_other (by decide)).trans h1, (by obtain ⟨u, e, h3⟩ := h2; exact ⟨u, e, rdg_keep hb h3⟩)⟩), p6 := fun hj => (by obtain ⟨v, h1, h2⟩ := (h.p6 (dn_of hi hj (by decide))); exact ⟨v, (set_other (by decide)).trans h1, (by obtain ⟨u, e, h3⟩ := h2; exact ⟨u, e, rdg_keep hb h3⟩)⟩), p7 := fun hj => (by obtain ⟨v, h1, h2⟩ := (h.p7 (dn_of hi hj (by decide))); exact ⟨v, (set_other (by decide)).trans h1, rdg_keep hb h2⟩), p8 := fun hj => (set_other (by decide)).trans (h.p8 (dn_of hi hj (by decide))), p9 := fun hj => (by obtain ⟨v, h1, h2⟩ := (h.p9 (dn_of hi hj (by decide))); exact ⟨v, (set_other (by decide)).trans h1, rdg_keep hb h2⟩), p10 := fun hj => (set_other (by decide)).trans (h.p10 (dn_of hi hj (by decide))) }⟩
        · have hi : 3 < d.size := by omega
          have q1 := h.k1
          refine wpOp_plain rfl rfl ?_
          go_simp
          exact ⟨_, rfl, { bel := h.bel, siz := (by simpa using h.siz), kp := fun i hi' => (set_other (fun e => hi' (by subst e; decide))).trans (h.kp i hi'), k1 := (set_other (by decide)).trans h.k1, p0 := fun hj => (set_other (by decide)).trans (h.p0 (dn_of hi hj (by decide))), p1 := fun hj => (set_other (by decide)).trans (h.p1 (dn_of hi hj (by decide))), p2 := fun hj => (by obtain ⟨v, h1, h2⟩ := (h.p2 (dn_of hi hj (by decide))); exact ⟨v, (set_other (by decide)).trans h1, rdl_keep' (Below.refl _ _) h2⟩), p3 := fun _ => set_same (by have := h.siz; omega), p4 := fun hj => (set_other (by decide)).trans (h.p4 (dn_of hi hj (by decide))), p5 := fun hj => (by obtain ⟨v, h1, h2⟩ := (h.p5 (dn_of hi hj (by decide))); exact ⟨v, (set_other (by decide)).trans h1, (by obtain ⟨u, e, h3⟩ := h2; exact ⟨u, e, rdg_keep (Below.refl _ _) h3⟩)⟩), p6 := fun hj => (by obtain ⟨v, h1, h2⟩ := (h.p6 (dn_of hi hj (by decide))); exact ⟨v, (set_other (by decide)).trans h1, (by obtain ⟨u, e, h3⟩ := h2; exact ⟨u, e, rdg_keep (Below.refl _ _) h3⟩)⟩), p7 := fun hj => (by obtain ⟨v, h1, h2⟩ := (h.p7 (dn_of hi hj (by decide))); exact ⟨v, (set_other (by decide)).trans h1, rdg_keep (Below.refl _ _) h2⟩), p8 := fun hj => (set_other (by decide)).trans (h.p8 (dn_of hi hj (by decide))), p9 := fun hj => (by obtain ⟨v, h1, h2⟩ := (h.p9 (dn_of hi hj (by decide))); exact ⟨v, (set_other (by decide)).trans h1, rdg_keep (Below.refl _ _) h2⟩), p10 := fun hj => (set_other (by decide)).trans (h.p10 (dn_of hi hj (by decide))) }⟩
        · have hi : 4 < d.size := by omega
          have e3 := h.p3 (hpre _ rfl ⟨3, .data⟩ (by simp) rfl)
          obtain ⟨m0, m1, m2, m3⟩ := BXA.out wc (H1.out.trans (h.bel.mono H1.out.size))
          refine wpOp_plain rfl rfl ?_
          go_simp
          exact ⟨_, rfl, { bel := h.bel, siz := (by simpa using h.siz), kp := fun i hi' => (set_other (fun e => hi' (by subst e; decide))).trans (h.kp i hi'), k1 := (set_other (by decide)).trans h.k1, p0 := fun hj => (set_other (by decide)).trans (h.p0 (dn_of hi hj (by decide))), p1 := fun hj => (set_other (by decide)).trans (h.p1 (dn_of hi hj (by decide))), p2 := fun hj => (by obtain ⟨v, h1, h2⟩ := (h.p2 (dn_of hi hj (by decide))); exact ⟨v, (set_other (by decide)).trans h1, rdl_keep' (Below.refl _ _) h2⟩), p3 := fun hj => (set_other (by decide)).trans (h.p3 (dn_of hi hj (by decide))), p4 := fun _ => set_same (by have := h.siz; omega), p5 := fun hj => (by obtain ⟨v, h1, h2⟩ := (h.p5 (dn_of hi hj (by decide))); exact ⟨v, (set_other (by decide)).trans h1, (by obtain ⟨u, e, h3⟩ := h2; exact ⟨u, e, rdg_keep (Below.refl _ _) h3⟩)⟩), p6 := fun hj => (by obtain ⟨v, h1, h2⟩ := (h.p6 (dn_of hi hj (by decide))); exact ⟨v, (set_other (by decide)).trans h1, (by obtain ⟨u, e, h3⟩ := h2; exact ⟨u, e, rdg_keep (Below.refl _ _) h3⟩)⟩), p7 := fun hj => (by obtain ⟨v, h1, h2⟩ := (h.p7 (dn_of hi hj (by decide))); exact ⟨v, (set_other (by decide)).trans h1, rdg_keep (Below.refl _ _) h2⟩), p8 := fun hj => (set_other (by decide)).trans (h.p8 (dn_of hi hj (by decide))), p9 := fun hj => (by obtain ⟨v, h1, h2⟩ := (h.p9 (dn_of hi hj (by decide))); exact ⟨v, (set_other (by decide)).trans h1, rdg_keep (Below.refl _ _) h2⟩), p10 := fun hj => (set_other (by decide)).trans (h.p10 (dn_of hi hj (by decide))) }⟩
        · have hi : 5 < d.size := by omega
          obtain ⟨v2, e2, r2⟩ := h.p2 (hpre _ rfl ⟨2, .data⟩ (by simp) rfl)
          have e4 := h.p4 (hpre _ rfl ⟨4, .data⟩ (by simp) rfl)
          refine wpOp_plain rfl rfl ?_
          go_simp
          refine (With_any v2 x s wc r2 (by omega)).mono ?_
          rintro e1 w1 ⟨v1, rfl, hf1, hb⟩
          exact ⟨_, rfl, { bel := h.bel.trans (hb.mono h.bel.size), siz := (by simpa using h.siz), kp := fun i hi' => (set_other (fun e => hi' (by subst e; decide))).trans (h.kp i hi'), k1 := (set_other (by decide)).trans h.k1, p0 := fun hj => (set_other (by decide)).trans (h.p0 (dn_of hi hj (by decide))), p1 := fun hj => (set_other (by decide)).trans (h.p1 (dn_of hi hj (by decide))), p2 := fun hj => (by obtain ⟨v, h1, h2⟩ := (h.p2 (dn_of hi hj (by decide))); exact ⟨v, (set_other (by decide)).trans h1, rdl_keep' hb h2⟩), p3 := fun hj => (set_other (by decide)).trans (h.p3 (dn_of hi hj (by decide))), p4 := fun hj => (set_other (by decide)).trans (h.p4 (dn_of hi hj (by decide))), p5 := fun _ => ⟨_, set_same (by have := h.siz; omega), _, rfl, hf1.keep fun b hk => ⟨⟨hk.1, Nat.le_trans h.bel.size hk.2⟩, rfl⟩⟩, p6 := fun hj => (by obtain ⟨v, h1, h2⟩ := (h.p6 (dn_of hi hj (by decide))); exact ⟨v, (set_other (by decide)).trans h1, (by obtain ⟨u, e, h3⟩ := h2; exact ⟨u, e, rdg_keep hb h3⟩)⟩), p7 := fun hj => (by obtain ⟨v, h1, h2⟩ := (h.p7 (dn_of hi hj (by decide))); exact ⟨v, (set_other (by decide)).trans h1, rdg_keep hb h2⟩), p8 := fun hj => (set_other (by decide)).trans (h.p8 (dn_of hi hj (by decide))), p9 := fun hj => (by obtain ⟨v, h1, h2⟩ := (h.p9 (dn_of hi hj (by decide))); exact ⟨v, (set_other (by decide)).trans h1, rdg_keep hb h2⟩), p10 := fun hj => (set_other (by decide)).trans (h.p10 (dn_of hi hj (by decide))) }⟩
        · have hi : 6 < d.size := by omega
          obtain ⟨v5, e5, r5⟩ := h.p5 (hpre _ rfl ⟨5, .data⟩ (by simp) rfl)
          refine wpOp_plain rfl rfl ?_
          go_simp
          exact ⟨_, rfl, { bel := h.bel, siz := (by simpa using h.siz), kp := fun i hi' => (set_other (fun e => hi' (by subst e; decide))).trans (h.kp i hi'), k1 := (set_other (by decide)).trans h.k1, p0 := fun hj => (set_other (by decide)).trans (h.p0 (dn_of hi hj (by decide))), p1 := fun hj => (set_other (by decide)).trans (h.p1 (dn_of hi hj (by decide))), p2 := fun hj => (by obtain ⟨v, h1, h2⟩ := (h.p2 (dn_of hi hj (by decide))); exact ⟨v, (set_other (by decide)).trans h1, rdl_keep' (Below.refl _ _) h2⟩), p3 := fun hj => (set_other (by decide)).trans (h.p3 (dn_of hi hj (by decide))), p4 := fun hj => (set_other (by decide)).trans (h.p4 (dn_of hi hj (by decide))), p5 := fun hj => (by obtain ⟨v, h1, h2⟩ := (h.p5 (dn_of hi hj (by decide))); exact ⟨v, (set_other (by decide)).trans h1, (by obtain ⟨u, e, h3⟩ := h2; exact ⟨u, e, rdg_keep (Below.refl _ _) h3⟩)⟩), p6 := fun _ => ⟨v5, set_same (by have := h.siz; omega), r5⟩, p7 := fun hj => (by obtain ⟨v, h1, h2⟩ := (h.p7 (dn_of hi hj (by decide))); exact ⟨v, (set_other (by decide)).trans h1, rdg_keep (Below.refl _ _) h2⟩), p8 := fun hj => (set_other (by decide)).trans (h.p8 (dn_of hi hj (by decide))), p9 := fun hj => (by obtain ⟨v, h1, h2⟩ := (h.p9 (dn_of hi hj (by decide))); exact ⟨v, (set_other (by decide)).trans h1, rdg_keep (Below.refl _ _) h2⟩), p10 := fun hj => (set_other (by decide)).trans (h.p10 (dn_of hi hj (by decide))) }⟩
        · have hi : 7 < d.size := by omega
          obtain ⟨v6, e6, r6⟩ := h.p6 (hpre _ rfl ⟨6, .data⟩ (by simp) rfl)
          obtain ⟨u, rfl, hu⟩ := r6
          refine wpOp_plain rfl rfl ?_
          go_simp
          exact ⟨_, rfl, { bel := h.bel, siz := (by simpa using h.siz), kp := fun i hi' => (set_other (fun e => hi' (by subst e; decide))).trans (h.kp i hi'), k1 := (set_other (by decide)).trans h.k1, p0 := fun hj => (set_other (by decide)).trans (h.p0 (dn_of hi hj (by decide))), p1 := fun hj => (set_other (by decide)).trans (h.p1 (dn_of hi hj (by decide))), p2 := fun hj => (by obtain ⟨v, h1, h2⟩ := (h.p2 (dn_of hi hj (by decide))); exact ⟨v, (set_other (by decide)).trans h1, rdl_keep' (Below.refl _ _) h2⟩), p3 := fun hj => (set_other (by decide)).trans (h.p3 (dn_of hi hj (by decide))), p4 := fun hj => (set_other (by decide)).trans (h.p4 (dn_of hi hj (by decide))), p5 := fun hj => (by obtain ⟨v, h1, h2⟩ := (h.p5 (dn_of hi hj (by decide))); exact ⟨v, (set_other (by decide)).trans h1, (by obtain ⟨u, e, h3⟩ := h2; exact ⟨u, e, rdg_keep (Below.refl _ _) h3⟩)⟩), p6 := fun hj => (by obtain ⟨v, h1, h2⟩ := (h.p6 (dn_of hi hj (by decide))); exact ⟨v, (set_other (by decide)).trans h1, (by obtain ⟨u, e, h3⟩ := h2; exact ⟨u, e, rdg_keep (Below.refl _ _) h3⟩)⟩), p7 := fun _ => ⟨u, set_same (by have := h.siz; omega), hu⟩, p8 := fun hj => (set_other (by decide)).trans (h.p8 (dn_of hi hj (by decide))), p9 := fun hj => (by obtain ⟨v, h1, h2⟩ := (h.p9 (dn_of hi hj (by decide))); exact ⟨v, (set_other (by decide)).trans h1, rdg_keep (Below.refl _ _) h2⟩), p10 := fun hj => (set_other (by decide)).trans (h.p10 (dn_of hi hj (by decide))) }⟩
        · have hi : 8 < d.size := by omega
          obtain ⟨v6, e6, r6⟩ := h.p6 (hpre _ rfl ⟨6, .data⟩ (by simp) rfl)
          obtain ⟨u, rfl, hu⟩ := r6
          refine wpOp_plain rfl rfl ?_
          go_simp
          exact ⟨_, rfl, { bel := h.bel, siz := (by simpa using h.siz), kp := fun i hi' => (set_other (fun e => hi' (by subst e; decide))).trans (h.kp i hi'), k1 := (set_other (by decide)).trans h.k1, p0 := fun hj => (set_other (by decide)).trans (h.p0 (dn_of hi hj (by decide))), p1 := fun hj => (set_other (by decide)).trans (h.p1 (dn_of hi hj (by decide))), p2 := fun hj => (by obtain ⟨v, h1, h2⟩ := (h.p2 (dn_of hi hj (by decide))); exact ⟨v, (set_other (by decide)).trans h1, rdl_keep' (Below.refl _ _) h2⟩), p3 := fun hj => (set_other (by decide)).trans (h.p3 (dn_of hi hj (by decide))), p4 := fun hj => (set_other (by decide)).trans (h.p4 (dn_of hi hj (by decide))), p5 := fun hj => (by obtain ⟨v, h1, h2⟩ := (h.p5 (dn_of hi hj (by decide))); exact ⟨v, (set_other (by decide)).trans h1, (by obtain ⟨u, e, h3⟩ := h2; exact ⟨u, e, rdg_keep (Below.refl _ _) h3⟩)⟩), p6 := fun hj => (by obtain ⟨v, h1, h2⟩ := (h.p6 (dn_of hi hj (by decide))); exact ⟨v, (set_other (by decide)).trans h1, (by obtain ⟨u, e, h3⟩ := h2; exact ⟨u, e, rdg_keep (Below.refl _ _) h3⟩)⟩), p7 := fun hj => (by obtain ⟨v, h1, h2⟩ := (h.p7 (dn_of hi hj (by decide))); exact ⟨v, (set_other (by decide)).trans h1, rdg_keep (Below.refl _ _) h2⟩), p8 := fun _ => set_same (by have := h.siz; omega), p9 := fun hj => (by obtain ⟨v, h1, h2⟩ := (h.p9 (dn_of hi hj (by decide))); exact ⟨v, (set_other (by decide)).trans h1, rdg_keep (Below.refl _ _) h2⟩), p10 := fun hj => (set_other (by decide)).trans (h.p10 (dn_of hi hj (by decide))) }⟩
        · have hi : 9 < d.size := by omega
          obtain ⟨v7, e7, r7⟩ := h.p7 (hpre _ rfl ⟨7, .data⟩ (by simp) rfl)
          refine wpOp_plain rfl rfl ?_
          go_simp
          exact ⟨_, rfl, { bel := h.bel, siz := (by simpa using h.siz), kp := fun i hi' => (set_other (fun e => hi' (by subst e; decide))).trans (h.kp i hi'), k1 := (set_other (by decide)).trans h.k1, p0 := fun hj => (set_other (by decide)).trans (h.p0 (dn_of hi hj (by decide))), p1 := fun hj => (set_other (by decide)).trans (h.p1 (dn_of hi hj (by decide))), p2 := fun hj => (by obtain ⟨v, h1, h2⟩ := (h.p2 (dn_of hi hj (by decide))); exact ⟨v, (set_other (by decide)).trans h1, rdl_keep' (Below.refl _ _) h2⟩), p3 := fun hj => (set_other (by decide)).trans (h.p3 (dn_of hi hj (by decide))), p4 := fun hj => (set_other (by decide)).trans (h.p4 (dn_of hi hj (by decide))), p5 := fun hj => (by obtain ⟨v, h1, h2⟩ := (h.p5 (dn_of hi hj (by decide))); exact ⟨v, (set_other (by decide)).trans h1, (by obtain ⟨u, e, h3⟩ := h2; exact ⟨u, e, rdg_keep (Below.refl _ _) h3⟩)⟩), p6 := fun hj => (by obtain ⟨v, h1, h2⟩ := (h.p6 (dn_of hi hj (by decide))); exact ⟨v, (set_other (by decide)).trans h1, (by obtain ⟨u, e, h3⟩ := h2; exact ⟨u, e, rdg_keep (Below.refl _ _) h3⟩)⟩), p7 := fun hj => (by obtain ⟨v, h1, h2⟩ := (h.p7 (dn_of hi hj (by decide))); exact ⟨v, (set_other (by decide)).trans h1, rdg_keep (Below.refl _ _) h2⟩), p8 := fun hj => (set_other (by decide)).trans (h.p8 (dn_of hi hj (by decide))), p9 := fun _ => ⟨v7, set_same (by have := h.siz; omega), r7⟩, p10 := fun hj => (set_other (by decide)).trans (h.p10 (dn_of hi hj (by decide))) }⟩
        · have hi : 10 < d.size := by omega
          have e8 := h.p8 (hpre _ rfl ⟨8, .data⟩ (by simp) rfl)
          refine wpOp_plain rfl rfl ?_
          go_simp
          exact ⟨_, rfl, { bel := h.bel, siz := (by simpa using h.siz), kp := fun i hi' => (set_other (fun e => hi' (by subst e; decide))).trans (h.kp i hi'), k1 := (set_other (by decide)).trans h.k1, p0 := fun hj => (set_other (by decide)).trans (h.p0 (dn_of hi hj (by decide))), p1 := fun hj => (set_other (by decide)).trans (h.p1 (dn_of hi hj (by decide))), p2 := fun hj => (by obtain ⟨v, h1, h2⟩ := (h.p2 (dn_of hi hj (by decide))); exact ⟨v, (set_other (by decide)).trans h1, rdl_keep' (Below.refl _ _) h2⟩), p3 := fun hj => (set_other (by decide)).trans (h.p3 (dn_of hi hj (by decide))), p4 := fun hj => (set_other (by decide)).trans (h.p4 (dn_of hi hj (by decide))), p5 := fun hj => (by obtain ⟨v, h1, h2⟩ := (h.p5 (dn_of hi hj (by decide))); exact ⟨v, (set_other (by decide)).trans h1, (by obtain ⟨u, e, h3⟩ := h2; exact ⟨u, e, rdg_keep (Below.refl _ _) h3⟩)⟩), p6 := fun hj => (by obtain ⟨v, h1, h2⟩ := (h.p6 (dn_of hi hj (by decide))); exact ⟨v, (set_other (by decide)).trans h1, (by obtain ⟨u, e, h3⟩ := h2; exact ⟨u, e, rdg_keep (Below.refl _ _) h3⟩)⟩), p7 := fun hj => (by obtain ⟨v, h1, h2⟩ := (h.p7 (dn_of hi hj (by decide))); exact ⟨v, (set_other (by decide)).trans h1, rdg_keep (Below.refl _ _) h2⟩), p8 := fun hj => (set_other (by decide)).trans (h.p8 (dn_of hi hj (by decide))), p9 := fun hj => (by obtain ⟨v, h1, h2⟩ := (h.p9 (dn_of hi hj (by decide))); exact ⟨v, (set_other (by decide)).trans h1, rdg_keep (Below.refl _ _) h2⟩), p10 := fun _ => set_same (by have := h.siz; omega) }⟩
      case genda =>
        intro d a wc hd hI hall
        obtain ⟨t, rfl, h⟩ := hI
        have hdn : ∀ j, j < 11 → dn d j := fun j hj => dn_all hd hall hj
        have hl : t.toList.length = 76 := h.siz
        obtain ⟨l⟩ := t
        simp only [] at hl
        obtain ⟨t0, l, rfl⟩ := List.exists_cons_of_length_eq_add_one (n := 75) hl; replace hl : l.length = 75 := (by simpa using hl)
        obtain ⟨t1, l, rfl⟩ := List.exists_cons_of_length_eq_add_one (n := 74) hl; replace hl : l.length = 74 := (by simpa using hl)
        obtain ⟨t2, l, rfl⟩ := List.exists_cons_of_length_eq_add_one (n := 73) hl; replace hl : l.length = 73 := (by simpa using hl)
        obtain ⟨t3, l, rfl⟩ := List.exists_cons_of_length_eq_add_one (n := 72) hl; replace hl : l.length = 72 := (by simpa using hl)
        obtain ⟨t4, l, rfl⟩ := List.exists_cons_of_length_eq_add_one (n := 71) hl; replace hl : l.length = 71 := (by simpa using hl)
        obtain ⟨t5, l, rfl⟩ := List.exists_cons_of_length_eq_add_one (n := 70) hl; replace hl : l.length = 70 := (by simpa using hl)
        obtain ⟨t6, l, rfl⟩ := List.exists_cons_of_length_eq_add_one (n := 69) hl; replace hl : l.length = 69 := (by simpa using hl)
        obtain ⟨t7, l, rfl⟩ := List.exists_cons_of_length_eq_add_one (n := 68) hl; replace hl : l.length = 68 := (by simpa using hl)
        obtain ⟨t8, l, rfl⟩ := List.exists_cons_of_length_eq_add_one (n := 67) hl; replace hl : l.length = 67 := (by simpa using hl)
        obtain ⟨t9, l, rfl⟩ := List.exists_cons_of_length_eq_add_one (n := 66) hl; replace hl : l.length = 66 := (by simpa using hl)
        obtain ⟨t10, l, rfl⟩ := List.exists_cons_of_length_eq_add_one (n := 65) hl; replace hl : l.length = 65 := (by simpa using hl)
        obtain ⟨t11, l, rfl⟩ := List.exists_cons_of_length_eq_add_one (n := 64) hl; replace hl : l.length = 64 := (by simpa using hl)
        obtain ⟨t12, l, rfl⟩ := List.exists_cons_of_length_eq_add_one (n := 63) hl; replace hl : l.length = 63 := (by simpa using hl)
        obtain ⟨t13, l, rfl⟩ := List.exists_cons_of_length_eq_add_one (n := 62) hl; replace hl : l.length = 62 := (by simpa using hl)
        obtain ⟨t14, l, rfl⟩ := List.exists_cons_of_length_eq_add_one (n := 61) hl; replace hl : l.length = 61 := (by simpa using hl)
        obtain ⟨t15, l, rfl⟩ := List.exists_cons_of_length_eq_add_one (n := 60) hl; replace hl : l.length = 60 := (by simpa using hl)
        obtain ⟨t16, l, rfl⟩ := List.exists_cons_of_length_eq_add_one (n := 59) hl; replace hl : l.length = 59 := (by simpa using hl)
        obtain ⟨t17, l, rfl⟩ := List.exists_cons_of_length_eq_add_one (n := 58) hl; replace hl : l.length = 58 := (by simpa using hl)
        obtain ⟨t18, l, rfl⟩ := List.exists_cons_of_length_eq_add_one (n := 57) hl; replace hl : l.length = 57 := (by simpa using hl)
        obtain ⟨t19, l, rfl⟩ := List.exists_cons_of_length_eq_add_one (n := 56) hl; replace hl : l.length = 56 := (by simpa using hl)
        obtain ⟨t20, l, rfl⟩ := List.exists_cons_of_length_eq_add_one (n := 55) hl; replace hl : l.length = 55 := (by simpa using hl)
        obtain ⟨t21, l, rfl⟩ := List.exists_cons_of_length_eq_add_one (n := 54) hl; replace hl : l.length = 54 := (by simpa using hl)
        obtain ⟨t22, l, rfl⟩ := List.exists_cons_of_length_eq_add_one (n := 53) hl; replace hl : l.length = 53 := (by simpa using hl)
        obtain ⟨t23, l, rfl⟩ := List.exists_cons_of_length_eq_add_one (n := 52) hl; replace hl : l.length = 52 := (by simpa using hl)
        obtain ⟨t24, l, rfl⟩ := List.exists_cons_of_length_eq_add_one (n := 51) hl; replace hl : l.length = 51 := (by simpa using hl)
        obtain ⟨t25, l, rfl⟩ := List.exists_cons_of_length_eq_add_one (n := 50) hl; replace hl : l.length = 50 := (by simpa using hl)
        obtain ⟨t26, l, rfl⟩ := List.exists_cons_of_length_eq_add_one (n := 49) hl; replace hl : l.length = 49 := (by simpa using hl)
        obtain ⟨t27, l, rfl⟩ := List.exists_cons_of_length_eq_add_one (n := 48) hl; replace hl : l.length = 48 := (by simpa using hl)
        obtain ⟨t28, l, rfl⟩ := List.exists_cons_of_length_eq_add_one (n := 47) hl; replace hl : l.length = 47 := (by simpa using hl)
        obtain ⟨t29, l, rfl⟩ := List.exists_cons_of_length_eq_add_one (n := 46) hl; replace hl : l.length = 46 := (by simpa using hl)
        obtain ⟨t30, l, rfl⟩ := List.exists_cons_of_length_eq_add_one (n := 45) hl; replace hl : l.length = 45 := (by simpa using hl)
        obtain ⟨t31, l, rfl⟩ := List.exists_cons_of_length_eq_add_one (n := 44) hl; replace hl : l.length = 44 := (by simpa using hl)
        obtain ⟨t32, l, rfl⟩ := List.exists_cons_of_length_eq_add_one (n := 43) hl; replace hl : l.length = 43 := (by simpa using hl)
        obtain ⟨t33, l, rfl⟩ := List.exists_cons_of_length_eq_add_one (n := 42) hl; replace hl : l.length = 42 := (by simpa using hl)
        obtain ⟨t34, l, rfl⟩ := List.exists_cons_of_length_eq_add_one (n := 41) hl; replace hl : l.length = 41 := (by simpa using hl)
        obtain ⟨t35, l, rfl⟩ := List.exists_cons_of_length_eq_add_one (n := 40) hl; replace hl : l.length = 40 := (by simpa using hl)
        obtain ⟨t36, l, rfl⟩ := List.exists_cons_of_length_eq_add_one (n := 39) hl; replace hl : l.length = 39 := (by simpa using hl)
        obtain ⟨t37, l, rfl⟩ := List.exists_cons_of_length_eq_add_one (n := 38) hl; replace hl : l.length = 38 := (by simpa using hl)
        obtain ⟨t38, l, rfl⟩ := List.exists_cons_of_length_eq_add_one (n := 37) hl; replace hl : l.length = 37 := (by simpa using hl)
        obtain ⟨t39, l, rfl⟩ := List.exists_cons_of_length_eq_add_one (n := 36) hl; replace hl : l.length = 36 := (by simpa using hl)
        obtain ⟨t40, l, rfl⟩ := List.exists_cons_of_length_eq_add_one (n := 35) hl; replace hl : l.length = 35 := (by simpa using hl)
        obtain ⟨t41, l, rfl⟩ := List.exists_cons_of_length_eq_add_one (n := 34) hl; replace hl : l.length = 34 := (by simpa using hl)
        obtain ⟨t42, l, rfl⟩ := List.exists_cons_of_length_eq_add_one (n := 33) hl; replace hl : l.length = 33 := (by simpa using hl)
        obtain ⟨t43, l, rfl⟩ := List.exists_cons_of_length_eq_add_one (n := 32) hl; replace hl : l.length = 32 := (by simpa using hl)
        obtain ⟨t44, l, rfl⟩ := List.exists_cons_of_length_eq_add_one (n := 31) hl; replace hl : l.length = 31 := (by simpa using hl)
        obtain ⟨t45, l, rfl⟩ := List.exists_cons_of_length_eq_add_one (n := 30) hl; replace hl : l.length = 30 := (by simpa using hl)
        obtain ⟨t46, l, rfl⟩ := List.exists_cons_of_length_eq_add_one (n := 29) hl; replace hl : l.length = 29 := (by simpa using hl)
        obtain ⟨t47, l, rfl⟩ := List.exists_cons_of_length_eq_add_one (n := 28) hl; replace hl : l.length = 28 := (by simpa using hl)
        obtain ⟨t48, l, rfl⟩ := List.exists_cons_of_length_eq_add_one (n := 27) hl; replace hl : l.length = 27 := (by simpa using hl)
        obtain ⟨t49, l, rfl⟩ := List.exists_cons_of_length_eq_add_one (n := 26) hl; replace hl : l.length = 26 := (by simpa using hl)
        obtain ⟨t50, l, rfl⟩ := List.exists_cons_of_length_eq_add_one (n := 25) hl; replace hl : l.length = 25 := (by simpa using hl)
        obtain ⟨t51, l, rfl⟩ := List.exists_cons_of_length_eq_add_one (n := 24) hl; replace hl : l.length = 24 := (by simpa using hl)
        obtain ⟨t52, l, rfl⟩ := List.exists_cons_of_length_eq_add_one (n := 23) hl; replace hl : l.length = 23 := (by simpa using hl)
        obtain ⟨t53, l, rfl⟩ := List.exists_cons_of_length_eq_add_one (n := 22) hl; replace hl : l.length = 22 := (by simpa using hl)
        obtain ⟨t54, l, rfl⟩ := List.exists_cons_of_length_eq_add_one (n := 21) hl; replace hl : l.length = 21 := (by simpa using hl)
        obtain ⟨t55, l, rfl⟩ := List.exists_cons_of_length_eq_add_one (n := 20) hl; replace hl : l.length = 20 := (by simpa using hl)
        obtain ⟨t56, l, rfl⟩ := List.exists_cons_of_length_eq_add_one (n := 19) hl; replace hl : l.length = 19 := (by simpa using hl)
        obtain ⟨t57, l, rfl⟩ := List.exists_cons_of_length_eq_add_one (n := 18) hl; replace hl : l.length = 18 := (by simpa using hl)
        obtain ⟨t58, l, rfl⟩ := List.exists_cons_of_length_eq_add_one (n := 17) hl; replace hl : l.length = 17 := (by simpa using hl)
        obtain ⟨t59, l, rfl⟩ := List.exists_cons_of_length_eq_add_one (n := 16) hl; replace hl : l.length = 16 := (by simpa using hl)
        obtain ⟨t60, l, rfl⟩ := List.exists_cons_of_length_eq_add_one (n := 15) hl; replace hl : l.length = 15 := (by simpa using hl)
        obtain ⟨t61, l, rfl⟩ := List.exists_cons_of_length_eq_add_one (n := 14) hl; replace hl : l.length = 14 := (by simpa using hl)
        obtain ⟨t62, l, rfl⟩ := List.exists_cons_of_length_eq_add_one (n := 13) hl; replace hl : l.length = 13 := (by simpa using hl)
        obtain ⟨t63, l, rfl⟩ := List.exists_cons_of_length_eq_add_one (n := 12) hl; replace hl : l.length = 12 := (by simpa using hl)
        obtain ⟨t64, l, rfl⟩ := List.exists_cons_of_length_eq_add_one (n := 11) hl; replace hl : l.length = 11 := (by simpa using hl)
        obtain ⟨t65, l, rfl⟩ := List.exists_cons_of_length_eq_add_one (n := 10) hl; replace hl : l.length = 10 := (by simpa using hl)
        obtain ⟨t66, l, rfl⟩ := List.exists_cons_of_length_eq_add_one (n := 9) hl; replace hl : l.length = 9 := (by simpa using hl)
        obtain ⟨t67, l, rfl⟩ := List.exists_cons_of_length_eq_add_one (n := 8) hl; replace hl : l.length = 8 := (by simpa using hl)
        obtain ⟨t68, l, rfl⟩ := List.exists_cons_of_length_eq_add_one (n := 7) hl; replace hl : l.length = 7 := (by simpa using hl)
        obtain ⟨t69, l, rfl⟩ := List.exists_cons_of_length_eq_add_one (n := 6) hl; replace hl : l.length = 6 := (by simpa using hl)
        obtain ⟨t70, l, rfl⟩ := List.exists_cons_of_length_eq_add_one (n := 5) hl; replace hl : l.length = 5 := (by simpa using hl)
        obtain ⟨t71, l, rfl⟩ := List.exists_cons_of_length_eq_add_one (n := 4) hl; replace hl : l.length = 4 := (by simpa using hl)
        obtain ⟨t72, l, rfl⟩ := List.exists_cons_of_length_eq_add_one (n := 3) hl; replace hl : l.length = 3 := (by simpa using hl)
        obtain ⟨t73, l, rfl⟩ := List.exists_cons_of_length_eq_add_one (n := 2) hl; replace hl : l.length = 2 := (by simpa using hl)
        obtain ⟨t74, l, rfl⟩ := List.exists_cons_of_length_eq_add_one (n := 1) hl; replace hl : l.length = 1 := (by simpa using hl)
        obtain ⟨t75, l, rfl⟩ := List.exists_cons_of_length_eq_add_one (n := 0) hl; replace hl : l.length = 0 := (by simpa using hl)
        obtain rfl := List.eq_nil_of_length_eq_zero hl
        clear hl
        have e := h.kp 0 (by decide); simp only [List.getElem?_toArray, List.getElem?_cons_zero, Option.some.injEq] at e; subst e
        have e := h.kp 1 (by decide); simp only [List.getElem?_toArray, List.getElem?_cons_succ, List.getElem?_cons_zero, Option.some.injEq] at e; subst e
        have e := h.kp 2 (by decide); simp only [List.getElem?_toArray, List.getElem?_cons_succ, List.getElem?_cons_zero, Option.some.injEq] at e; subst e
        have e := h.kp 5 (by decide); simp only [List.getElem?_toArray, List.getElem?_cons_succ, List.getElem?_cons_zero, Option.some.injEq] at e; subst e
        have e := h.kp 6 (by decide); simp only [List.getElem?_toArray, List.getElem?_cons_succ, List.getElem?_cons_zero, Option.some.injEq] at e; subst e
        have e := h.kp 7 (by decide); simp only [List.getElem?_toArray, List.getElem?_cons_succ, List.getElem?_cons_zero, Option.some.injEq] at e; subst e
        have e := h.kp 8 (by decide); simp only [List.getElem?_toArray, List.getElem?_cons_succ, List.getElem?_cons_zero, Option.some.injEq] at e; subst e
        have e := h.kp 9 (by decide); simp only [List.getElem?_toArray, List.getElem?_cons_succ, List.getElem?_cons_zero, Option.some.injEq] at e; subst e
        have e := h.kp 10 (by decide); simp only [List.getElem?_toArray, List.getElem?_cons_succ, List.getElem?_cons_zero, Option.some.injEq] at e; subst e
        have e := h.kp 11 (by decide); simp only [List.getElem?_toArray, List.getElem?_cons_succ, List.getElem?_cons_zero, Option.some.injEq] at e; subst e
        have e := h.kp 12 (by decide); simp only [List.getElem?_toArray, List.getElem?_cons_succ, List.getElem?_cons_zero, Option.some.injEq] at e; subst e
        have e := h.kp 13 (by decide); simp only [List.getElem?_toArray, List.getElem?_cons_succ, List.getElem?_cons_zero, Option.some.injEq] at e; subst e
        have e := h.kp 14 (by decide); simp only [List.getElem?_toArray, List.getElem?_cons_succ, List.getElem?_cons_zero, Option.some.injEq] at e; subst e
        have e := h.kp 15 (by decide); simp only [List.getElem?_toArray, List.getElem?_cons_succ, List.getElem?_cons_zero, Option.some.injEq] at e; subst e
        have e := h.kp 16 (by decide); simp only [List.getElem?_toArray, List.getElem?_cons_succ, List.getElem?_cons_zero, Option.some.injEq] at e; subst e
        have e := h.kp 17 (by decide); simp only [List.getElem?_toArray, List.getElem?_cons_succ, List.getElem?_cons_zero, Option.some.injEq] at e; subst e
        have e := h.kp 18 (by decide); simp only [List.getElem?_toArray, List.getElem?_cons_succ, List.getElem?_cons_zero, Option.some.injEq] at e; subst e
        have e := h.kp 19 (by decide); simp only [List.getElem?_toArray, List.getElem?_cons_succ, List.getElem?_cons_zero, Option.some.injEq] at e; subst e
        have e := h.kp 20 (by decide); simp only [List.getElem?_toArray, List.getElem?_cons_succ, List.getElem?_cons_zero, Option.some.injEq] at e; subst e
        have e := h.kp 30 (by decide); simp only [List.getElem?_toArray, List.getElem?_cons_succ, List.getElem?_cons_zero, Option.some.injEq] at e; subst e
        have e := h.kp 31 (by decide); simp only [List.getElem?_toArray, List.getElem?_cons_succ, List.getElem?_cons_zero, Option.some.injEq] at e; subst e
        have e := h.kp 32 (by decide); simp only [List.getElem?_toArray, List.getElem?_cons_succ, List.getElem?_cons_zero, Option.some.injEq] at e; subst e
        have e := h.kp 33 (by decide); simp only [List.getElem?_toArray, List.getElem?_cons_succ, List.getElem?_cons_zero, Option.some.injEq] at e; subst e
        have e := h.kp 34 (by decide); simp only [List.getElem?_toArray, List.getElem?_cons_succ, List.getElem?_cons_zero, Option.some.injEq] at e; subst e
        have e := h.kp 35 (by decide); simp only [List.getElem?_toArray, List.getElem?_cons_succ, List.getElem?_cons_zero, Option.some.injEq] at e; subst e
        have e := h.kp 36 (by decide); simp only [List.getElem?_toArray, List.getElem?_cons_succ, List.getElem?_cons_zero, Option.some.injEq] at e; subst e
        have e := h.kp 37 (by decide); simp only [List.getElem?_toArray, List.getElem?_cons_succ, List.getElem?_cons_zero, Option.some.injEq] at e; subst e
        have e := h.kp 38 (by decide); simp only [List.getElem?_toArray, List.getElem?_cons_succ, List.getElem?_cons_zero, Option.some.injEq] at e; subst e
        have e := h.kp 39 (by decide); simp only [List.getElem?_toArray, List.getElem?_cons_succ, List.getElem?_cons_zero, Option.some.injEq] at e; subst e
        have e := h.kp 40 (by decide); simp only [List.getElem?_toArray, List.getElem?_cons_succ, List.getElem?_cons_zero, Option.some.injEq] at e; subst e
        have e := h.kp 41 (by decide); simp only [List.getElem?_toArray, List.getElem?_cons_succ, List.getElem?_cons_zero, Option.some.injEq] at e; subst e
        have e := h.kp 42 (by decide); simp only [List.getElem?_toArray, List.getElem?_cons_succ, List.getElem?_cons_zero, Option.some.injEq] at e; subst e
        have e := h.kp 43 (by decide); simp only [List.getElem?_toArray, List.getElem?_cons_succ, List.getElem?_cons_zero, Option.some.injEq] at e; subst e
        have e := h.kp 44 (by decide); simp only [List.getElem?_toArray, List.getElem?_cons_succ, List.getElem?_cons_zero, Option.some.injEq] at e; subst e
        have e := h.kp 45 (by decide); simp only [List.getElem?_toArray, List.getElem?_cons_succ, List.getElem?_cons_zero, Option.some.injEq] at e; subst e
        have e := h.kp 46 (by decide); simp only [List.getElem?_toArray, List.getElem?_cons_succ, List.getElem?_cons_zero, Option.some.injEq] at e; subst e
        have e := h.kp 47 (by decide); simp only [List.getElem?_toArray, List.getElem?_cons_succ, List.getElem?_cons_zero, Option.some.injEq] at e; subst e
        have e := h.kp 48 (by decide); simp only [List.getElem?_toArray, List.getElem?_cons_succ, List.getElem?_cons_zero, Option.some.injEq] at e; subst e
        have e := h.kp 49 (by decide); simp only [List.getElem?_toArray, List.getElem?_cons_succ, List.getElem?_cons_zero, Option.some.injEq] at e; subst e
        have e := h.kp 50 (by decide); simp only [List.getElem?_toArray, List.getElem?_cons_succ, List.getElem?_cons_zero, Option.some.injEq] at e; subst e
        have e := h.kp 51 (by decide); simp only [List.getElem?_toArray, List.getElem?_cons_succ, List.getElem?_cons_zero, Option.some.injEq] at e; subst e
        have e := h.kp 52 (by decide); simp only [List.getElem?_toArray, List.getElem?_cons_succ, List.getElem?_cons_zero, Option.some.injEq] at e; subst e
        have e := h.kp 53 (by decide); simp only [List.getElem?_toArray, List.getElem?_cons_succ, List.getElem?_cons_zero, Option.some.injEq] at e; subst e
        have e := h.kp 54 (by decide); simp only [List.getElem?_toArray, List.getElem?_cons_succ, List.getElem?_cons_zero, Option.some.injEq] at e; subst e
        have e := h.kp 55 (by decide); simp only [List.getElem?_toArray, List.getElem?_cons_succ, List.getElem?_cons_zero, Option.some.injEq] at e; subst e
        have e := h.kp 56 (by decide); simp only [List.getElem?_toArray, List.getElem?_cons_succ, List.getElem?_cons_zero, Option.some.injEq] at e; subst e
        have e := h.kp 57 (by decide); simp only [List.getElem?_toArray, List.getElem?_cons_succ, List.getElem?_cons_zero, Option.some.injEq] at e; subst e
        have e := h.kp 58 (by decide); simp only [List.getElem?_toArray, List.getElem?_cons_succ, List.getElem?_cons_zero, Option.some.injEq] at e; subst e
        have e := h.kp 59 (by decide); simp only [List.getElem?_toArray, List.getElem?_cons_succ, List.getElem?_cons_zero, Option.some.injEq] at e; subst e
        have e := h.kp 60 (by decide); simp only [List.getElem?_toArray, List.getElem?_cons_succ, List.getElem?_cons_zero, Option.some.injEq] at e; subst e
        have e := h.kp 61 (by decide); simp only [List.getElem?_toArray, List.getElem?_cons_succ, List.getElem?_cons_zero, Option.some.injEq] at e; subst e
        have e := h.kp 62 (by decide); simp only [List.getElem?_toArray, List.getElem?_cons_succ, List.getElem?_cons_zero, Option.some.injEq] at e; subst e
        have e := h.kp 63 (by decide); simp only [List.getElem?_toArray, List.getElem?_cons_succ, List.getElem?_cons_zero, Option.some.injEq] at e; subst e
        have e := h.kp 64 (by decide); simp only [List.getElem?_toArray, List.getElem?_cons_succ, List.getElem?_cons_zero, Option.some.injEq] at e; subst e
        have e := h.kp 65 (by decide); simp only [List.getElem?_toArray, List.getElem?_cons_succ, List.getElem?_cons_zero, Option.some.injEq] at e; subst e
        have e := h.kp 66 (by decide); simp only [List.getElem?_toArray, List.getElem?_cons_succ, List.getElem?_cons_zero, Option.some.injEq] at e; subst e
        have e := h.kp 67 (by decide); simp only [List.getElem?_toArray, List.getElem?_cons_succ, List.getElem?_cons_zero, Option.some.injEq] at e; subst e
        have e := h.kp 68 (by decide); simp only [List.getElem?_toArray, List.getElem?_cons_succ, List.getElem?_cons_zero, Option.some.injEq] at e; subst e
        have e := h.kp 69 (by decide); simp only [List.getElem?_toArray, List.getElem?_cons_succ, List.getElem?_cons_zero, Option.some.injEq] at e; subst e
        have e := h.kp 70 (by decide); simp only [List.getElem?_toArray, List.getElem?_cons_succ, List.getElem?_cons_zero, Option.some.injEq] at e; subst e
        have e := h.kp 71 (by decide); simp only [List.getElem?_toArray, List.getElem?_cons_succ, List.getElem?_cons_zero, Option.some.injEq] at e; subst e
        have e := h.kp 72 (by decide); simp only [List.getElem?_toArray, List.getElem?_cons_succ, List.getElem?_cons_zero, Option.some.injEq] at e; subst e
        have e := h.kp 73 (by decide); simp only [List.getElem?_toArray, List.getElem?_cons_succ, List.getElem?_cons_zero, Option.some.injEq] at e; subst e
        have e := h.kp 74 (by decide); simp only [List.getElem?_toArray, List.getElem?_cons_succ, List.getElem?_cons_zero, Option.some.injEq] at e; subst e
        have e := h.kp 75 (by decide); simp only [List.getElem?_toArray, List.getElem?_cons_succ, List.getElem?_cons_zero, Option.some.injEq] at e; subst e
        obtain ⟨v9, e9, r9⟩ := h.p9 (hdn 9 (by omega)); obtain rfl : t3 = v9 := by simpa using e9
        have e := h.p10 (hdn 10 (by omega)); simp only [List.getElem?_toArray, List.getElem?_cons_succ, List.getElem?_cons_zero, Option.some.injEq] at e; subst e
        obtain ⟨v6, e6, r6⟩ := h.p6 (hdn 6 (by omega)); obtain rfl : t21 = v6 := by simpa using e6
        have e := h.p0 (hdn 0 (by omega)); simp only [List.getElem?_toArray, List.getElem?_cons_succ, List.getElem?_cons_zero, Option.some.injEq] at e; subst e
        have e := h.p1 (hdn 1 (by omega)); simp only [List.getElem?_toArray, List.getElem?_cons_succ, List.getElem?_cons_zero, Option.some.injEq] at e; subst e
        obtain ⟨v2, e2, r2⟩ := h.p2 (hdn 2 (by omega)); obtain rfl : t24 = v2 := by simpa using e2
        have e := h.p3 (hdn 3 (by omega)); simp only [List.getElem?_toArray, List.getElem?_cons_succ, List.getElem?_cons_zero, Option.some.injEq] at e; subst e
        have e := h.p4 (hdn 4 (by omega)); simp only [List.getElem?_toArray, List.getElem?_cons_succ, List.getElem?_cons_zero, Option.some.injEq] at e; subst e
        obtain ⟨v5, e5, r5⟩ := h.p5 (hdn 5 (by omega)); obtain rfl : t27 = v5 := by simpa using e5
        obtain ⟨v7, e7, r7⟩ := h.p7 (hdn 7 (by omega)); obtain rfl : t28 = v7 := by simpa using e7
        have e := h.p8 (hdn 8 (by omega)); simp only [List.getElem?_toArray, List.getElem?_cons_succ, List.getElem?_cons_zero, Option.some.injEq] at e; subst e
        have hbc := h.bel
        clear h hdn hall
        have HEa := Lib.hid (H1.out.trans (hbc.mono H1.out.size))
        have HFa := Lib.hid r9
        clear hbc r2 r5 r6 r7 r9
        obtain ⟨Af, cf, rfl⟩ := RdG.form HFa.out
        obtain ⟨g0, g1, g2, g3⟩ := BXA.out wc HEa.out
        go_wp2_with fail
        refine (rWith_any _ x s wc (HGL.out wc HEa.out) (by omega)).mono ?_
        rintro e3 w3 ⟨v3, rfl, hf3, hb3⟩
        obtain ⟨Ag, cg, rfl⟩ := RdG.form hf3
        have H3 := Lib.hid (HEa.out.trans (hb3.mono HEa.out.size))
        have HF3 := Lib.hid hf3
        have HF3a := Lib.hid (rdg_keep hb3 HFa.out)
        clear hf3 hb3 g0 g1 g2 g3
        go_wp2_with fail
        refine wp_region_inv2T (fun T0 => WbI T0 w3 (.agg #[.slice A0 x.entries.length c0, .slice A1 x.endings.length c1, .slice A2 x.clitics.length c2]) w.heap.size x s lf (Lx.leastN x s)) (by kernel_rfl) (by kernel_rfl) ?g0b ?gstepb ?gendb
        case g0b =>
          have hno : ∀ j, ¬ dn (Array.replicate 12 false) j := by
            intro j; unfold dn; by_cases hj : j < 12 <;> simp [Array.getD, hj]
          exact ⟨_, rfl, { bel := (Below.refl _ _).drew, siz := rfl, kp := fun _ _ => rfl, k1 := rfl, p0 := fun hj => absurd hj (hno _), p1 := fun hj => absurd hj (hno _), p3 := fun hj => absurd hj (hno _), p4 := fun hj => absurd hj (hno _), p8 := fun hj => absurd hj (hno _), p11 := fun hj => absurd hj (hno _), k7 := fun _ => rfl, p9 := fun hj => absurd hj (hno _), p2 := fun hj => absurd hj (hno _), p5 := fun hj => absurd hj (hno _), p10 := fun hj => absurd hj (hno _), l7 := fun hj => absurd hj (hno _), l6 := fun hj => absurd hj (hno _), l10 := fun hj => absurd hj (hno _) }⟩
        case gstepb =>
          intro T0 d a wc i hd hI hi
          obtain ⟨hlt, hnd, hpre⟩ := mem_ready hi
          have hd' : d.size = 12 := hd
          have hin : i < 12 := hlt
          clear hi hd hlt
          obtain ⟨t, rfl, h⟩ := hI
          have hcs : i = 0 ∨ i = 1 ∨ i = 2 ∨ i = 3 ∨ i = 4 ∨ i = 5 ∨ i = 6 ∨ i = 7 ∨ i = 8 ∨ i = 9 ∨ i = 10 ∨ i = 11 := by omega
          rcases hcs with rfl | rfl | rfl | rfl | rfl | rfl | rfl | rfl | rfl | rfl | rfl | rfl
          · have hi : 0 < d.size := by omega
            have q1 := h.k1
            refine wpOp_plain rfl rfl ?_
            go_simp
            exact ⟨_, rfl, { bel := h.bel, siz := (by simpa using h.siz), kp := fun i hi' => (set_other (fun e => hi' (by subst e; decide))).trans (h.kp i hi'), k1 := (set_other (by decide)).trans h.k1, k7 := fun hk => (set_other (by decide)).trans (h.k7 (fun q => hk (dn_up q))), p9 := fun hj => by obtain ⟨g, e1, e2, e3, e4⟩ := h.p9 (dn_of hi hj (by decide)); exact ⟨g, (set_other (by decide)).trans e1, e2, e3, fun hk => e4 (fun q => hk (dn_up q))⟩, p2 := fun hj hk => by obtain ⟨v, h1, h2⟩ := h.p2 (dn_of hi hj (by decide)) (fun q => hk (dn_up q)); exact ⟨v, (set_other (by decide)).trans h1, h2⟩, p5 := fun hj => by obtain ⟨s1, e1, e2, e3, e4⟩ := h.p5 (dn_of hi hj (by decide)); exact ⟨s1, (set_other (by decide)).trans e1, fun h6 => (set_other (by decide)).trans (e2 (dn_of hi h6 (by decide))), fun h7 => (set_other (by decide)).trans (e3 (dn_of hi h7 (by decide))), e4.keep (fun b hb' => ⟨⟨hb'.1, hb'.2.1, by rw [set_other (by decide)]; exact hb'.2.2⟩, rfl⟩)⟩, p10 := fun hj => by obtain ⟨g, s1, e1, e2, e3, e4, e5⟩ := h.p10 (dn_of hi hj (by decide)); exact ⟨g, s1, (set_other (by decide)).trans e1, e2, e3, e4, e5⟩, l7 := fun hj => dn_up (h.l7 (dn_of hi hj (by decide))), l6 := fun hj => dn_up (h.l6 (dn_of hi hj (by decide))), l10 := fun hj => (fun q => ⟨dn_up q.1, dn_up q.2⟩) (h.l10 (dn_of hi hj (by decide))), p0 := fun _ => set_same (by have := h.siz; omega), p1 := fun hj => (set_other (by decide)).trans (h.p1 (dn_of hi hj (by decide))), p3 := fun hj => (set_other (by decide)).trans (h.p3 (dn_of hi hj (by decide))), p4 := fun hj => (set_other (by decide)).trans (h.p4 (dn_of hi hj (by decide))), p8 := fun hj => (set_other (by decide)).trans (h.p8 (dn_of hi hj (by decide))), p11 := fun hj => (set_other (by decide)).trans (h.p11 (dn_of hi hj (by decide))) }⟩
          · have hi : 1 < d.size := by omega
            have e0 := h.p0 (hpre _ rfl ⟨0, .data⟩ (by simp) rfl)
            obtain ⟨m0, m1, m2, m3⟩ := BXA.out wc (H3.out.trans (h.bel.mono H3.out.size))
            refine wpOp_plain rfl rfl ?_
            go_simp
            exact ⟨_, rfl, { bel := h.bel, siz := (by simpa using h.siz), kp := fun i hi' => (set_other (fun e => hi' (by subst e; decide))).trans (h.kp i hi'), k1 := (set_other (by decide)).trans h.k1, k7 := fun hk => (set_other (by decide)).trans (h.k7 (fun q => hk (dn_up q))), p9 := fun hj => by obtain ⟨g, e1, e2, e3, e4⟩ := h.p9 (dn_of hi hj (by decide)); exact ⟨g, (set_other (by decide)).trans e1, e2, e3, fun hk => e4 (fun q => hk (dn_up q))⟩, p2 := fun hj hk => by obtain ⟨v, h1, h2⟩ := h.p2 (dn_of hi hj (by decide)) (fun q => hk (dn_up q)); exact ⟨v, (set_other (by decide)).trans h1, h2⟩, p5 := fun hj => by obtain ⟨s1, e1, e2, e3, e4⟩ := h.p5 (dn_of hi hj (by decide)); exact ⟨s1, (set_other (by decide)).trans e1, fun h6 => (set_other (by decide)).trans (e2 (dn_of hi h6 (by decide))), fun h7 => (set_other (by decide)).trans (e3 (dn_of hi h7 (by decide))), e4.keep (fun b hb' => ⟨⟨hb'.1, hb'.2.1, by rw [set_other (by decide)]; exact hb'.2.2⟩, rfl⟩)⟩, p10 := fun hj => by obtain ⟨g, s1, e1, e2, e3, e4, e5⟩ := h.p10 (dn_of hi hj (by decide)); exact ⟨g, s1, (set_other (by decide)).trans e1, e2, e3, e4, e5⟩, l7 := fun hj => dn_up (h.l7 (dn_of hi hj (by decide))), l6 := fun hj => dn_up (h.l6 (dn_of hi hj (by decide))), l10 := fun hj => (fun q => ⟨dn_up q.1, dn_up q.2⟩) (h.l10 (dn_of hi hj (by decide))), p0 := fun hj => (set_other (by decide)).trans (h.p0 (dn_of hi hj (by decide))), p1 := fun _ => set_same (by have := h.siz; omega), p3 := fun hj => (set_other (by decide)).trans (h.p3 (dn_of hi hj (by decide))), p4 := fun hj => (set_other (by decide)).trans (h.p4 (dn_of hi hj (by decide))), p8 := fun hj => (set_other (by decide)).trans (h.p8 (dn_of hi hj (by decide))), p11 := fun hj => (set_other (by decide)).trans (h.p11 (dn_of hi hj (by decide))) }⟩
          · have hi : 2 < d.size := by omega
            have d1 : dn d 1 := hpre _ rfl ⟨1, .data⟩ (by simp) rfl
            have e1 := h.p1 d1
            refine wpOp_plain rfl rfl ?_
            go_simp
            refine (HCPY.out wc (H3.out.trans (h.bel.mono H3.out.size))).mono ?_
            rintro e1 w1 ⟨v1, rfl, hr1, hb⟩
            exact ⟨_, rfl, { bel := h.bel.trans (hb.mono h.bel.size), siz := (by simpa using h.siz), kp := fun i hi' => (set_other (fun e => hi' (by subst e; decide))).trans (h.kp i hi'), k1 := (set_other (by decide)).trans h.k1, k7 := fun hk => (set_other (by decide)).trans (h.k7 (fun q => hk (dn_up q))), p9 := fun hj => by obtain ⟨g, e1, e2, e3, e4⟩ := h.p9 (dn_of hi hj (by decide)); exact ⟨g, (set_other (by decide)).trans e1, e2, Nat.lt_of_lt_of_le e3 hb.size, fun hk => (hb.block g e3).trans (e4 (fun q => hk (dn_up q)))⟩, p2 := fun _ _ => ⟨v1, set_same (by have := h.siz; omega), hr1⟩, p5 := fun hj => by obtain ⟨s1, e1, e2, e3, e4⟩ := h.p5 (dn_of hi hj (by decide)); exact ⟨s1, (set_other (by decide)).trans e1, fun h6 => (set_other (by decide)).trans (e2 (dn_of hi h6 (by decide))), fun h7 => (set_other (by decide)).trans (e3 (dn_of hi h7 (by decide))), e4.keep (fun b hb' => ⟨⟨Nat.lt_of_lt_of_le hb'.1 hb.size, hb'.2.1, by rw [set_other (by decide)]; exact hb'.2.2⟩, hb.block b hb'.1⟩)⟩, p10 := fun hj => by obtain ⟨g, s1, e1, e2, e3, e4, e5⟩ := h.p10 (dn_of hi hj (by decide)); exact ⟨g, s1, (set_other (by decide)).trans e1, e2, (hb.block g e4).trans e3, Nat.lt_of_lt_of_le e4 hb.size, e5.keep (fun b hb' => ⟨⟨Nat.lt_of_lt_of_le hb'.1 hb.size, hb'.2⟩, hb.block b hb'.1⟩)⟩, l7 := fun hj => dn_up (h.l7 (dn_of hi hj (by decide))), l6 := fun hj => dn_up (h.l6 (dn_of hi hj (by decide))), l10 := fun hj => (fun q => ⟨dn_up q.1, dn_up q.2⟩) (h.l10 (dn_of hi hj (by decide))), p0 := fun hj => (set_other (by decide)).trans (h.p0 (dn_of hi hj (by decide))), p1 := fun hj => (set_other (by decide)).trans (h.p1 (dn_of hi hj (by decide))), p3 := fun hj => (set_other (by decide)).trans (h.p3 (dn_of hi hj (by decide))), p4 := fun hj => (set_other (by decide)).trans (h.p4 (dn_of hi hj (by decide))), p8 := fun hj => (set_other (by decide)).trans (h.p8 (dn_of hi hj (by decide))), p11 := fun hj => (set_other (by decide)).trans (h.p11 (dn_of hi hj (by decide))) }⟩
          · have hi : 3 < d.size := by omega
            have q1 := h.k1
            refine wpOp_plain rfl rfl ?_
            go_simp
            exact ⟨_, rfl, { bel := h.bel, siz := (by simpa using h.siz), kp := fun i hi' => (set_other (fun e => hi' (by subst e; decide))).trans (h.kp i hi'), k1 := (set_other (by decide)).trans h.k1, k7 := fun hk => (set_other (by decide)).trans (h.k7 (fun q => hk (dn_up q))), p9 := fun hj => by obtain ⟨g, e1, e2, e3, e4⟩ := h.p9 (dn_of hi hj (by decide)); exact ⟨g, (set_other (by decide)).trans e1, e2, e3, fun hk => e4 (fun q => hk (dn_up q))⟩, p2 := fun hj hk => by obtain ⟨v, h1, h2⟩ := h.p2 (dn_of hi hj (by decide)) (fun q => hk (dn_up q)); exact ⟨v, (set_other (by decide)).trans h1, h2⟩, p5 := fun hj => by obtain ⟨s1, e1, e2, e3, e4⟩ := h.p5 (dn_of hi hj (by decide)); exact ⟨s1, (set_other (by decide)).trans e1, fun h6 => (set_other (by decide)).trans (e2 (dn_of hi h6 (by decide))), fun h7 => (set_other (by decide)).trans (e3 (dn_of hi h7 (by decide))), e4.keep (fun b hb' => ⟨⟨hb'.1, hb'.2.1, by rw [set_other (by decide)]; exact hb'.2.2⟩, rfl⟩)⟩, p10 := fun hj => by obtain ⟨g, s1, e1, e2, e3, e4, e5⟩ := h.p10 (dn_of hi hj (by decide)); exact ⟨g, s1, (set_other (by decide)).trans e1, e2, e3, e4, e5⟩, l7 := fun hj => dn_up (h.l7 (dn_of hi hj (by decide))), l6 := fun hj => dn_up (h.l6 (dn_of hi hj (by decide))), l10 := fun hj => (fun q => ⟨dn_up q.1, dn_up q.2⟩) (h.l10 (dn_of hi hj (by decide))), p0 := fun hj => (set_other (by decide)).trans (h.p0 (dn_of hi hj (by decide))), p1 := fun hj => (set_other (by decide)).trans (h.p1 (dn_of hi hj (by decide))), p3 := fun _ => set_same (by have := h.siz; omega), p4 := fun hj => (set_other (by decide)).trans (h.p4 (dn_of hi hj (by decide))), p8 := fun hj => (set_other (by decide)).trans (h.p8 (dn_of hi hj (by decide))), p11 := fun hj => (set_other (by decide)).trans (h.p11 (dn_of hi hj (by decide))) }⟩
          · have hi : 4 < d.size := by omega
            have e3 := h.p3 (hpre _ rfl ⟨3, .data⟩ (by simp) rfl)
            obtain ⟨m0, m1, m2, m3⟩ := BXA.out wc (H3.out.trans (h.bel.mono H3.out.size))
            refine wpOp_plain rfl rfl ?_
            go_simp
            exact ⟨_, rfl, { bel := h.bel, siz := (by simpa using h.siz), kp := fun i hi' => (set_other (fun e => hi' (by subst e; decide))).trans (h.kp i hi'), k1 := (set_other (by decide)).trans h.k1, k7 := fun hk => (set_other (by decide)).trans (h.k7 (fun q => hk (dn_up q))), p9 := fun hj => by obtain ⟨g, e1, e2, e3, e4⟩ := h.p9 (dn_of hi hj (by decide)); exact ⟨g, (set_other (by decide)).trans e1, e2, e3, fun hk => e4 (fun q => hk (dn_up q))⟩, p2 := fun hj hk => by obtain ⟨v, h1, h2⟩ := h.p2 (dn_of hi hj (by decide)) (fun q => hk (dn_up q)); exact ⟨v, (set_other (by decide)).trans h1, h2⟩, p5 := fun hj => by obtain ⟨s1, e1, e2, e3, e4⟩ := h.p5 (dn_of hi hj (by decide)); exact ⟨s1, (set_other (by decide)).trans e1, fun h6 => (set_other (by decide)).trans (e2 (dn_of hi h6 (by decide))), fun h7 => (set_other (by decide)).trans (e3 (dn_of hi h7 (by decide))), e4.keep (fun b hb' => ⟨⟨hb'.1, hb'.2.1, by rw [set_other (by decide)]; exact hb'.2.2⟩, rfl⟩)⟩, p10 := fun hj => by obtain ⟨g, s1, e1, e2, e3, e4, e5⟩ := h.p10 (dn_of hi hj (by decide)); exact ⟨g, s1, (set_other (by decide)).trans e1, e2, e3, e4, e5⟩, l7 := fun hj => dn_up (h.l7 (dn_of hi hj (by decide))), l6 := fun hj => dn_up (h.l6 (dn_of hi hj (by decide))), l10 := fun hj => (fun q => ⟨dn_up q.1, dn_up q.2⟩) (h.l10 (dn_of hi hj (by decide))), p0 := fun hj => (set_other (by decide)).trans (h.p0 (dn_of hi hj (by decide))), p1 := fun hj => (set_other (by decide)).trans (h.p1 (dn_of hi hj (by decide))), p3 := fun hj => (set_other (by decide)).trans (h.p3 (dn_of hi hj (by decide))), p4 := fun _ => set_same (by have := h.siz; omega), p8 := fun hj => (set_other (by decide)).trans (h.p8 (dn_of hi hj (by decide))), p11 := fun hj => (set_other (by decide)).trans (h.p11 (dn_of hi hj (by decide))) }⟩
          · have hi : 5 < d.size := by omega
            have hnd' := not_dn hi hnd
            have d2 : dn d 2 := hpre _ rfl ⟨2, .data⟩ (by simp) rfl
            have d4 : dn d 4 := hpre _ rfl ⟨4, .data⟩ (by simp) rfl
            have e4 := h.p4 d4
            obtain ⟨v2, e2, hr2⟩ := h.p2 d2 hnd'
            have hne : ∀ b, wc.heap.size ≤ b → t[7]? ≠ some (.pointer (some ⟨b, 0, none⟩)) := by
              intro b hb q
              by_cases h9 : dn d 9
              · obtain ⟨g, e1, _, e3, _⟩ := h.p9 h9
                rw [e1] at q
                cases q
                omega
              · rw [h.k7 h9] at q
                simp [undef] at q
            refine wpOp_plain rfl rfl ?_
            go_simp
            refine (Least_any v2 x s wc hr2 (by omega)).mono ?_
            rw [← HLF.out]
            rintro e1 w1 ⟨v1, rfl, ⟨s1, rfl, hrx⟩, hb⟩
            exact ⟨_, rfl, { bel := h.bel.trans (hb.mono h.bel.size), siz := (by simpa using h.siz), kp := fun i hi' => (set_other (fun e => hi' (by subst e; decide))).trans (h.kp i hi'), k1 := (set_other (by decide)).trans h.k1, k7 := fun hk => (set_other (by decide)).trans (h.k7 (fun q => hk (dn_up q))), p9 := fun hj => by obtain ⟨g, e1, e2, e3, e4⟩ := h.p9 (dn_of hi hj (by decide)); exact ⟨g, (set_other (by decide)).trans e1, e2, Nat.lt_of_lt_of_le e3 hb.size, fun hk => (hb.block g e3).trans (e4 (fun q => hk (dn_up q)))⟩, p2 := fun _ hk => absurd (dn_self hi) hk, p5 := fun _ => ⟨s1, set_same (by have := h.siz; omega), fun h6 => absurd (h.l6 (dn_of hi h6 (by decide))) hnd', fun h7 => absurd (h.l6 (h.l7 (dn_of hi h7 (by decide)))) hnd', hrx.keep (fun b hb' => ⟨⟨hb'.1, Nat.le_trans h.bel.size hb'.2, by rw [set_other (by decide)]; exact hne b hb'.2⟩, rfl⟩)⟩, p10 := fun hj => by obtain ⟨g, s1, e1, e2, e3, e4, e5⟩ := h.p10 (dn_of hi hj (by decide)); exact ⟨g, s1, (set_other (by decide)).trans e1, e2, (hb.block g e4).trans e3, Nat.lt_of_lt_of_le e4 hb.size, e5.keep (fun b hb' => ⟨⟨Nat.lt_of_lt_of_le hb'.1 hb.size, hb'.2⟩, hb.block b hb'.1⟩)⟩, l7 := fun hj => dn_up (h.l7 (dn_of hi hj (by decide))), l6 := fun hj => dn_up (h.l6 (dn_of hi hj (by decide))), l10 := fun hj => (fun q => ⟨dn_up q.1, dn_up q.2⟩) (h.l10 (dn_of hi hj (by decide))), p0 := fun hj => (set_other (by decide)).trans (h.p0 (dn_of hi hj (by decide))), p1 := fun hj => (set_other (by decide)).trans (h.p1 (dn_of hi hj (by decide))), p3 := fun hj => (set_other (by decide)).trans (h.p3 (dn_of hi hj (by decide))), p4 := fun hj => (set_other (by decide)).trans (h.p4 (dn_of hi hj (by decide))), p8 := fun hj => (set_other (by decide)).trans (h.p8 (dn_of hi hj (by decide))), p11 := fun hj => (set_other (by decide)).trans (h.p11 (dn_of hi hj (by decide))) }⟩
          · have hi : 6 < d.size := by omega
            have hnd' := not_dn hi hnd
            have d5 : dn d 5 := hpre _ rfl ⟨5, .data⟩ (by simp) rfl
            obtain ⟨s1, e5, _, _, e4⟩ := h.p5 d5
            refine wpOp_plain rfl rfl ?_
            go_simp
            exact ⟨_, rfl, { bel := h.bel, siz := (by simpa using h.siz), kp := fun i hi' => (set_other (fun e => hi' (by subst e; decide))).trans (h.kp i hi'), k1 := (set_other (by decide)).trans h.k1, k7 := fun hk => (set_other (by decide)).trans (h.k7 (fun q => hk (dn_up q))), p9 := fun hj => by obtain ⟨g, e1, e2, e3, e4⟩ := h.p9 (dn_of hi hj (by decide)); exact ⟨g, (set_other (by decide)).trans e1, e2, e3, fun hk => e4 (fun q => hk (dn_up q))⟩, p2 := fun hj hk => by obtain ⟨v, h1, h2⟩ := h.p2 (dn_of hi hj (by decide)) (fun q => hk (dn_up q)); exact ⟨v, (set_other (by decide)).trans h1, h2⟩, p5 := fun _ => ⟨s1, (set_other (by decide)).trans e5, fun _ => set_same (by have := h.siz; omega), fun h7 => absurd (h.l7 (dn_of hi h7 (by decide))) hnd', e4.keep (fun b hb' => ⟨⟨hb'.1, hb'.2.1, by rw [set_other (by decide)]; exact hb'.2.2⟩, rfl⟩)⟩, p10 := fun hj => by obtain ⟨g, s1, e1, e2, e3, e4, e5⟩ := h.p10 (dn_of hi hj (by decide)); exact ⟨g, s1, (set_other (by decide)).trans e1, e2, e3, e4, e5⟩, l7 := fun hj => dn_up (h.l7 (dn_of hi hj (by decide))), l6 := fun _ => dn_up d5, l10 := fun hj => (fun q => ⟨dn_up q.1, dn_up q.2⟩) (h.l10 (dn_of hi hj (by decide))), p0 := fun hj => (set_other (by decide)).trans (h.p0 (dn_of hi hj (by decide))), p1 := fun hj => (set_other (by decide)).trans (h.p1 (dn_of hi hj (by decide))), p3 := fun hj => (set_other (by decide)).trans (h.p3 (dn_of hi hj (by decide))), p4 := fun hj => (set_other (by decide)).trans (h.p4 (dn_of hi hj (by decide))), p8 := fun hj => (set_other (by decide)).trans (h.p8 (dn_of hi hj (by decide))), p11 := fun hj => (set_other (by decide)).trans (h.p11 (dn_of hi hj (by decide))) }⟩
          · have hi : 7 < d.size := by omega
            have hnd' := not_dn hi hnd
            have d6 : dn d 6 := hpre _ rfl ⟨6, .data⟩ (by simp) rfl
            obtain ⟨s1, e5, e6, _, e4⟩ := h.p5 (h.l6 d6)
            have e6' := e6 d6
            refine wpOp_plain rfl rfl ?_
            go_simp
            exact ⟨_, rfl, { bel := h.bel, siz := (by simpa using h.siz), kp := fun i hi' => (set_other (fun e => hi' (by subst e; decide))).trans (h.kp i hi'), k1 := (set_other (by decide)).trans h.k1, k7 := fun hk => (set_other (by decide)).trans (h.k7 (fun q => hk (dn_up q))), p9 := fun hj => by obtain ⟨g, e1, e2, e3, e4⟩ := h.p9 (dn_of hi hj (by decide)); exact ⟨g, (set_other (by decide)).trans e1, e2, e3, fun hk => e4 (fun q => hk (dn_up q))⟩, p2 := fun hj hk => by obtain ⟨v, h1, h2⟩ := h.p2 (dn_of hi hj (by decide)) (fun q => hk (dn_up q)); exact ⟨v, (set_other (by decide)).trans h1, h2⟩, p5 := fun _ => ⟨s1, (set_other (by decide)).trans e5, fun h6 => (set_other (by decide)).trans (e6 (dn_of hi h6 (by decide))), fun _ => set_same (by have := h.siz; omega), e4.keep (fun b hb' => ⟨⟨hb'.1, hb'.2.1, by rw [set_other (by decide)]; exact hb'.2.2⟩, rfl⟩)⟩, p10 := fun hj => by obtain ⟨g, s1, e1, e2, e3, e4, e5⟩ := h.p10 (dn_of hi hj (by decide)); exact ⟨g, s1, (set_other (by decide)).trans e1, e2, e3, e4, e5⟩, l7 := fun _ => dn_up d6, l6 := fun hj => dn_up (h.l6 (dn_of hi hj (by decide))), l10 := fun hj => (fun q => ⟨dn_up q.1, dn_up q.2⟩) (h.l10 (dn_of hi hj (by decide))), p0 := fun hj => (set_other (by decide)).trans (h.p0 (dn_of hi hj (by decide))), p1 := fun hj => (set_other (by decide)).trans (h.p1 (dn_of hi hj (by decide))), p3 := fun hj => (set_other (by decide)).trans (h.p3 (dn_of hi hj (by decide))), p4 := fun hj => (set_other (by decide)).trans (h.p4 (dn_of hi hj (by decide))), p8 := fun hj => (set_other (by decide)).trans (h.p8 (dn_of hi hj (by decide))), p11 := fun hj => (set_other (by decide)).trans (h.p11 (dn_of hi hj (by decide))) }⟩
          · have hi : 8 < d.size := by omega
            have d6 : dn d 6 := hpre _ rfl ⟨6, .data⟩ (by simp) rfl
            obtain ⟨s1, e5, e6, _, e4⟩ := h.p5 (h.l6 d6)
            have e6' := e6 d6
            refine wpOp_plain rfl rfl ?_
            go_simp
            exact ⟨_, rfl, { bel := h.bel, siz := (by simpa using h.siz), kp := fun i hi' => (set_other (fun e => hi' (by subst e; decide))).trans (h.kp i hi'), k1 := (set_other (by decide)).trans h.k1, k7 := fun hk => (set_other (by decide)).trans (h.k7 (fun q => hk (dn_up q))), p9 := fun hj => by obtain ⟨g, e1, e2, e3, e4⟩ := h.p9 (dn_of hi hj (by decide)); exact ⟨g, (set_other (by decide)).trans e1, e2, e3, fun hk => e4 (fun q => hk (dn_up q))⟩, p2 := fun hj hk => by obtain ⟨v, h1, h2⟩ := h.p2 (dn_of hi hj (by decide)) (fun q => hk (dn_up q)); exact ⟨v, (set_other (by decide)).trans h1, h2⟩, p5 := fun hj => by obtain ⟨s1, e1, e2, e3, e4⟩ := h.p5 (dn_of hi hj (by decide)); exact ⟨s1, (set_other (by decide)).trans e1, fun h6 => (set_other (by decide)).trans (e2 (dn_of hi h6 (by decide))), fun h7 => (set_other (by decide)).trans (e3 (dn_of hi h7 (by decide))), e4.keep (fun b hb' => ⟨⟨hb'.1, hb'.2.1, by rw [set_other (by decide)]; exact hb'.2.2⟩, rfl⟩)⟩, p10 := fun hj => by obtain ⟨g, s1, e1, e2, e3, e4, e5⟩ := h.p10 (dn_of hi hj (by decide)); exact ⟨g, s1, (set_other (by decide)).trans e1, e2, e3, e4, e5⟩, l7 := fun hj => dn_up (h.l7 (dn_of hi hj (by decide))), l6 := fun hj => dn_up (h.l6 (dn_of hi hj (by decide))), l10 := fun hj => (fun q => ⟨dn_up q.1, dn_up q.2⟩) (h.l10 (dn_of hi hj (by decide))), p0 := fun hj => (set_other (by decide)).trans (h.p0 (dn_of hi hj (by decide))), p1 := fun hj => (set_other (by decide)).trans (h.p1 (dn_of hi hj (by decide))), p3 := fun hj => (set_other (by decide)).trans (h.p3 (dn_of hi hj (by decide))), p4 := fun hj => (set_other (by decide)).trans (h.p4 (dn_of hi hj (by decide))), p8 := fun _ => set_same (by have := h.siz; omega), p11 := fun hj => (set_other (by decide)).trans (h.p11 (dn_of hi hj (by decide))) }⟩
          · have hi : 9 < d.size := by omega
            have hnd' := not_dn hi hnd
            have hb : Below wc.heap.size wc (wc.alloc (.cells #[.int .i64 0, .int .i64 0, .slice none 0 0] 29)) := (Below.refl _ _).alloc (Nat.le_refl _) _
            refine wpOp_plain rfl rfl ?_
            go_simp
            exact ⟨_, rfl, { bel := h.bel.trans (hb.mono h.bel.size), siz := (by simpa using h.siz), kp := fun i hi' => (set_other (fun e => hi' (by subst e; decide))).trans (h.kp i hi'), k1 := (set_other (by decide)).trans h.k1, k7 := fun hk => absurd (dn_self hi) hk, p9 := fun _ => ⟨wc.heap.size, set_same (by have := h.siz; omega), h.bel.size, by simp, fun _ => heap_alloc_new _ _⟩, p2 := fun hj hk => by obtain ⟨v, h1, h2⟩ := h.p2 (dn_of hi hj (by decide)) (fun q => hk (dn_up q)); exact ⟨v, (set_other (by decide)).trans h1, rdl_keep' hb h2⟩, p5 := fun hj => by obtain ⟨s1, e1, e2, e3, e4⟩ := h.p5 (dn_of hi hj (by decide)); exact ⟨s1, (set_other (by decide)).trans e1, fun h6 => (set_other (by decide)).trans (e2 (dn_of hi h6 (by decide))), fun h7 => (set_other (by decide)).trans (e3 (dn_of hi h7 (by decide))), e4.keep (fun b hb' => ⟨⟨Nat.lt_of_lt_of_le hb'.1 hb.size, hb'.2.1, by rw [set_same (by have := h.siz; omega)]; intro q; cases q; exact absurd hb'.1 (Nat.lt_irrefl _)⟩, hb.block b hb'.1⟩)⟩, p10 := fun hj => absurd (h.l10 (dn_of hi hj (by decide))).1 hnd', l7 := fun hj => dn_up (h.l7 (dn_of hi hj (by decide))), l6 := fun hj => dn_up (h.l6 (dn_of hi hj (by decide))), l10 := fun hj => (fun q => ⟨dn_up q.1, dn_up q.2⟩) (h.l10 (dn_of hi hj (by decide))), p0 := fun hj => (set_other (by decide)).trans (h.p0 (dn_of hi hj (by decide))), p1 := fun hj => (set_other (by decide)).trans (h.p1 (dn_of hi hj (by decide))), p3 := fun hj => (set_other (by decide)).trans (h.p3 (dn_of hi hj (by decide))), p4 := fun hj => (set_other (by decide)).trans (h.p4 (dn_of hi hj (by decide))), p8 := fun hj => (set_other (by decide)).trans (h.p8 (dn_of hi hj (by decide))), p11 := fun hj => (set_other (by decide)).trans (h.p11 (dn_of hi hj (by decide))) }⟩
          · have hi : 10 < d.size := by omega
            have hnd' := not_dn hi hnd
            have d9 : dn d 9 := hpre _ rfl ⟨9, .data⟩ (by simp) rfl
            have d7 : dn d 7 := hpre _ rfl ⟨7, .data⟩ (by simp) rfl
            obtain ⟨g, g1, g2, g3, g4⟩ := h.p9 d9
            have g5 := g4 hnd'
            obtain ⟨_, e5, e6, e7, e4⟩ := h.p5 (h.l6 (h.l7 d7))
            obtain ⟨S1, K1, rfl, -⟩ := id e4
            have e7' := e7 d7
            have d5 := h.l6 (h.l7 d7)
            have z0 : wc.frozen? ⟨g, 0, none⟩ = false := by simp [World.frozen?, g5]
            have z1 : wc.frozen? ⟨g, 1, none⟩ = false := by simp [World.frozen?, g5]
            have z2 : wc.frozen? ⟨g, 2, none⟩ = false := by simp [World.frozen?, g5]
            have r0 : wc.cell? ⟨g, 0, none⟩ = some (.int .i64 0) := by simp [World.cell?, g5]
            have r1 : wc.cell? ⟨g, 1, none⟩ = some (.int .i64 0) := by simp [World.cell?, g5]
            have r2 : wc.cell? ⟨g, 2, none⟩ = some (.slice none 0 0) := by simp [World.cell?, g5]
            have hk9 : ∀ b, b ≠ g → (((wc.setCell ⟨g, 0, none⟩ (.int .i64 lf.entry)).setCell ⟨g, 1, none⟩ (.int .i64 lf.ending)).setCell ⟨g, 2, none⟩ (.slice S1 lf.clitics.length K1)).heap[b]? = wc.heap[b]? := fun b hb => by simp [World.setCell, Array.getElem?_modify, Ne.symm hb]
            have hx9 : (((wc.setCell ⟨g, 0, none⟩ (.int .i64 lf.entry)).setCell ⟨g, 1, none⟩ (.int .i64 lf.ending)).setCell ⟨g, 2, none⟩ (.slice S1 lf.clitics.length K1)).heap[g]? = some (.cells #[.int .i64 lf.entry, .int .i64 lf.ending, .slice S1 lf.clitics.length K1] 29 (0, 0)) := by simp [World.setCell, Array.getElem?_modify, g5]
            have hs9 : (((wc.setCell ⟨g, 0, none⟩ (.int .i64 lf.entry)).setCell ⟨g, 1, none⟩ (.int .i64 lf.ending)).setCell ⟨g, 2, none⟩ (.slice S1 lf.clitics.length K1)).heap.size = wc.heap.size := by simp [World.setCell]
            have hb9 : Below w3.heap.size w3 (((wc.setCell ⟨g, 0, none⟩ (.int .i64 lf.entry)).setCell ⟨g, 1, none⟩ (.int .i64 lf.ending)).setCell ⟨g, 2, none⟩ (.slice S1 lf.clitics.length K1)) := ((h.bel.setCell (by show w3.heap.size ≤ g; omega) _).setCell (by show w3.heap.size ≤ g; omega) _).setCell (by show w3.heap.size ≤ g; omega) _
            refine wpOp_plain rfl rfl ?_
            go_simp
            exact ⟨_, rfl, { bel := hb9, siz := h.siz, kp := h.kp, k1 := h.k1, k7 := fun hk => (h.k7 (fun q => hk (dn_up q))), p9 := fun _ => ⟨g, g1, g2, by rw [hs9]; exact g3, fun hk => absurd (dn_self hi) hk⟩, p2 := fun _ hk => absurd (dn_up d5) hk, p5 := fun _ => ⟨_, e5, fun h6 => e6 (dn_of hi h6 (by decide)), fun h7 => e7 (dn_of hi h7 (by decide)), e4.keep (fun b hb' => ⟨⟨by rw [hs9]; exact hb'.1, hb'.2⟩, hk9 b (fun e => hb'.2.2 (by rw [e]; exact g1))⟩)⟩, p10 := fun _ => ⟨g, _, g1, g2, hx9, by rw [hs9]; exact g3, e4.keep (fun b hb' => ⟨⟨by rw [hs9]; exact hb'.1, hb'.2.1⟩, hk9 b (fun e => hb'.2.2 (by rw [e]; exact g1))⟩)⟩, l7 := fun hj => dn_up (h.l7 (dn_of hi hj (by decide))), l6 := fun hj => dn_up (h.l6 (dn_of hi hj (by decide))), l10 := fun _ => ⟨dn_up d9, dn_up d7⟩, p0 := fun hj => (h.p0 (dn_of hi hj (by decide))), p1 := fun hj => (h.p1 (dn_of hi hj (by decide))), p3 := fun hj => (h.p3 (dn_of hi hj (by decide))), p4 := fun hj => (h.p4 (dn_of hi hj (by decide))), p8 := fun hj => (h.p8 (dn_of hi hj (by decide))), p11 := fun hj => (h.p11 (dn_of hi hj (by decide))) }⟩
          · have hi : 11 < d.size := by omega
            have e8 := h.p8 (hpre _ rfl ⟨8, .data⟩ (by simp) rfl)
            refine wpOp_plain rfl rfl ?_
            go_simp
            exact ⟨_, rfl, { bel := h.bel, siz := (by simpa using h.siz), kp := fun i hi' => (set_other (fun e => hi' (by subst e; decide))).trans (h.kp i hi'), k1 := (set_other (by decide)).trans h.k1, k7 := fun hk => (set_other (by decide)).trans (h.k7 (fun q => hk (dn_up q))), p9 := fun hj => by obtain ⟨g, e1, e2, e3, e4⟩ := h.p9 (dn_of hi hj (by decide)); exact ⟨g, (set_other (by decide)).trans e1, e2, e3, fun hk => e4 (fun q => hk (dn_up q))⟩, p2 := fun hj hk => by obtain ⟨v, h1, h2⟩ := h.p2 (dn_of hi hj (by decide)) (fun q => hk (dn_up q)); exact ⟨v, (set_other (by decide)).trans h1, h2⟩, p5 := fun hj => by obtain ⟨s1, e1, e2, e3, e4⟩ := h.p5 (dn_of hi hj (by decide)); exact ⟨s1, (set_other (by decide)).trans e1, fun h6 => (set_other (by decide)).trans (e2 (dn_of hi h6 (by decide))), fun h7 => (set_other (by decide)).trans (e3 (dn_of hi h7 (by decide))), e4.keep (fun b hb' => ⟨⟨hb'.1, hb'.2.1, by rw [set_other (by decide)]; exact hb'.2.2⟩, rfl⟩)⟩, p10 := fun hj => by obtain ⟨g, s1, e1, e2, e3, e4, e5⟩ := h.p10 (dn_of hi hj (by decide)); exact ⟨g, s1, (set_other (by decide)).trans e1, e2, e3, e4, e5⟩, l7 := fun hj => dn_up (h.l7 (dn_of hi hj (by decide))), l6 := fun hj => dn_up (h.l6 (dn_of hi hj (by decide))), l10 := fun hj => (fun q => ⟨dn_up q.1, dn_up q.2⟩) (h.l10 (dn_of hi hj (by decide))), p0 := fun hj => (set_other (by decide)).trans (h.p0 (dn_of hi hj (by decide))), p1 := fun hj => (set_other (by decide)).trans (h.p1 (dn_of hi hj (by decide))), p3 := fun hj => (set_other (by decide)).trans (h.p3 (dn_of hi hj (by decide))), p4 := fun hj => (set_other (by decide)).trans (h.p4 (dn_of hi hj (by decide))), p8 := fun hj => (set_other (by decide)).trans (h.p8 (dn_of hi hj (by decide))), p11 := fun _ => set_same (by have := h.siz; omega) }⟩
        case gendb =>
          intro d a wc hd hI hall
          obtain ⟨t, rfl, h⟩ := hI
          have hdn : ∀ j, j < 12 → dn d j := fun j hj => dn_all hd hall hj
          have hl : t.toList.length = 76 := h.siz
          obtain ⟨l⟩ := t
          simp only [] at hl
          obtain ⟨t0, l, rfl⟩ := List.exists_cons_of_length_eq_add_one (n := 75) hl; replace hl : l.length = 75 := (by simpa using hl)
          obtain ⟨t1, l, rfl⟩ := List.exists_cons_of_length_eq_add_one (n := 74) hl; replace hl : l.length = 74 := (by simpa using hl)
          obtain ⟨t2, l, rfl⟩ := List.exists_cons_of_length_eq_add_one (n := 73) hl; replace hl : l.length = 73 := (by simpa using hl)
          obtain ⟨t3, l, rfl⟩ := List.exists_cons_of_length_eq_add_one (n := 72) hl; replace hl : l.length = 72 := (by simpa using hl)
          obtain ⟨t4, l, rfl⟩ := List.exists_cons_of_length_eq_add_one (n := 71) hl; replace hl : l.length = 71 := (by simpa using hl)
          obtain ⟨t5, l, rfl⟩ := List.exists_cons_of_length_eq_add_one (n := 70) hl; replace hl : l.length = 70 := (by simpa using hl)
          obtain ⟨t6, l, rfl⟩ := List.exists_cons_of_length_eq_add_one (n := 69) hl; replace hl : l.length = 69 := (by simpa using hl)
          obtain ⟨t7, l, rfl⟩ := List.exists_cons_of_length_eq_add_one (n := 68) hl; replace hl : l.length = 68 := (by simpa using hl)
          obtain ⟨t8, l, rfl⟩ := List.exists_cons_of_length_eq_add_one (n := 67) hl; replace hl : l.length = 67 := (by simpa using hl)
          obtain ⟨t9, l, rfl⟩ := List.exists_cons_of_length_eq_add_one (n := 66) hl; replace hl : l.length = 66 := (by simpa using hl)
          obtain ⟨t10, l, rfl⟩ := List.exists_cons_of_length_eq_add_one (n := 65) hl; replace hl : l.length = 65 := (by simpa using hl)
          obtain ⟨t11, l, rfl⟩ := List.exists_cons_of_length_eq_add_one (n := 64) hl; replace hl : l.length = 64 := (by simpa using hl)
          obtain ⟨t12, l, rfl⟩ := List.exists_cons_of_length_eq_add_one (n := 63) hl; replace hl : l.length = 63 := (by simpa using hl)
          obtain ⟨t13, l, rfl⟩ := List.exists_cons_of_length_eq_add_one (n := 62) hl; replace hl : l.length = 62 := (by simpa using hl)
          obtain ⟨t14, l, rfl⟩ := List.exists_cons_of_length_eq_add_one (n := 61) hl; replace hl : l.length = 61 := (by simpa using hl)
          obtain ⟨t15, l, rfl⟩ := List.exists_cons_of_length_eq_add_one (n := 60) hl; replace hl : l.length = 60 := (by simpa using hl)
          obtain ⟨t16, l, rfl⟩ := List.exists_cons_of_length_eq_add_one (n := 59) hl; replace hl : l.length = 59 := (by simpa using hl)
          obtain ⟨t17, l, rfl⟩ := List.exists_cons_of_length_eq_add_one (n := 58) hl; replace hl : l.length = 58 := (by simpa using hl)
          obtain ⟨t18, l, rfl⟩ := List.exists_cons_of_length_eq_add_one (n := 57) hl; replace hl : l.length = 57 := (by simpa using hl)
          obtain ⟨t19, l, rfl⟩ := List.exists_cons_of_length_eq_add_one (n := 56) hl; replace hl : l.length = 56 := (by simpa using hl)
          obtain ⟨t20, l, rfl⟩ := List.exists_cons_of_length_eq_add_one (n := 55) hl; replace hl : l.length = 55 := (by simpa using hl)
          obtain ⟨t21, l, rfl⟩ := List.exists_cons_of_length_eq_add_one (n := 54) hl; replace hl : l.length = 54 := (by simpa using hl)
          obtain ⟨t22, l, rfl⟩ := List.exists_cons_of_length_eq_add_one (n := 53) hl; replace hl : l.length = 53 := (by simpa using hl)
          obtain ⟨t23, l, rfl⟩ := List.exists_cons_of_length_eq_add_one (n := 52) hl; replace hl : l.length = 52 := (by simpa using hl)
          obtain ⟨t24, l, rfl⟩ := List.exists_cons_of_length_eq_add_one (n := 51) hl; replace hl : l.length = 51 := (by simpa using hl)
          obtain ⟨t25, l, rfl⟩ := List.exists_cons_of_length_eq_add_one (n := 50) hl; replace hl : l.length = 50 := (by simpa using hl)
          obtain ⟨t26, l, rfl⟩ := List.exists_cons_of_length_eq_add_one (n := 49) hl; replace hl : l.length = 49 := (by simpa using hl)
          obtain ⟨t27, l, rfl⟩ := List.exists_cons_of_length_eq_add_one (n := 48) hl; replace hl : l.length = 48 := (by simpa using hl)
          obtain ⟨t28, l, rfl⟩ := List.exists_cons_of_length_eq_add_one (n := 47) hl; replace hl : l.length = 47 := (by simpa using hl)
          obtain ⟨t29, l, rfl⟩ := List.exists_cons_of_length_eq_add_one (n := 46) hl; replace hl : l.length = 46 := (by simpa using hl)
          obtain ⟨t30, l, rfl⟩ := List.exists_cons_of_length_eq_add_one (n := 45) hl; replace hl : l.length = 45 := (by simpa using hl)
          obtain ⟨t31, l, rfl⟩ := List.exists_cons_of_length_eq_add_one (n := 44) hl; replace hl : l.length = 44 := (by simpa using hl)
          obtain ⟨t32, l, rfl⟩ := List.exists_cons_of_length_eq_add_one (n := 43) hl; replace hl : l.length = 43 := (by simpa using hl)
          obtain ⟨t33, l, rfl⟩ := List.exists_cons_of_length_eq_add_one (n := 42) hl; replace hl : l.length = 42 := (by simpa using hl)
          obtain ⟨t34, l, rfl⟩ := List.exists_cons_of_length_eq_add_one (n := 41) hl; replace hl : l.length = 41 := (by simpa using hl)
          obtain ⟨t35, l, rfl⟩ := List.exists_cons_of_length_eq_add_one (n := 40) hl; replace hl : l.length = 40 := (by simpa using hl)
          obtain ⟨t36, l, rfl⟩ := List.exists_cons_of_length_eq_add_one (n := 39) hl; replace hl : l.length = 39 := (by simpa using hl)
          obtain ⟨t37, l, rfl⟩ := List.exists_cons_of_length_eq_add_one (n := 38) hl; replace hl : l.length = 38 := (by simpa using hl)
          obtain ⟨t38, l, rfl⟩ := List.exists_cons_of_length_eq_add_one (n := 37) hl; replace hl : l.length = 37 := (by simpa using hl)
          obtain ⟨t39, l, rfl⟩ := List.exists_cons_of_length_eq_add_one (n := 36) hl; replace hl : l.length = 36 := (by simpa using hl)
          obtain ⟨t40, l, rfl⟩ := List.exists_cons_of_length_eq_add_one (n := 35) hl; replace hl : l.length = 35 := (by simpa using hl)
          obtain ⟨t41, l, rfl⟩ := List.exists_cons_of_length_eq_add_one (n := 34) hl; replace hl : l.length = 34 := (by simpa using hl)
          obtain ⟨t42, l, rfl⟩ := List.exists_cons_of_length_eq_add_one (n := 33) hl; replace hl : l.length = 33 := (by simpa using hl)
          obtain ⟨t43, l, rfl⟩ := List.exists_cons_of_length_eq_add_one (n := 32) hl; replace hl : l.length = 32 := (by simpa using hl)
          obtain ⟨t44, l, rfl⟩ := List.exists_cons_of_length_eq_add_one (n := 31) hl; replace hl : l.length = 31 := (by simpa using hl)
          obtain ⟨t45, l, rfl⟩ := List.exists_cons_of_length_eq_add_one (n := 30) hl; replace hl : l.length = 30 := (by simpa using hl)
          obtain ⟨t46, l, rfl⟩ := List.exists_cons_of_length_eq_add_one (n := 29) hl; replace hl : l.length = 29 := (by simpa using hl)
          obtain ⟨t47, l, rfl⟩ := List.exists_cons_of_length_eq_add_one (n := 28) hl; replace hl : l.length = 28 := (by simpa using hl)
          obtain ⟨t48, l, rfl⟩ := List.exists_cons_of_length_eq_add_one (n := 27) hl; replace hl : l.length = 27 := (by simpa using hl)
          obtain ⟨t49, l, rfl⟩ := List.exists_cons_of_length_eq_add_one (n := 26) hl; replace hl : l.length = 26 := (by simpa using hl)
          obtain ⟨t50, l, rfl⟩ := List.exists_cons_of_length_eq_add_one (n := 25) hl; replace hl : l.length = 25 := (by simpa using hl)
          obtain ⟨t51, l, rfl⟩ := List.exists_cons_of_length_eq_add_one (n := 24) hl; replace hl : l.length = 24 := (by simpa using hl)
          obtain ⟨t52, l, rfl⟩ := List.exists_cons_of_length_eq_add_one (n := 23) hl; replace hl : l.length = 23 := (by simpa using hl)
          obtain ⟨t53, l, rfl⟩ := List.exists_cons_of_length_eq_add_one (n := 22) hl; replace hl : l.length = 22 := (by simpa using hl)
          obtain ⟨t54, l, rfl⟩ := List.exists_cons_of_length_eq_add_one (n := 21) hl; replace hl : l.length = 21 := (by simpa using hl)
          obtain ⟨t55, l, rfl⟩ := List.exists_cons_of_length_eq_add_one (n := 20) hl; replace hl : l.length = 20 := (by simpa using hl)
          obtain ⟨t56, l, rfl⟩ := List.exists_cons_of_length_eq_add_one (n := 19) hl; replace hl : l.length = 19 := (by simpa using hl)
          obtain ⟨t57, l, rfl⟩ := List.exists_cons_of_length_eq_add_one (n := 18) hl; replace hl : l.length = 18 := (by simpa using hl)
          obtain ⟨t58, l, rfl⟩ := List.exists_cons_of_length_eq_add_one (n := 17) hl; replace hl : l.length = 17 := (by simpa using hl)
          obtain ⟨t59, l, rfl⟩ := List.exists_cons_of_length_eq_add_one (n := 16) hl; replace hl : l.length = 16 := (by simpa using hl)
          obtain ⟨t60, l, rfl⟩ := List.exists_cons_of_length_eq_add_one (n := 15) hl; replace hl : l.length = 15 := (by simpa using hl)
          obtain ⟨t61, l, rfl⟩ := List.exists_cons_of_length_eq_add_one (n := 14) hl; replace hl : l.length = 14 := (by simpa using hl)
          obtain ⟨t62, l, rfl⟩ := List.exists_cons_of_length_eq_add_one (n := 13) hl; replace hl : l.length = 13 := (by simpa using hl)
          obtain ⟨t63, l, rfl⟩ := List.exists_cons_of_length_eq_add_one (n := 12) hl; replace hl : l.length = 12 := (by simpa using hl)
          obtain ⟨t64, l, rfl⟩ := List.exists_cons_of_length_eq_add_one (n := 11) hl; replace hl : l.length = 11 := (by simpa using hl)
          obtain ⟨t65, l, rfl⟩ := List.exists_cons_of_length_eq_add_one (n := 10) hl; replace hl : l.length = 10 := (by simpa using hl)
          obtain ⟨t66, l, rfl⟩ := List.exists_cons_of_length_eq_add_one (n := 9) hl; replace hl : l.length = 9 := (by simpa using hl)
          obtain ⟨t67, l, rfl⟩ := List.exists_cons_of_length_eq_add_one (n := 8) hl; replace hl : l.length = 8 := (by simpa using hl)
          obtain ⟨t68, l, rfl⟩ := List.exists_cons_of_length_eq_add_one (n := 7) hl; replace hl : l.length = 7 := (by simpa using hl)
          obtain ⟨t69, l, rfl⟩ := List.exists_cons_of_length_eq_add_one (n := 6) hl; replace hl : l.length = 6 := (by simpa using hl)
          obtain ⟨t70, l, rfl⟩ := List.exists_cons_of_length_eq_add_one (n := 5) hl; replace hl : l.length = 5 := (by simpa using hl)
          obtain ⟨t71, l, rfl⟩ := List.exists_cons_of_length_eq_add_one (n := 4) hl; replace hl : l.length = 4 := (by simpa using hl)
          obtain ⟨t72, l, rfl⟩ := List.exists_cons_of_length_eq_add_one (n := 3) hl; replace hl : l.length = 3 := (by simpa using hl)
          obtain ⟨t73, l, rfl⟩ := List.exists_cons_of_length_eq_add_one (n := 2) hl; replace hl : l.length = 2 := (by simpa using hl)
          obtain ⟨t74, l, rfl⟩ := List.exists_cons_of_length_eq_add_one (n := 1) hl; replace hl : l.length = 1 := (by simpa using hl)
          obtain ⟨t75, l, rfl⟩ := List.exists_cons_of_length_eq_add_one (n := 0) hl; replace hl : l.length = 0 := (by simpa using hl)
          obtain rfl := List.eq_nil_of_length_eq_zero hl
          clear hl
          have e := h.kp 0 (by decide); simp only [List.getElem?_toArray, List.getElem?_cons_zero, Option.some.injEq] at e; subst e
          have e := h.kp 1 (by decide); simp only [List.getElem?_toArray, List.getElem?_cons_succ, List.getElem?_cons_zero, Option.some.injEq] at e; subst e
          have e := h.kp 2 (by decide); simp only [List.getElem?_toArray, List.getElem?_cons_succ, List.getElem?_cons_zero, Option.some.injEq] at e; subst e
          have e := h.kp 3 (by decide); simp only [List.getElem?_toArray, List.getElem?_cons_succ, List.getElem?_cons_zero, Option.some.injEq] at e; subst e
          have e := h.kp 4 (by decide); simp only [List.getElem?_toArray, List.getElem?_cons_succ, List.getElem?_cons_zero, Option.some.injEq] at e; subst e
          have e := h.kp 5 (by decide); simp only [List.getElem?_toArray, List.getElem?_cons_succ, List.getElem?_cons_zero, Option.some.injEq] at e; subst e
          have e := h.kp 6 (by decide); simp only [List.getElem?_toArray, List.getElem?_cons_succ, List.getElem?_cons_zero, Option.some.injEq] at e; subst e
          have e := h.kp 9 (by decide); simp only [List.getElem?_toArray, List.getElem?_cons_succ, List.getElem?_cons_zero, Option.some.injEq] at e; subst e
          have e := h.kp 10 (by decide); simp only [List.getElem?_toArray, List.getElem?_cons_succ, List.getElem?_cons_zero, Option.some.injEq] at e; subst e
          have e := h.kp 11 (by decide); simp only [List.getElem?_toArray, List.getElem?_cons_succ, List.getElem?_cons_zero, Option.some.injEq] at e; subst e
          have e := h.kp 12 (by decide); simp only [List.getElem?_toArray, List.getElem?_cons_succ, List.getElem?_cons_zero, Option.some.injEq] at e; subst e
          have e := h.kp 13 (by decide); simp only [List.getElem?_toArray, List.getElem?_cons_succ, List.getElem?_cons_zero, Option.some.injEq] at e; subst e
          have e := h.kp 14 (by decide); simp only [List.getElem?_toArray, List.getElem?_cons_succ, List.getElem?_cons_zero, Option.some.injEq] at e; subst e
          have e := h.kp 15 (by decide); simp only [List.getElem?_toArray, List.getElem?_cons_succ, List.getElem?_cons_zero, Option.some.injEq] at e; subst e
          have e := h.kp 16 (by decide); simp only [List.getElem?_toArray, List.getElem?_cons_succ, List.getElem?_cons_zero, Option.some.injEq] at e; subst e
          have e := h.kp 17 (by decide); simp only [List.getElem?_toArray, List.getElem?_cons_succ, List.getElem?_cons_zero, Option.some.injEq] at e; subst e
          have e := h.kp 18 (by decide); simp only [List.getElem?_toArray, List.getElem?_cons_succ, List.getElem?_cons_zero, Option.some.injEq] at e; subst e
          have e := h.kp 19 (by decide); simp only [List.getElem?_toArray, List.getElem?_cons_succ, List.getElem?_cons_zero, Option.some.injEq] at e; subst e
          have e := h.kp 20 (by decide); simp only [List.getElem?_toArray, List.getElem?_cons_succ, List.getElem?_cons_zero, Option.some.injEq] at e; subst e
          have e := h.kp 21 (by decide); simp only [List.getElem?_toArray, List.getElem?_cons_succ, List.getElem?_cons_zero, Option.some.injEq] at e; subst e
          have e := h.kp 22 (by decide); simp only [List.getElem?_toArray, List.getElem?_cons_succ, List.getElem?_cons_zero, Option.some.injEq] at e; subst e
          have e := h.kp 23 (by decide); simp only [List.getElem?_toArray, List.getElem?_cons_succ, List.getElem?_cons_zero, Option.some.injEq] at e; subst e
          have e := h.kp 24 (by decide); simp only [List.getElem?_toArray, List.getElem?_cons_succ, List.getElem?_cons_zero, Option.some.injEq] at e; subst e
          have e := h.kp 25 (by decide); simp only [List.getElem?_toArray, List.getElem?_cons_succ, List.getElem?_cons_zero, Option.some.injEq] at e; subst e
          have e := h.kp 26 (by decide); simp only [List.getElem?_toArray, List.getElem?_cons_succ, List.getElem?_cons_zero, Option.some.injEq] at e; subst e
          have e := h.kp 27 (by decide); simp only [List.getElem?_toArray, List.getElem?_cons_succ, List.getElem?_cons_zero, Option.some.injEq] at e; subst e
          have e := h.kp 28 (by decide); simp only [List.getElem?_toArray, List.getElem?_cons_succ, List.getElem?_cons_zero, Option.some.injEq] at e; subst e
          have e := h.kp 29 (by decide); simp only [List.getElem?_toArray, List.getElem?_cons_succ, List.getElem?_cons_zero, Option.some.injEq] at e; subst e
          have e := h.kp 30 (by decide); simp only [List.getElem?_toArray, List.getElem?_cons_succ, List.getElem?_cons_zero, Option.some.injEq] at e; subst e
          have e := h.kp 31 (by decide); simp only [List.getElem?_toArray, List.getElem?_cons_succ, List.getElem?_cons_zero, Option.some.injEq] at e; subst e
          have e := h.kp 32 (by decide); simp only [List.getElem?_toArray, List.getElem?_cons_succ, List.getElem?_cons_zero, Option.some.injEq] at e; subst e
          have e := h.kp 33 (by decide); simp only [List.getElem?_toArray, List.getElem?_cons_succ, List.getElem?_cons_zero, Option.some.injEq] at e; subst e
          have e := h.kp 34 (by decide); simp only [List.getElem?_toArray, List.getElem?_cons_succ, List.getElem?_cons_zero, Option.some.injEq] at e; subst e
          have e := h.kp 35 (by decide); simp only [List.getElem?_toArray, List.getElem?_cons_succ, List.getElem?_cons_zero, Option.some.injEq] at e; subst e
          have e := h.kp 36 (by decide); simp only [List.getElem?_toArray, List.getElem?_cons_succ, List.getElem?_cons_zero, Option.some.injEq] at e; subst e
          have e := h.kp 37 (by decide); simp only [List.getElem?_toArray, List.getElem?_cons_succ, List.getElem?_cons_zero, Option.some.injEq] at e; subst e
          have e := h.kp 47 (by decide); simp only [List.getElem?_toArray, List.getElem?_cons_succ, List.getElem?_cons_zero, Option.some.injEq] at e; subst e
          have e := h.kp 48 (by decide); simp only [List.getElem?_toArray, List.getElem?_cons_succ, List.getElem?_cons_zero, Option.some.injEq] at e; subst e
          have e := h.kp 49 (by decide); simp only [List.getElem?_toArray, List.getElem?_cons_succ, List.getElem?_cons_zero, Option.some.injEq] at e; subst e
          have e := h.kp 50 (by decide); simp only [List.getElem?_toArray, List.getElem?_cons_succ, List.getElem?_cons_zero, Option.some.injEq] at e; subst e
          have e := h.kp 51 (by decide); simp only [List.getElem?_toArray, List.getElem?_cons_succ, List.getElem?_cons_zero, Option.some.injEq] at e; subst e
          have e := h.kp 52 (by decide); simp only [List.getElem?_toArray, List.getElem?_cons_succ, List.getElem?_cons_zero, Option.some.injEq] at e; subst e
          have e := h.kp 53 (by decide); simp only [List.getElem?_toArray, List.getElem?_cons_succ, List.getElem?_cons_zero, Option.some.injEq] at e; subst e
          have e := h.kp 54 (by decide); simp only [List.getElem?_toArray, List.getElem?_cons_succ, List.getElem?_cons_zero, Option.some.injEq] at e; subst e
          have e := h.kp 55 (by decide); simp only [List.getElem?_toArray, List.getElem?_cons_succ, List.getElem?_cons_zero, Option.some.injEq] at e; subst e
          have e := h.kp 56 (by decide); simp only [List.getElem?_toArray, List.getElem?_cons_succ, List.getElem?_cons_zero, Option.some.injEq] at e; subst e
          have e := h.kp 57 (by decide); simp only [List.getElem?_toArray, List.getElem?_cons_succ, List.getElem?_cons_zero, Option.some.injEq] at e; subst e
          have e := h.kp 58 (by decide); simp only [List.getElem?_toArray, List.getElem?_cons_succ, List.getElem?_cons_zero, Option.some.injEq] at e; subst e
          have e := h.kp 59 (by decide); simp only [List.getElem?_toArray, List.getElem?_cons_succ, List.getElem?_cons_zero, Option.some.injEq] at e; subst e
          have e := h.kp 60 (by decide); simp only [List.getElem?_toArray, List.getElem?_cons_succ, List.getElem?_cons_zero, Option.some.injEq] at e; subst e
          have e := h.kp 61 (by decide); simp only [List.getElem?_toArray, List.getElem?_cons_succ, List.getElem?_cons_zero, Option.some.injEq] at e; subst e
          have e := h.kp 62 (by decide); simp only [List.getElem?_toArray, List.getElem?_cons_succ, List.getElem?_cons_zero, Option.some.injEq] at e; subst e
          have e := h.kp 63 (by decide); simp only [List.getElem?_toArray, List.getElem?_cons_succ, List.getElem?_cons_zero, Option.some.injEq] at e; subst e
          have e := h.kp 64 (by decide); simp only [List.getElem?_toArray, List.getElem?_cons_succ, List.getElem?_cons_zero, Option.some.injEq] at e; subst e
          have e := h.kp 65 (by decide); simp only [List.getElem?_toArray, List.getElem?_cons_succ, List.getElem?_cons_zero, Option.some.injEq] at e; subst e
          have e := h.kp 66 (by decide); simp only [List.getElem?_toArray, List.getElem?_cons_succ, List.getElem?_cons_zero, Option.some.injEq] at e; subst e
          have e := h.kp 67 (by decide); simp only [List.getElem?_toArray, List.getElem?_cons_succ, List.getElem?_cons_zero, Option.some.injEq] at e; subst e
          have e := h.kp 68 (by decide); simp only [List.getElem?_toArray, List.getElem?_cons_succ, List.getElem?_cons_zero, Option.some.injEq] at e; subst e
          have e := h.kp 69 (by decide); simp only [List.getElem?_toArray, List.getElem?_cons_succ, List.getElem?_cons_zero, Option.some.injEq] at e; subst e
          have e := h.kp 70 (by decide); simp only [List.getElem?_toArray, List.getElem?_cons_succ, List.getElem?_cons_zero, Option.some.injEq] at e; subst e
          have e := h.kp 71 (by decide); simp only [List.getElem?_toArray, List.getElem?_cons_succ, List.getElem?_cons_zero, Option.some.injEq] at e; subst e
          have e := h.kp 72 (by decide); simp only [List.getElem?_toArray, List.getElem?_cons_succ, List.getElem?_cons_zero, Option.some.injEq] at e; subst e
          have e := h.kp 73 (by decide); simp only [List.getElem?_toArray, List.getElem?_cons_succ, List.getElem?_cons_zero, Option.some.injEq] at e; subst e
          have e := h.kp 74 (by decide); simp only [List.getElem?_toArray, List.getElem?_cons_succ, List.getElem?_cons_zero, Option.some.injEq] at e; subst e
          have e := h.kp 75 (by decide); simp only [List.getElem?_toArray, List.getElem?_cons_succ, List.getElem?_cons_zero, Option.some.injEq] at e; subst e
          have e := h.p11 (hdn 11 (by omega)); simp only [List.getElem?_toArray, List.getElem?_cons_succ, List.getElem?_cons_zero, Option.some.injEq] at e; subst e
          have e := h.p0 (hdn 0 (by omega)); simp only [List.getElem?_toArray, List.getElem?_cons_succ, List.getElem?_cons_zero, Option.some.injEq] at e; subst e
          have e := h.p1 (hdn 1 (by omega)); simp only [List.getElem?_toArray, List.getElem?_cons_succ, List.getElem?_cons_zero, Option.some.injEq] at e; subst e
          have e := h.p3 (hdn 3 (by omega)); simp only [List.getElem?_toArray, List.getElem?_cons_succ, List.getElem?_cons_zero, Option.some.injEq] at e; subst e
          have e := h.p4 (hdn 4 (by omega)); simp only [List.getElem?_toArray, List.getElem?_cons_succ, List.getElem?_cons_zero, Option.some.injEq] at e; subst e
          have e := h.p8 (hdn 8 (by omega)); simp only [List.getElem?_toArray, List.getElem?_cons_succ, List.getElem?_cons_zero, Option.some.injEq] at e; subst e
          obtain ⟨g5, s5, e, hg5, hx5, hl5, hr5⟩ := h.p10 (hdn 10 (by omega)); obtain rfl : t7 = .pointer (some ⟨g5, 0, none⟩) := by simpa using e
          have hbc := h.bel
          clear h hdn hall
          have H5 := Lib.hid (H3.out.trans (hbc.mono H3.out.size))
          have HX5 := Lib.hid hx5
          have HR5 := Lib.hid hr5
          have HA5 := Lib.hid (rdg_keep hbc HF3a.out)
          have HB5 := Lib.hid (rdg_keep hbc HF3.out)
          obtain ⟨S5, k5, rfl, -⟩ := id hr5
          obtain ⟨g0, g1, g2, g3⟩ := BXA.out wc H5.out
          clear hbc hx5 hr5
          go_wp2_with fail
          refine (rLeast_any _ x s wc (HGL.out wc H5.out) (by omega)).mono ?_
          rw [← HLF.out]
          rintro e6 w6 ⟨v6, rfl, ⟨s6, rfl, hr6⟩, hb6⟩
          obtain ⟨S6, k6, rfl, -⟩ := id hr6
          obtain ⟨W7, hW7⟩ : ∃ W7, W7 = w6.alloc (.cells #[.int .i64 lf.entry, .int .i64 lf.ending, .slice S6 lf.clitics.length k6] 29) := ⟨_, rfl⟩
          have hb67 : Below w6.heap.size w6 W7 := by rw [hW7]; exact (Below.refl _ _).alloc (Nat.le_refl _) _
          have hbc7 : Below wc.heap.size wc W7 := hb6.trans (hb67.mono hb6.size)
          have hs67 : W7.heap.size = w6.heap.size + 1 := by rw [hW7]; simp
          have H7 := Lib.hid (H5.out.trans (hbc7.mono H5.out.size))
          have HX7 := Lib.hid ((hbc7.block g5 hl5).trans HX5.out)
          have HY7 : Hid (W7.heap[w6.heap.size]? = some (.cells #[.int .i64 lf.entry, .int .i64 lf.ending, .slice S6 lf.clitics.length k6] 29 (0, 0))) := Lib.hid (by rw [hW7]; exact heap_alloc_new _ _)
          have HSF : Hid (Calls Tryd.prog 23 #[.slice Af (Lx.withR x s).length cf, .slice Ag (Lx.withR x s).length cg] W7 (RetBB true W7)) := Lib.hid (by
            have := SameForms_any _ _ (Lx.withR x s) (Lx.withR x s) W7 (fun b => b < W7.heap.size) (fun b hb => hb) (RdG.keep HA5.out (fun b hb => ⟨Nat.lt_of_lt_of_le hb.1 hbc7.size, hbc7.block b hb.1⟩)) (RdG.keep HB5.out (fun b hb => ⟨Nat.lt_of_lt_of_le hb.1 hbc7.size, hbc7.block b hb.1⟩)) Lx.withR_small Lx.withR_small
            simpa using this)
          have HSM : FSmall lf := by rw [HLF.out]; exact Lx.leastR_small
          have HSG : Hid (∀ W, Below W7.heap.size W7 W → Calls Tryd.prog 40 #[.agg #[.int .i64 lf.entry, .int .i64 lf.ending, .slice S5 lf.clitics.length k5], .agg #[.int .i64 lf.entry, .int .i64 lf.ending, .slice S6 lf.clitics.length k6]] W (RetBB true W)) := Lib.hid (fun W hW => by
            have := SameForm_any _ _ lf lf W ⟨⟨_, rfl, (HR5.out.keep (w' := W) (ok' := fun b => b < W.heap.size) (fun b hb => ⟨by have := hbc7.size; have := hW.size; omega, (hW.block b (by have := hbc7.size; omega)).trans (hbc7.block b hb.1)⟩)).to (fun b hb => hb)⟩⟩ ⟨⟨_, rfl, (hr6.keep (w' := W) (ok' := fun b => b < W.heap.size) (fun b hb => ⟨by have := hW.size; omega, (hW.block b (by omega)).trans (hb67.block b hb.1)⟩)).to (fun b hb => hb)⟩⟩ HSM HSM
            simpa using this)
          have HW7 := Lib.hid hW7
          have hg5' : g5 < W7.heap.size := by have := hbc7.size; omega
          have HBC7 := Lib.hid hbc7
          clear hb67 hbc7 hr6 hb6 g0 g1 g2 g3 hW7 HSM
          go_wp2_with fail
          rw [← HW7.out]
          refine HSF.out.mono ?_
          rintro e7 w7 ⟨rfl, hb7⟩
          have H8 := Lib.hid (H7.out.trans (hb7.mono H7.out.size))
          have p5 := (hb7.block g5 hg5').trans HX7.out
          have p6 := (hb7.block w6.heap.size (by omega)).trans HY7.out
          have a0 : w7.cell? ⟨g5, 0, none⟩ = some (.int .i64 lf.entry) := by simp [World.cell?, p5]
          have a1 : w7.cell? ⟨g5, 1, none⟩ = some (.int .i64 lf.ending) := by simp [World.cell?, p5]
          have a2 : w7.cell? ⟨g5, 2, none⟩ = some (.slice S5 lf.clitics.length k5) := by simp [World.cell?, p5]
          have b0 : w7.cell? ⟨w6.heap.size, 0, none⟩ = some (.int .i64 lf.entry) := by simp [World.cell?, p6]
          have b1 : w7.cell? ⟨w6.heap.size, 1, none⟩ = some (.int .i64 lf.ending) := by simp [World.cell?, p6]
          have b2 : w7.cell? ⟨w6.heap.size, 2, none⟩ = some (.slice S6 lf.clitics.length k6) := by simp [World.cell?, p6]
          have HB7 := Lib.hid hb7
          clear hb7 p5 p6
          go_wp2_with (go_at_call 40; refine (HSG.out w7 HB7.out).mono ?_; rintro e8 w8 ⟨rfl, hb8⟩)
          have H9 := Lib.hid (H8.out.trans (hb8.mono H8.out.size))
          clear hb8 a0 a1 a2 b0 b1 b2
          go_wp2_with (go_at_call 12; refine (works_any _).mono ?_; rintro e9 w9 ⟨rfl, hb9⟩)
          go_ret
          exact ⟨rfl, HBA.out.trans ((H9.out.trans (hb9.mono H9.out.size)).mono HBA.out.size)⟩
  · clear hbig
    go_wp2_with (go_at_call 12; refine (works_any _).mono ?_; rintro e2 w2 ⟨rfl, hb2⟩)
    go_ret
    exact ⟨rfl, HBA.out.trans ((H1.out.trans (hb2.mono H1.out.size)).mono HBA.out.size)⟩
end Go.Proofs.YtpmfjndbckblfaaDoor
