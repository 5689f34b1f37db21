/- The reference's Copy: an equal lexicon in new memory. Made by gen_copy.py. -/
import Derived.Test.YtpmnpnlfgfleeaaGreatDoorMgMem
import Derived.Deep.Light
namespace Go.Proofs.YtpmnpnlfgfleeaaGreatDoor
open Go.RowKit

def dn (d : Array Bool) (j : Nat) : Prop := d.getD j false = true
theorem dn_of {d : Array Bool} {i j : Nat} (hi : i < d.size) (h : dn (d.setIfInBounds i true) j) (hne : j ≠ i) : dn d j :=
  ((getD_set hi).1 h).resolve_left hne

theorem dn_up {d : Array Bool} {i j : Nat} (h : dn d j) : dn (d.setIfInBounds i true) j := by
  by_cases hi : i < d.size
  · exact (getD_set hi).2 (.inr h)
  · unfold dn at *; rwa [Array.setIfInBounds_eq_of_size_le (by omega)]
theorem own_form {w : World} {base : Nat} {e : TypeId} {size n : Nat} {v : Value} {xs : List Value} (h : w.ownsRow base e size v n xs) : ∃ A c, v = .slice A n c := by
  rcases h.2 with ⟨rfl, rfl⟩ | ⟨g, cap, cur, rfl, _⟩
  · exact ⟨_, _, rfl⟩
  · exact ⟨_, _, rfl⟩
theorem start_res (w : World) (A : Obj) {B : Obj} : ((w.alloc A).alloc B).drew.heap[w.heap.size + 1]? = some B := by
  have q := heap_alloc_new (w.alloc A) B
  have hs : (w.alloc A).heap.size = w.heap.size + 1 := by simp
  rw [hs] at q
  exact q
theorem not_dn {d : Array Bool} {i : Nat} (hi : i < d.size) (h : d.getD i true = false) : ¬ dn d i := by
  unfold dn; simp [Array.getD, hi] at h ⊢; simpa using h
theorem dn_self {d : Array Bool} {i : Nat} (hi : i < d.size) : dn (d.setIfInBounds i true) i := (getD_set hi).2 (.inl rfl)

/-- What holds of the slots and the world, whatever has been done. -/
structure CopyR (w : World) (v0 v1 v2 : Value) (x : Lx.Lexicon) (d : Array Bool) (s3 s4 s5 s6 s7 s8 s9 s10 s11 s12 s13 s14 s15 : Value) (wc : World) : Prop where
  bel : Below (w.heap.size + 1) (w.alloc (.cells #[v0, v1, v2] 26)) wc
  siz : w.heap.size + 2 ≤ wc.heap.size
  res : ∃ r0 r1 r2, wc.heap[w.heap.size + 1]? = some (.cells #[r0, r1, r2] 26) ∧ (dn d 13 → r0 = s6 ∧ r1 = s10 ∧ r2 = s14)
  own0 : dn d 0 → ¬ dn d 3 → wc.ownsRow (w.heap.size + 2) 57 4 s3 0 []
  adr0 : dn d 1 → s4 = .pointer (some ⟨w.heap.size, 0, none⟩)
  val0 : dn d 2 → s5 = v0
  got0 : dn d 3 → wc.ownsRow (w.heap.size + 2) 57 4 s6 x.entries.length (x.entries.flatMap encEntry)
  own1 : dn d 4 → ¬ dn d 7 → wc.ownsRow (w.heap.size + 2) 55 4 s7 0 []
  adr1 : dn d 5 → s8 = .pointer (some ⟨w.heap.size, 1, none⟩)
  val1 : dn d 6 → s9 = v1
  got1 : dn d 7 → wc.ownsRow (w.heap.size + 2) 55 4 s10 x.endings.length (x.endings.flatMap encEnding)
  own2 : dn d 8 → ¬ dn d 11 → wc.ownsRow (w.heap.size + 2) 65 3 s11 0 []
  adr2 : dn d 9 → s12 = .pointer (some ⟨w.heap.size, 2, none⟩)
  val2 : dn d 10 → s13 = v2
  got2 : dn d 11 → wc.ownsRow (w.heap.size + 2) 65 3 s14 x.clitics.length (x.clitics.flatMap encClitic)
  pre : dn d 12 ∨ dn d 13 → dn d 3 ∧ dn d 7 ∧ dn d 11
  all : dn d 12 → s15 = .agg #[s6, s10, s14]

def CopyI (w : World) (v0 v1 v2 : Value) (x : Lx.Lexicon) (d : Array Bool) (a : Act) (wc : World) : Prop :=
  ∃ s3 s4 s5 s6 s7 s8 s9 s10 s11 s12 s13 s14 s15 : Value, a = ⟨#[.agg #[v0, v1, v2], .pointer (some ⟨w.heap.size, 0, none⟩), .pointer (some ⟨w.heap.size + 1, 0, none⟩), s3, s4, s5, s6, s7, s8, s9, s10, s11, s12, s13, s14, s15], []⟩ ∧ CopyR w v0 v1 v2 x d s3 s4 s5 s6 s7 s8 s9 s10 s11 s12 s13 s14 s15 wc

section
variable {w : World} {v0 v1 v2 : Value} {x : Lx.Lexicon}

set_option maxRecDepth 100000 in
set_option maxHeartbeats 2000000 in
theorem rCopy_any (v : Value) (x : Lx.Lexicon) (w : World) (hr : RdL w w.heap.size v x) (h0 : x.entries.length ≤ 1000) (h1 : x.endings.length ≤ 1000) (h2 : x.clitics.length ≤ 1000) :
    Calls Tryz.prog 9 #[v] w (fun e w' => ∃ v', e = .returned v' ∧ RdL w' w'.heap.size v' x ∧ Below w.heap.size w w') := by
  obtain ⟨⟨v0, v1, v2, rfl, hr0, hr1, hr2⟩, fe, fn, fc⟩ := hr
  have HR0 := Lib.hid hr0
  have HR1 := Lib.hid hr1
  have HR2 := Lib.hid hr2
  clear hr0 hr1 hr2
  obtain ⟨i0, hi0, hz0, hs0, hb0⟩ := info_parts info_Entry
  obtain ⟨i1, hi1, hz1, hs1, hb1⟩ := info_parts info_Ending
  obtain ⟨i2, hi2, hz2, hs2, hb2⟩ := info_parts info_Clitic
  go_enter Tryz.func9, Tryz.ntmps9
  go_wp2_with fail
  refine wp_region_inv (CopyI w v0 v1 v2 x) (by kernel_rfl) (by kernel_rfl) ?h0 ?hstep ?hend
  case h0 =>
    refine ⟨undef, undef, undef, undef, undef, undef, undef, undef, undef, undef, undef, undef, undef, rfl, ?_⟩
    have hno : ∀ j, ¬ dn (Array.replicate 14 false) j := by
      intro j; unfold dn; by_cases hj : j < 14 <;> simp [Array.getD, hj]
    exact { bel := (((Below.refl _ _).alloc (by simp) _).drew), siz := (by simp), res := ⟨.slice none 0 0, .slice none 0 0, .slice none 0 0, start_res w _, fun hj => absurd hj (hno 13)⟩,
            own0 := fun hj => absurd hj (hno _), adr0 := fun hj => absurd hj (hno _), val0 := fun hj => absurd hj (hno _), got0 := fun hj => absurd hj (hno _),
            own1 := fun hj => absurd hj (hno _), adr1 := fun hj => absurd hj (hno _), val1 := fun hj => absurd hj (hno _), got1 := fun hj => absurd hj (hno _),
            own2 := fun hj => absurd hj (hno _), adr2 := fun hj => absurd hj (hno _), val2 := fun hj => absurd hj (hno _), got2 := fun hj => absurd hj (hno _),
            pre := fun hj => absurd hj (fun hh => hh.elim (hno 12) (hno 13)), all := fun hj => absurd hj (hno _) }
  case hend =>
    intro d a wc hd hI hall
    obtain ⟨s3, s4, s5, s6, s7, s8, s9, s10, s11, s12, s13, s14, s15, rfl, h⟩ := hI
    have hd14 : d.size = 14 := hd
    have hdn : ∀ j, j < 14 → dn d j := by
      intro j hj
      have := hall j hj
      unfold dn
      simp [Array.getD, hd14, hj] at this ⊢
      exact this
    obtain ⟨r0, r1, r2, e1, e2⟩ := h.res
    obtain ⟨rfl, rfl, rfl⟩ := e2 (hdn 13 (by omega))
    have g0 := rds_of_own len_entry (h.got0 (hdn 3 (by omega)))
    have g1 := rds_of_own len_ending (h.got1 (hdn 7 (by omega)))
    have g2 := rds_of_own len_clitic (h.got2 (hdn 11 (by omega)))
    have hb := ((Below.refl w.heap.size w).alloc (Nat.le_refl _) _).trans (h.bel.mono (Nat.le_succ _))
    have c0 : wc.cell? ⟨w.heap.size + 1, 0, none⟩ = some r0 := by simp [World.cell?, e1]
    have c1 : wc.cell? ⟨w.heap.size + 1, 1, none⟩ = some r1 := by simp [World.cell?, e1]
    have c2 : wc.cell? ⟨w.heap.size + 1, 2, none⟩ = some r2 := by simp [World.cell?, e1]
    have HL : Hid (RdL wc wc.heap.size (.agg #[r0, r1, r2]) x) := Lib.hid ⟨⟨_, _, _, rfl, g0, g1, g2⟩, fe, fn, fc⟩
    have HB := Lib.hid hb
    clear g0 g1 g2 hb h hdn hall e1 e2
    go_wp2_with fail
    exact bodyPost_ret (v := .agg #[r0, r1, r2]) (by simp [results, Tryz.results9, go_sem, c0, c1, c2]) rfl ⟨_, rfl, HL.out, HB.out⟩
  case hstep =>
    intro d a wc i hd hI hi
    obtain ⟨hlt, hnd, hpre⟩ := mem_ready hi
    have hd' : d.size = 14 := hd
    have hi14 : i < 14 := hlt
    clear hi hd hlt
    obtain ⟨s3, s4, s5, s6, s7, s8, s9, s10, s11, s12, s13, s14, s15, rfl, h⟩ := hI
    have hcs : i = 0 ∨ i = 1 ∨ i = 2 ∨ i = 3 ∨ i = 4 ∨ i = 5 ∨ i = 6 ∨ i = 7 ∨ i = 8 ∨ i = 9 ∨ i = 10 ∨ i = 11 ∨ i = 12 ∨ i = 13 := by omega
    rcases hcs with rfl | rfl | rfl | rfl | rfl | rfl | rfl | rfl | rfl | rfl | rfl | rfl | rfl | rfl
    · have hi : 0 < d.size := by omega
      refine wpOp_plain rfl rfl ?_
      go_simp
      refine ⟨_, s4, s5, s6, s7, s8, s9, s10, s11, s12, s13, s14, s15, rfl, ?_⟩
      exact { bel := h.bel.alloc (by have := h.siz; omega) _, siz := by have := h.siz; simp; omega, res := by obtain ⟨r0, r1, r2, e1, e2⟩ := h.res; exact ⟨r0, r1, r2, by rw [Below.heap_alloc _ _ _ (by have := h.siz; omega)]; exact e1, fun hj => e2 (dn_of hi hj (by decide))⟩, own0 := fun _ _ => by have := World.ownsRow_lit (w := wc) (base := w.heap.size + 2) (e := 57) (size := 4) #[] 0 h.siz (by decide) (by simp); simpa using this, adr0 := fun hj => h.adr0 (dn_of hi hj (by decide)), val0 := fun hj => h.val0 (dn_of hi hj (by decide)), got0 := fun hj => (h.got0 (dn_of hi hj (by decide))).alloc _, own1 := fun hj hk => (h.own1 (dn_of hi hj (by decide)) (fun hh => hk (dn_up hh))).alloc _, adr1 := fun hj => h.adr1 (dn_of hi hj (by decide)), val1 := fun hj => h.val1 (dn_of hi hj (by decide)), got1 := fun hj => (h.got1 (dn_of hi hj (by decide))).alloc _, own2 := fun hj hk => (h.own2 (dn_of hi hj (by decide)) (fun hh => hk (dn_up hh))).alloc _, adr2 := fun hj => h.adr2 (dn_of hi hj (by decide)), val2 := fun hj => h.val2 (dn_of hi hj (by decide)), got2 := fun hj => (h.got2 (dn_of hi hj (by decide))).alloc _, pre := fun hj => (fun q => ⟨dn_up q.1, dn_up q.2.1, dn_up q.2.2⟩) (h.pre (hj.imp (fun q => dn_of hi q (by decide)) (fun q => dn_of hi q (by decide)))), all := fun hj => h.all (dn_of hi hj (by decide)) }
    · have hi : 1 < d.size := by omega
      refine wpOp_plain rfl rfl ?_
      go_simp
      refine ⟨s3, _, s5, s6, s7, s8, s9, s10, s11, s12, s13, s14, s15, rfl, ?_⟩
      exact { bel := h.bel, siz := h.siz, res := by obtain ⟨r0, r1, r2, e1, e2⟩ := h.res; exact ⟨r0, r1, r2, e1, fun hj => e2 (dn_of hi hj (by decide))⟩, own0 := fun hj hk => (h.own0 (dn_of hi hj (by decide)) (fun hh => hk (dn_up hh))), adr0 := fun _ => rfl, val0 := fun hj => h.val0 (dn_of hi hj (by decide)), got0 := fun hj => (h.got0 (dn_of hi hj (by decide))), own1 := fun hj hk => (h.own1 (dn_of hi hj (by decide)) (fun hh => hk (dn_up hh))), adr1 := fun hj => h.adr1 (dn_of hi hj (by decide)), val1 := fun hj => h.val1 (dn_of hi hj (by decide)), got1 := fun hj => (h.got1 (dn_of hi hj (by decide))), own2 := fun hj hk => (h.own2 (dn_of hi hj (by decide)) (fun hh => hk (dn_up hh))), adr2 := fun hj => h.adr2 (dn_of hi hj (by decide)), val2 := fun hj => h.val2 (dn_of hi hj (by decide)), got2 := fun hj => (h.got2 (dn_of hi hj (by decide))), pre := fun hj => (fun q => ⟨dn_up q.1, dn_up q.2.1, dn_up q.2.2⟩) (h.pre (hj.imp (fun q => dn_of hi q (by decide)) (fun q => dn_of hi q (by decide)))), all := fun hj => h.all (dn_of hi hj (by decide)) }
    · have hi : 2 < d.size := by omega
      refine wpOp_plain rfl rfl ?_
      have e := h.adr0 (hpre _ rfl ⟨1, .data⟩ (by simp) rfl)
      subst e
      have hc : wc.cell? ⟨w.heap.size, 0, none⟩ = some v0 := by rw [h.bel.cell (by simp)]; simp
      go_simp
      refine ⟨s3, _, _, s6, s7, s8, s9, s10, s11, s12, s13, s14, s15, rfl, ?_⟩
      exact { bel := h.bel, siz := h.siz, res := by obtain ⟨r0, r1, r2, e1, e2⟩ := h.res; exact ⟨r0, r1, r2, e1, fun hj => e2 (dn_of hi hj (by decide))⟩, own0 := fun hj hk => (h.own0 (dn_of hi hj (by decide)) (fun hh => hk (dn_up hh))), adr0 := fun hj => h.adr0 (dn_of hi hj (by decide)), val0 := fun _ => rfl, got0 := fun hj => (h.got0 (dn_of hi hj (by decide))), own1 := fun hj hk => (h.own1 (dn_of hi hj (by decide)) (fun hh => hk (dn_up hh))), adr1 := fun hj => h.adr1 (dn_of hi hj (by decide)), val1 := fun hj => h.val1 (dn_of hi hj (by decide)), got1 := fun hj => (h.got1 (dn_of hi hj (by decide))), own2 := fun hj hk => (h.own2 (dn_of hi hj (by decide)) (fun hh => hk (dn_up hh))), adr2 := fun hj => h.adr2 (dn_of hi hj (by decide)), val2 := fun hj => h.val2 (dn_of hi hj (by decide)), got2 := fun hj => (h.got2 (dn_of hi hj (by decide))), pre := fun hj => (fun q => ⟨dn_up q.1, dn_up q.2.1, dn_up q.2.2⟩) (h.pre (hj.imp (fun q => dn_of hi q (by decide)) (fun q => dn_of hi q (by decide)))), all := fun hj => h.all (dn_of hi hj (by decide)) }
    · have hi : 3 < d.size := by omega
      refine wpOp_plain rfl rfl ?_
      have hown := h.own0 (hpre _ rfl ⟨0, .data⟩ (by simp) rfl) (not_dn hi hnd)
      have hval := h.val0 (hpre _ rfl ⟨2, .data⟩ (by simp) rfl)
      refine wp_append_rd (enc := encEntry) (.tmp 3) (.tmp 5) _ rfl (w.heap.size + 2) 57 i0 _ 4 48 len_entry one_entry Tryz.underlying22 hi0 hz0 hs0 hb0 rfl (by decide) s3 0 [] rfl hown _ v0 x.entries hval ((HR0.out.below ((Below.refl w.heap.size w).alloc (Nat.le_refl _) _)).below (h.bel.mono (Nat.le_succ _))) (by simp only [maxLen]; omega) (by omega) h.siz ?_
      intro v' w' hown' hg hat
      simp only [Nat.zero_add, List.nil_append] at hown'
      refine ⟨s3, s4, s5, _, s7, s8, s9, s10, s11, s12, s13, s14, s15, rfl, ?_⟩
      exact { bel := below_own_grown h.bel hg hown (by omega) (by have := h.siz; omega), siz := Nat.le_trans h.siz hg.size, res := by obtain ⟨r0, r1, r2, e1, e2⟩ := h.res; exact ⟨r0, r1, r2, by rw [hg.block _ (by have := h.siz; omega) (fun e => by have := (hown.lt _ e.symm).1; omega)]; exact e1, fun hj => absurd (h.pre (.inr (dn_of hi hj (by decide)))).1 (not_dn hi hnd)⟩, own0 := fun hj hk => absurd (dn_self hi) hk, adr0 := fun hj => h.adr0 (dn_of hi hj (by decide)), val0 := fun hj => h.val0 (dn_of hi hj (by decide)), got0 := fun _ => hown', own1 := fun hj hk => by have ho := (h.own1 (dn_of hi hj (by decide)) (fun hh => hk (dn_up hh))); exact ho.kept hg (own_apart ho hown (by decide)), adr1 := fun hj => h.adr1 (dn_of hi hj (by decide)), val1 := fun hj => h.val1 (dn_of hi hj (by decide)), got1 := fun hj => by have ho := (h.got1 (dn_of hi hj (by decide))); exact ho.kept hg (own_apart ho hown (by decide)), own2 := fun hj hk => by have ho := (h.own2 (dn_of hi hj (by decide)) (fun hh => hk (dn_up hh))); exact ho.kept hg (own_apart ho hown (by decide)), adr2 := fun hj => h.adr2 (dn_of hi hj (by decide)), val2 := fun hj => h.val2 (dn_of hi hj (by decide)), got2 := fun hj => by have ho := (h.got2 (dn_of hi hj (by decide))); exact ho.kept hg (own_apart ho hown (by decide)), pre := fun hj => (fun q => ⟨dn_up q.1, dn_up q.2.1, dn_up q.2.2⟩) (h.pre (hj.imp (fun q => dn_of hi q (by decide)) (fun q => dn_of hi q (by decide)))), all := fun hj => absurd (h.pre (.inl (dn_of hi hj (by decide)))).1 (not_dn hi hnd) }
    · have hi : 4 < d.size := by omega
      refine wpOp_plain rfl rfl ?_
      go_simp
      refine ⟨s3, s4, s5, s6, _, s8, s9, s10, s11, s12, s13, s14, s15, rfl, ?_⟩
      exact { bel := h.bel.alloc (by have := h.siz; omega) _, siz := by have := h.siz; simp; omega, res := by obtain ⟨r0, r1, r2, e1, e2⟩ := h.res; exact ⟨r0, r1, r2, by rw [Below.heap_alloc _ _ _ (by have := h.siz; omega)]; exact e1, fun hj => e2 (dn_of hi hj (by decide))⟩, own0 := fun hj hk => (h.own0 (dn_of hi hj (by decide)) (fun hh => hk (dn_up hh))).alloc _, adr0 := fun hj => h.adr0 (dn_of hi hj (by decide)), val0 := fun hj => h.val0 (dn_of hi hj (by decide)), got0 := fun hj => (h.got0 (dn_of hi hj (by decide))).alloc _, own1 := fun _ _ => by have := World.ownsRow_lit (w := wc) (base := w.heap.size + 2) (e := 55) (size := 4) #[] 0 h.siz (by decide) (by simp); simpa using this, adr1 := fun hj => h.adr1 (dn_of hi hj (by decide)), val1 := fun hj => h.val1 (dn_of hi hj (by decide)), got1 := fun hj => (h.got1 (dn_of hi hj (by decide))).alloc _, own2 := fun hj hk => (h.own2 (dn_of hi hj (by decide)) (fun hh => hk (dn_up hh))).alloc _, adr2 := fun hj => h.adr2 (dn_of hi hj (by decide)), val2 := fun hj => h.val2 (dn_of hi hj (by decide)), got2 := fun hj => (h.got2 (dn_of hi hj (by decide))).alloc _, pre := fun hj => (fun q => ⟨dn_up q.1, dn_up q.2.1, dn_up q.2.2⟩) (h.pre (hj.imp (fun q => dn_of hi q (by decide)) (fun q => dn_of hi q (by decide)))), all := fun hj => h.all (dn_of hi hj (by decide)) }
    · have hi : 5 < d.size := by omega
      refine wpOp_plain rfl rfl ?_
      go_simp
      refine ⟨s3, s4, s5, s6, s7, _, s9, s10, s11, s12, s13, s14, s15, rfl, ?_⟩
      exact { bel := h.bel, siz := h.siz, res := by obtain ⟨r0, r1, r2, e1, e2⟩ := h.res; exact ⟨r0, r1, r2, e1, fun hj => e2 (dn_of hi hj (by decide))⟩, own0 := fun hj hk => (h.own0 (dn_of hi hj (by decide)) (fun hh => hk (dn_up hh))), adr0 := fun hj => h.adr0 (dn_of hi hj (by decide)), val0 := fun hj => h.val0 (dn_of hi hj (by decide)), got0 := fun hj => (h.got0 (dn_of hi hj (by decide))), own1 := fun hj hk => (h.own1 (dn_of hi hj (by decide)) (fun hh => hk (dn_up hh))), adr1 := fun _ => rfl, val1 := fun hj => h.val1 (dn_of hi hj (by decide)), got1 := fun hj => (h.got1 (dn_of hi hj (by decide))), own2 := fun hj hk => (h.own2 (dn_of hi hj (by decide)) (fun hh => hk (dn_up hh))), adr2 := fun hj => h.adr2 (dn_of hi hj (by decide)), val2 := fun hj => h.val2 (dn_of hi hj (by decide)), got2 := fun hj => (h.got2 (dn_of hi hj (by decide))), pre := fun hj => (fun q => ⟨dn_up q.1, dn_up q.2.1, dn_up q.2.2⟩) (h.pre (hj.imp (fun q => dn_of hi q (by decide)) (fun q => dn_of hi q (by decide)))), all := fun hj => h.all (dn_of hi hj (by decide)) }
    · have hi : 6 < d.size := by omega
      refine wpOp_plain rfl rfl ?_
      have e := h.adr1 (hpre _ rfl ⟨5, .data⟩ (by simp) rfl)
      subst e
      have hc : wc.cell? ⟨w.heap.size, 1, none⟩ = some v1 := by rw [h.bel.cell (by simp)]; simp
      go_simp
      refine ⟨s3, s4, s5, s6, s7, _, _, s10, s11, s12, s13, s14, s15, rfl, ?_⟩
      exact { bel := h.bel, siz := h.siz, res := by obtain ⟨r0, r1, r2, e1, e2⟩ := h.res; exact ⟨r0, r1, r2, e1, fun hj => e2 (dn_of hi hj (by decide))⟩, own0 := fun hj hk => (h.own0 (dn_of hi hj (by decide)) (fun hh => hk (dn_up hh))), adr0 := fun hj => h.adr0 (dn_of hi hj (by decide)), val0 := fun hj => h.val0 (dn_of hi hj (by decide)), got0 := fun hj => (h.got0 (dn_of hi hj (by decide))), own1 := fun hj hk => (h.own1 (dn_of hi hj (by decide)) (fun hh => hk (dn_up hh))), adr1 := fun hj => h.adr1 (dn_of hi hj (by decide)), val1 := fun _ => rfl, got1 := fun hj => (h.got1 (dn_of hi hj (by decide))), own2 := fun hj hk => (h.own2 (dn_of hi hj (by decide)) (fun hh => hk (dn_up hh))), adr2 := fun hj => h.adr2 (dn_of hi hj (by decide)), val2 := fun hj => h.val2 (dn_of hi hj (by decide)), got2 := fun hj => (h.got2 (dn_of hi hj (by decide))), pre := fun hj => (fun q => ⟨dn_up q.1, dn_up q.2.1, dn_up q.2.2⟩) (h.pre (hj.imp (fun q => dn_of hi q (by decide)) (fun q => dn_of hi q (by decide)))), all := fun hj => h.all (dn_of hi hj (by decide)) }
    · have hi : 7 < d.size := by omega
      refine wpOp_plain rfl rfl ?_
      have hown := h.own1 (hpre _ rfl ⟨4, .data⟩ (by simp) rfl) (not_dn hi hnd)
      have hval := h.val1 (hpre _ rfl ⟨6, .data⟩ (by simp) rfl)
      refine wp_append_rd (enc := encEnding) (.tmp 7) (.tmp 9) _ rfl (w.heap.size + 2) 55 i1 _ 4 48 len_ending one_ending Tryz.underlying23 hi1 hz1 hs1 hb1 rfl (by decide) s7 0 [] rfl hown _ v1 x.endings hval ((HR1.out.below ((Below.refl w.heap.size w).alloc (Nat.le_refl _) _)).below (h.bel.mono (Nat.le_succ _))) (by simp only [maxLen]; omega) (by omega) h.siz ?_
      intro v' w' hown' hg hat
      simp only [Nat.zero_add, List.nil_append] at hown'
      refine ⟨s3, s4, s5, s6, s7, s8, s9, _, s11, s12, s13, s14, s15, rfl, ?_⟩
      exact { bel := below_own_grown h.bel hg hown (by omega) (by have := h.siz; omega), siz := Nat.le_trans h.siz hg.size, res := by obtain ⟨r0, r1, r2, e1, e2⟩ := h.res; exact ⟨r0, r1, r2, by rw [hg.block _ (by have := h.siz; omega) (fun e => by have := (hown.lt _ e.symm).1; omega)]; exact e1, fun hj => absurd (h.pre (.inr (dn_of hi hj (by decide)))).2.1 (not_dn hi hnd)⟩, own0 := fun hj hk => by have ho := (h.own0 (dn_of hi hj (by decide)) (fun hh => hk (dn_up hh))); exact ho.kept hg (own_apart ho hown (by decide)), adr0 := fun hj => h.adr0 (dn_of hi hj (by decide)), val0 := fun hj => h.val0 (dn_of hi hj (by decide)), got0 := fun hj => by have ho := (h.got0 (dn_of hi hj (by decide))); exact ho.kept hg (own_apart ho hown (by decide)), own1 := fun hj hk => absurd (dn_self hi) hk, adr1 := fun hj => h.adr1 (dn_of hi hj (by decide)), val1 := fun hj => h.val1 (dn_of hi hj (by decide)), got1 := fun _ => hown', own2 := fun hj hk => by have ho := (h.own2 (dn_of hi hj (by decide)) (fun hh => hk (dn_up hh))); exact ho.kept hg (own_apart ho hown (by decide)), adr2 := fun hj => h.adr2 (dn_of hi hj (by decide)), val2 := fun hj => h.val2 (dn_of hi hj (by decide)), got2 := fun hj => by have ho := (h.got2 (dn_of hi hj (by decide))); exact ho.kept hg (own_apart ho hown (by decide)), pre := fun hj => (fun q => ⟨dn_up q.1, dn_up q.2.1, dn_up q.2.2⟩) (h.pre (hj.imp (fun q => dn_of hi q (by decide)) (fun q => dn_of hi q (by decide)))), all := fun hj => absurd (h.pre (.inl (dn_of hi hj (by decide)))).2.1 (not_dn hi hnd) }
    · have hi : 8 < d.size := by omega
      refine wpOp_plain rfl rfl ?_
      go_simp
      refine ⟨s3, s4, s5, s6, s7, s8, s9, s10, _, s12, s13, s14, s15, rfl, ?_⟩
      exact { bel := h.bel.alloc (by have := h.siz; omega) _, siz := by have := h.siz; simp; omega, res := by obtain ⟨r0, r1, r2, e1, e2⟩ := h.res; exact ⟨r0, r1, r2, by rw [Below.heap_alloc _ _ _ (by have := h.siz; omega)]; exact e1, fun hj => e2 (dn_of hi hj (by decide))⟩, own0 := fun hj hk => (h.own0 (dn_of hi hj (by decide)) (fun hh => hk (dn_up hh))).alloc _, adr0 := fun hj => h.adr0 (dn_of hi hj (by decide)), val0 := fun hj => h.val0 (dn_of hi hj (by decide)), got0 := fun hj => (h.got0 (dn_of hi hj (by decide))).alloc _, own1 := fun hj hk => (h.own1 (dn_of hi hj (by decide)) (fun hh => hk (dn_up hh))).alloc _, adr1 := fun hj => h.adr1 (dn_of hi hj (by decide)), val1 := fun hj => h.val1 (dn_of hi hj (by decide)), got1 := fun hj => (h.got1 (dn_of hi hj (by decide))).alloc _, own2 := fun _ _ => by have := World.ownsRow_lit (w := wc) (base := w.heap.size + 2) (e := 65) (size := 3) #[] 0 h.siz (by decide) (by simp); simpa using this, adr2 := fun hj => h.adr2 (dn_of hi hj (by decide)), val2 := fun hj => h.val2 (dn_of hi hj (by decide)), got2 := fun hj => (h.got2 (dn_of hi hj (by decide))).alloc _, pre := fun hj => (fun q => ⟨dn_up q.1, dn_up q.2.1, dn_up q.2.2⟩) (h.pre (hj.imp (fun q => dn_of hi q (by decide)) (fun q => dn_of hi q (by decide)))), all := fun hj => h.all (dn_of hi hj (by decide)) }
    · have hi : 9 < d.size := by omega
      refine wpOp_plain rfl rfl ?_
      go_simp
      refine ⟨s3, s4, s5, s6, s7, s8, s9, s10, s11, _, s13, s14, s15, rfl, ?_⟩
      exact { bel := h.bel, siz := h.siz, res := by obtain ⟨r0, r1, r2, e1, e2⟩ := h.res; exact ⟨r0, r1, r2, e1, fun hj => e2 (dn_of hi hj (by decide))⟩, own0 := fun hj hk => (h.own0 (dn_of hi hj (by decide)) (fun hh => hk (dn_up hh))), adr0 := fun hj => h.adr0 (dn_of hi hj (by decide)), val0 := fun hj => h.val0 (dn_of hi hj (by decide)), got0 := fun hj => (h.got0 (dn_of hi hj (by decide))), own1 := fun hj hk => (h.own1 (dn_of hi hj (by decide)) (fun hh => hk (dn_up hh))), adr1 := fun hj => h.adr1 (dn_of hi hj (by decide)), val1 := fun hj => h.val1 (dn_of hi hj (by decide)), got1 := fun hj => (h.got1 (dn_of hi hj (by decide))), own2 := fun hj hk => (h.own2 (dn_of hi hj (by decide)) (fun hh => hk (dn_up hh))), adr2 := fun _ => rfl, val2 := fun hj => h.val2 (dn_of hi hj (by decide)), got2 := fun hj => (h.got2 (dn_of hi hj (by decide))), pre := fun hj => (fun q => ⟨dn_up q.1, dn_up q.2.1, dn_up q.2.2⟩) (h.pre (hj.imp (fun q => dn_of hi q (by decide)) (fun q => dn_of hi q (by decide)))), all := fun hj => h.all (dn_of hi hj (by decide)) }
    · have hi : 10 < d.size := by omega
      refine wpOp_plain rfl rfl ?_
      have e := h.adr2 (hpre _ rfl ⟨9, .data⟩ (by simp) rfl)
      subst e
      have hc : wc.cell? ⟨w.heap.size, 2, none⟩ = some v2 := by rw [h.bel.cell (by simp)]; simp
      go_simp
      refine ⟨s3, s4, s5, s6, s7, s8, s9, s10, s11, _, _, s14, s15, rfl, ?_⟩
      exact { bel := h.bel, siz := h.siz, res := by obtain ⟨r0, r1, r2, e1, e2⟩ := h.res; exact ⟨r0, r1, r2, e1, fun hj => e2 (dn_of hi hj (by decide))⟩, own0 := fun hj hk => (h.own0 (dn_of hi hj (by decide)) (fun hh => hk (dn_up hh))), adr0 := fun hj => h.adr0 (dn_of hi hj (by decide)), val0 := fun hj => h.val0 (dn_of hi hj (by decide)), got0 := fun hj => (h.got0 (dn_of hi hj (by decide))), own1 := fun hj hk => (h.own1 (dn_of hi hj (by decide)) (fun hh => hk (dn_up hh))), adr1 := fun hj => h.adr1 (dn_of hi hj (by decide)), val1 := fun hj => h.val1 (dn_of hi hj (by decide)), got1 := fun hj => (h.got1 (dn_of hi hj (by decide))), own2 := fun hj hk => (h.own2 (dn_of hi hj (by decide)) (fun hh => hk (dn_up hh))), adr2 := fun hj => h.adr2 (dn_of hi hj (by decide)), val2 := fun _ => rfl, got2 := fun hj => (h.got2 (dn_of hi hj (by decide))), pre := fun hj => (fun q => ⟨dn_up q.1, dn_up q.2.1, dn_up q.2.2⟩) (h.pre (hj.imp (fun q => dn_of hi q (by decide)) (fun q => dn_of hi q (by decide)))), all := fun hj => h.all (dn_of hi hj (by decide)) }
    · have hi : 11 < d.size := by omega
      refine wpOp_plain rfl rfl ?_
      have hown := h.own2 (hpre _ rfl ⟨8, .data⟩ (by simp) rfl) (not_dn hi hnd)
      have hval := h.val2 (hpre _ rfl ⟨10, .data⟩ (by simp) rfl)
      refine wp_append_rd (enc := encClitic) (.tmp 11) (.tmp 13) _ rfl (w.heap.size + 2) 65 i2 _ 3 40 len_clitic one_clitic Tryz.underlying24 hi2 hz2 hs2 hb2 rfl (by decide) s11 0 [] rfl hown _ v2 x.clitics hval ((HR2.out.below ((Below.refl w.heap.size w).alloc (Nat.le_refl _) _)).below (h.bel.mono (Nat.le_succ _))) (by simp only [maxLen]; omega) (by omega) h.siz ?_
      intro v' w' hown' hg hat
      simp only [Nat.zero_add, List.nil_append] at hown'
      refine ⟨s3, s4, s5, s6, s7, s8, s9, s10, s11, s12, s13, _, s15, rfl, ?_⟩
      exact { bel := below_own_grown h.bel hg hown (by omega) (by have := h.siz; omega), siz := Nat.le_trans h.siz hg.size, res := by obtain ⟨r0, r1, r2, e1, e2⟩ := h.res; exact ⟨r0, r1, r2, by rw [hg.block _ (by have := h.siz; omega) (fun e => by have := (hown.lt _ e.symm).1; omega)]; exact e1, fun hj => absurd (h.pre (.inr (dn_of hi hj (by decide)))).2.2 (not_dn hi hnd)⟩, own0 := fun hj hk => by have ho := (h.own0 (dn_of hi hj (by decide)) (fun hh => hk (dn_up hh))); exact ho.kept hg (own_apart ho hown (by decide)), adr0 := fun hj => h.adr0 (dn_of hi hj (by decide)), val0 := fun hj => h.val0 (dn_of hi hj (by decide)), got0 := fun hj => by have ho := (h.got0 (dn_of hi hj (by decide))); exact ho.kept hg (own_apart ho hown (by decide)), own1 := fun hj hk => by have ho := (h.own1 (dn_of hi hj (by decide)) (fun hh => hk (dn_up hh))); exact ho.kept hg (own_apart ho hown (by decide)), adr1 := fun hj => h.adr1 (dn_of hi hj (by decide)), val1 := fun hj => h.val1 (dn_of hi hj (by decide)), got1 := fun hj => by have ho := (h.got1 (dn_of hi hj (by decide))); exact ho.kept hg (own_apart ho hown (by decide)), own2 := fun hj hk => absurd (dn_self hi) hk, adr2 := fun hj => h.adr2 (dn_of hi hj (by decide)), val2 := fun hj => h.val2 (dn_of hi hj (by decide)), got2 := fun _ => hown', pre := fun hj => (fun q => ⟨dn_up q.1, dn_up q.2.1, dn_up q.2.2⟩) (h.pre (hj.imp (fun q => dn_of hi q (by decide)) (fun q => dn_of hi q (by decide)))), all := fun hj => absurd (h.pre (.inl (dn_of hi hj (by decide)))).2.2 (not_dn hi hnd) }
    · have hi : 12 < d.size := by omega
      refine wpOp_plain rfl rfl ?_
      obtain ⟨A3, c3, e3⟩ := own_form (h.got0 (hpre _ rfl ⟨3, .data⟩ (by simp) rfl))
      obtain ⟨A7, c7, e7⟩ := own_form (h.got1 (hpre _ rfl ⟨7, .data⟩ (by simp) rfl))
      obtain ⟨A11, c11, e11⟩ := own_form (h.got2 (hpre _ rfl ⟨11, .data⟩ (by simp) rfl))
      subst e3 e7 e11
      go_simp
      refine ⟨_, _, _, _, _, _, _, _, _, _, _, _, _, rfl, ?_⟩
      exact { bel := h.bel, siz := h.siz, res := by obtain ⟨r0, r1, r2, e1, e2⟩ := h.res; exact ⟨r0, r1, r2, e1, fun hj => e2 (dn_of hi hj (by decide))⟩, own0 := fun hj hk => (h.own0 (dn_of hi hj (by decide)) (fun hh => hk (dn_up hh))), adr0 := fun hj => h.adr0 (dn_of hi hj (by decide)), val0 := fun hj => h.val0 (dn_of hi hj (by decide)), got0 := fun hj => (h.got0 (dn_of hi hj (by decide))), own1 := fun hj hk => (h.own1 (dn_of hi hj (by decide)) (fun hh => hk (dn_up hh))), adr1 := fun hj => h.adr1 (dn_of hi hj (by decide)), val1 := fun hj => h.val1 (dn_of hi hj (by decide)), got1 := fun hj => (h.got1 (dn_of hi hj (by decide))), own2 := fun hj hk => (h.own2 (dn_of hi hj (by decide)) (fun hh => hk (dn_up hh))), adr2 := fun hj => h.adr2 (dn_of hi hj (by decide)), val2 := fun hj => h.val2 (dn_of hi hj (by decide)), got2 := fun hj => (h.got2 (dn_of hi hj (by decide))), pre := fun _ => ⟨dn_up (hpre _ rfl ⟨3, .data⟩ (by simp) rfl), dn_up (hpre _ rfl ⟨7, .data⟩ (by simp) rfl), dn_up (hpre _ rfl ⟨11, .data⟩ (by simp) rfl)⟩, all := fun _ => rfl }
    · have hi : 13 < d.size := by omega
      refine wpOp_plain rfl rfl ?_
      have e := h.all (hpre _ rfl ⟨12, .data⟩ (by simp) rfl)
      subst e
      have q := h.pre (.inl (hpre _ rfl ⟨12, .data⟩ (by simp) rfl))
      obtain ⟨A3, c3, e3⟩ := own_form (h.got0 q.1)
      obtain ⟨A7, c7, e7⟩ := own_form (h.got1 q.2.1)
      obtain ⟨A11, c11, e11⟩ := own_form (h.got2 q.2.2)
      subst e3 e7 e11
      obtain ⟨r0, r1, r2, e1, e2⟩ := h.res
      have c0 : wc.cell? ⟨w.heap.size + 1, 0, none⟩ = some r0 := by simp [World.cell?, e1]
      have c1 : wc.cell? ⟨w.heap.size + 1, 1, none⟩ = some r1 := by simp [World.cell?, e1]
      have c2 : wc.cell? ⟨w.heap.size + 1, 2, none⟩ = some r2 := by simp [World.cell?, e1]
      have z0 : wc.frozen? ⟨w.heap.size + 1, 0, none⟩ = false := by simp [World.frozen?, e1]
      have z1 : wc.frozen? ⟨w.heap.size + 1, 1, none⟩ = false := by simp [World.frozen?, e1]
      have z2 : wc.frozen? ⟨w.heap.size + 1, 2, none⟩ = false := by simp [World.frozen?, e1]
      go_simp
      have B0 : ∀ W : World, Below (w.heap.size + 1) (w.alloc (.cells #[v0, v1, v2] 26)) W → ∀ j u, Below (w.heap.size + 1) (w.alloc (.cells #[v0, v1, v2] 26)) (W.setCell ⟨w.heap.size + 1, j, none⟩ u) := fun W hW j u => hW.setCell (by simp) u
      refine ⟨_, _, _, _, _, _, _, _, _, _, _, _, _, rfl, ?_⟩
      exact { bel := B0 _ (B0 _ (B0 _ h.bel _ _) _ _) _ _, siz := by have := h.siz; simpa [World.setCell] using this, res := ⟨_, _, _, by simp [World.setCell, Array.getElem?_modify, e1], fun _ => ⟨rfl, rfl, rfl⟩⟩, own0 := fun hj hk => ownsRow_setCell_below (ownsRow_setCell_below (ownsRow_setCell_below (h.own0 (dn_of hi hj (by decide)) (fun hh => hk (dn_up hh))) (by simp) _) (by simp) _) (by simp) _, adr0 := fun hj => h.adr0 (dn_of hi hj (by decide)), val0 := fun hj => h.val0 (dn_of hi hj (by decide)), got0 := fun hj => ownsRow_setCell_below (ownsRow_setCell_below (ownsRow_setCell_below (h.got0 (dn_of hi hj (by decide))) (by simp) _) (by simp) _) (by simp) _, own1 := fun hj hk => ownsRow_setCell_below (ownsRow_setCell_below (ownsRow_setCell_below (h.own1 (dn_of hi hj (by decide)) (fun hh => hk (dn_up hh))) (by simp) _) (by simp) _) (by simp) _, adr1 := fun hj => h.adr1 (dn_of hi hj (by decide)), val1 := fun hj => h.val1 (dn_of hi hj (by decide)), got1 := fun hj => ownsRow_setCell_below (ownsRow_setCell_below (ownsRow_setCell_below (h.got1 (dn_of hi hj (by decide))) (by simp) _) (by simp) _) (by simp) _, own2 := fun hj hk => ownsRow_setCell_below (ownsRow_setCell_below (ownsRow_setCell_below (h.own2 (dn_of hi hj (by decide)) (fun hh => hk (dn_up hh))) (by simp) _) (by simp) _) (by simp) _, adr2 := fun hj => h.adr2 (dn_of hi hj (by decide)), val2 := fun hj => h.val2 (dn_of hi hj (by decide)), got2 := fun hj => ownsRow_setCell_below (ownsRow_setCell_below (ownsRow_setCell_below (h.got2 (dn_of hi hj (by decide))) (by simp) _) (by simp) _) (by simp) _, pre := fun _ => (fun q => ⟨dn_up q.1, dn_up q.2.1, dn_up q.2.2⟩) (h.pre (.inl (hpre _ rfl ⟨12, .data⟩ (by simp) rfl))), all := fun _ => rfl }
end
end Go.Proofs.YtpmnpnlfgfleeaaGreatDoor
