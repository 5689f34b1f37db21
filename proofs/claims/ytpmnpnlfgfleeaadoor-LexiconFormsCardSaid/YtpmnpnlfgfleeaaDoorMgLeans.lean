/- lexicon.leans: the iterator over the lists of clitics. Made by gen_leans.py. -/
import Derived.Test.YtpmnpnlfgfleeaaDoorMgIter
import Derived.Test.YtpmnpnlfgfleeaaDoorMgFormsPlain
import Derived.Test.YtpmnpnlfgfleeaaDoorMgClone
import Derived.Test.YtpmnpnlfgfleeaaDoorMgRTails
import Derived.Test.YtpmnpnlfgfleeaaDoorMgRegion4
namespace Go.Proofs.YtpmnpnlfgfleeaaDoor
open Go Go.RowKit
attribute [local go_sem] Oper.semAt_some

/-- a mark among an activation's deferred calls -/
def mark (D : Nat) : Deferred := { target := .collected D, args := #[] }
/-- what leans yields -/
def EInts (l : List Int) (w : World) (args : Array Value) : Prop := ∃ v, args = #[v] ∧ RdS w w.heap.size 1 encInt v l
theorem rds_firm {α : Type} {w w' : World} {size : Nat} {enc : α → List Value} {v : Value} {xs : List α} (_he : ∀ x, 0 < (enc x).length) (h : RdS w w.heap.size size enc v xs) (hs : Stays (fun b => ∀ r, w.heap[b]? ≠ some (.loop r)) w w') : RdS w' w'.heap.size size enc v xs := by
  obtain ⟨A, c, hv, hl, hc, hh⟩ := h
  refine ⟨A, c, hv, hl, hc, fun h0 => ?_⟩
  obtain ⟨b, off, hA, hb, hcell⟩ := hh h0
  refine ⟨b, off, hA, Nat.lt_of_lt_of_le hb hs.size, fun i x hx j u hu => hs.cell (hcell i x hx j u hu) (fun r e => ?_)⟩
  have := hcell i x hx j u hu
  simp only [World.cell?] at this
  rw [e] at this
  simp at this
theorem firm_ints : Firm EInts := fun l w w' args ⟨v, e, h⟩ hs => ⟨v, e, rds_firm (fun _ => by simp [encInt]) h hs⟩

/-- the iterator that leans hands back, and what it captures -/
def NewLean (w0 w : World) (a0 a1 a2 : Value) (l : List Int) (v : Value) : Prop := ∃ Bb Bx u, v = .func (.func 54) #[] #[.pointer (some ⟨Bb, 0, none⟩), .pointer (some ⟨Bx, 0, none⟩)] ∧ w0.heap.size ≤ Bb ∧ Bb < w.heap.size ∧ w0.heap.size ≤ Bx ∧ Bx < w.heap.size ∧ Bb ≠ Bx ∧
  w.heap[Bb]? = some (.cells #[u] 47 (0, 0)) ∧ w.heap[Bx]? = some (.cells #[a0, a1, a2] 26 (0, 0)) ∧ RdX w (fun b => b < w.heap.size ∧ w0.heap.size ≤ b) 1 encInt u l
theorem NewLean.keep {w0 w w' : World} {a0 a1 a2 : Value} {l : List Int} {v : Value} (h : NewLean w0 w a0 a1 a2 l v) (hb : Below w.heap.size w w') : NewLean w0 w' a0 a1 a2 l v := by
  obtain ⟨Bb, Bx, u, e, h1, h2, h3, h4, h5, h6, h7, h8⟩ := h
  have := hb.size
  exact ⟨Bb, Bx, u, e, h1, by omega, h3, by omega, h5, (hb.block _ h2).trans h6, (hb.block _ h4).trans h7, h8.keep fun b hk => ⟨⟨by omega, hk.2⟩, hb.block b hk.1⟩⟩

theorem Turns.inner {T S S' S3 S4 : Nat → Prop} {w w' : World} (h : Turns T S3 w S4 w') (h3 : ∀ b, S3 b → S b ∨ S' b) : Turns (fun b => T b ∨ S b) S' w (fun b => S4 b ∧ ¬ S b) w' :=
  ⟨h.st.mono fun b _ hx => ⟨fun q => hx.1 (.inl q), fun q => (h3 b q).elim (fun r => hx.1 (.inr r)) hx.2⟩, fun b hb => (h.sub b hb.1).elim (fun q => (h3 b q).elim (fun r => absurd r hb.2) .inl) .inr⟩
theorem leans_any (A0 A1 A2 Ab : Option Addr) (n0 c0 n1 c1 n c2 nb cb : Nat) (w : World) : Calls Tryd.prog 31 #[.agg #[.slice A0 n0 c0, .slice A1 n1 c1, .slice A2 n c2], .slice Ab nb cb] w (fun e w' => e = .returned (.func (.func 54) #[] #[.pointer (some ⟨w.heap.size + 1, 0, none⟩), .pointer (some ⟨w.heap.size, 0, none⟩)]) ∧ w' = (w.alloc (.cells #[.slice A0 n0 c0, .slice A1 n1 c1, .slice A2 n c2] 26)).alloc (.cells #[.slice Ab nb cb] 47)) := by
  go_enter Tryd.func31, Tryd.ntmps31
  go_wp2
  go_ret
  exact ⟨rfl, rfl⟩
structure LnaR (T0 : Array Value) (W0 : World) (A0 A1 A2 : Option Addr) (n0 c0 n1 c1 n c2 : Nat) (vb : Value) (bx bb c : Nat) (begun : List Int) (df : List Deferred) (d : Array Bool) (t : Array Value) (wc : World) : Prop where
  bel : Below W0.heap.size W0 wc
  siz : t.size = 47
  kp : ∀ i, i ∉ ([35, 36, 37, 38, 39, 40, 41] : List Nat) → t[i]? = T0[i]?
  k1 : t[1]? = some (.pointer (some ⟨bb, 0, none⟩))
  k2 : t[2]? = some (.pointer (some ⟨bx, 0, none⟩))
  k6 : t[6]? = some (.int .i64 (c : Int))
  p0 : dn d 0 → t[35]? = some (.agg #[.slice A0 n0 c0, .slice A1 n1 c1, .slice A2 n c2])
  p1 : dn d 1 → t[36]? = some (vb)
  p3 : dn d 3 → t[38]? = some (.int .i64 (c : Int))
  p6 : dn d 6 → ∃ v, t[41]? = some v ∧ NewLean W0 wc (.slice A0 n0 c0) (.slice A1 n1 c1) (.slice A2 n c2) (begun ++ [(c : Int)]) v
  p2 : dn d 2 → ¬ dn d 5 → ∃ u, t[37]? = some u ∧ wc.ownsRow W0.heap.size 3 1 u begun.length (begun.flatMap encInt)
  p4 : dn d 4 → ¬ dn d 5 → ∃ u, t[39]? = some u ∧ ∃ gb, u = .slice (some ⟨gb, 0, none⟩) 1 1 ∧ gb < wc.heap.size ∧ wc.heap[gb]? = some (.cells #[.int .i64 (c : Int)] 3 (0, 0))
  p5 : dn d 5 → ¬ dn d 6 → ∃ u, t[40]? = some u ∧ RdX wc (fun b => b < wc.heap.size ∧ W0.heap.size ≤ b) 1 encInt u (begun ++ [(c : Int)])
  l6 : dn d 6 → dn d 5
def LnaI (T0 : Array Value) (W0 : World) (A0 A1 A2 : Option Addr) (n0 c0 n1 c1 n c2 : Nat) (vb : Value) (bx bb c : Nat) (begun : List Int) (df : List Deferred) (d : Array Bool) (a : Act) (wc : World) : Prop := ∃ t : Array Value, a = ⟨t, df⟩ ∧ LnaR T0 W0 A0 A1 A2 n0 c0 n1 c1 n c2 vb bx bb c begun df d t wc

/-- where the iterator stands -/
structure LeanAt (w : World) (bb bx : Nat) (a0 a1 a2 vb : Value) (begun : List Int) (ok : Nat → Prop) : Prop where
  hb : w.heap[bb]? = some (.cells #[vb] 47 (0, 0))
  hx : w.heap[bx]? = some (.cells #[a0, a1, a2] 26 (0, 0))
  ob : ok bb
  ox : ok bx
  rd : RdX w ok 1 encInt vb begun
  lt : ∀ b, ok b → b < w.heap.size
def LeanSeq (n k : Nat) : Prop := ∀ (begun : List Int) (first : Nat), begun.length + k = 3 → first ≤ n → (begun = [] ∧ first = 0 ∨ 1 ≤ first ∧ begun.getLast? = some ((first : Int) - 1)) →
  ∀ (w : World) (bb bx : Nat) (A0 A1 A2 : Option Addr) (n0 c0 n1 c1 c2 : Nat) (vb : Value) (ok : Nat → Prop), LeanAt w bb bx (.slice A0 n0 c0) (.slice A1 n1 c1) (.slice A2 n c2) vb begun ok →
    Gives Tryd.prog 54 #[.pointer (some ⟨bb, 0, none⟩), .pointer (some ⟨bx, 0, none⟩)] EInts ok (Lx.listsV n k begun first) w

set_option maxRecDepth 100000 in
set_option maxHeartbeats 8000000 in
theorem leans_step (n : Nat) (hn : n ≤ 1000) (k : Nat) (IH : ∀ j, k = j + 1 → LeanSeq n j) : LeanSeq n k := by
  intro begun first hlen hfn hfirst w bb bx A0 A1 A2 n0 c0 n1 c1 c2 vb ok hat m l T J Jx W hWs hokW hT hJ hJx hY h0
  obtain ⟨Ab, cb, rfl, hcb1, hcb2, hbc⟩ := id hat.rd
  obtain ⟨nb, hnb⟩ : ∃ nb, nb = begun.length := ⟨_, rfl⟩
  rw [← hnb] at hat hlen
  have hbl : nb ≤ 3 := by omega
  have HNB := Lib.hid hnb
  clear hnb
  have hWb := (hokW bb hat.ob).2.trans hat.hb
  have hWx := (hokW bx hat.ox).2.trans hat.hx
  have hltb : bb < W.heap.size := by have := (hokW bb hat.ob).1; omega
  have hltx : bx < W.heap.size := by have := (hokW bx hat.ox).1; omega
  have HT := Lib.hid hT
  have HJ := Lib.hid hJ
  have HJX := Lib.hid hJx
  have HY := Lib.hid hY
  have H0 := Lib.hid h0
  have HAT := Lib.hid hat
  have HOKW := Lib.hid hokW
  obtain ⟨W1, hW1⟩ : ∃ W1, W1 = W.alloc (.cells #[.func (.yield l) #[] #[]] 107) := ⟨_, rfl⟩
  have hb1 : Below W.heap.size W W1 := by rw [hW1]; exact (Below.refl _ _).alloc (Nat.le_refl _) _
  have hsW1 : W1.heap.size = W.heap.size + 1 := by rw [hW1]; simp
  have hy1 : W1.heap[W.heap.size]? = some (.cells #[.func (.yield l) #[] #[]] 107 (0, 0)) := by rw [hW1]; exact heap_alloc_new _ _
  -- what lies behind whatever keeps the iterator's own blocks
  have OWN : Hid (∀ W' : World, (∀ b, b < W1.heap.size → (ok b ∨ b = W.heap.size) → W'.heap[b]? = W1.heap[b]?) → W1.heap.size ≤ W'.heap.size →
      W'.cell? ⟨bb, 0, none⟩ = some (.slice Ab nb cb) ∧ W'.cell? ⟨bx, 0, none⟩ = some (.slice A0 n0 c0) ∧ W'.cell? ⟨bx, 1, none⟩ = some (.slice A1 n1 c1) ∧ W'.cell? ⟨bx, 2, none⟩ = some (.slice A2 n c2) ∧ W'.cell? ⟨W.heap.size, 0, none⟩ = some (.func (.yield l) #[] #[]) ∧
      RdS W' W'.heap.size 1 encInt (.slice Ab nb cb) begun) := Lib.hid fun W' hk hz => by
    have q1 := (hk bb (by omega) (.inl HAT.out.ob)).trans ((hb1.block bb hltb).trans hWb)
    have q2 := (hk bx (by omega) (.inl HAT.out.ox)).trans ((hb1.block bx hltx).trans hWx)
    have q3 := (hk W.heap.size (by omega) (.inr rfl)).trans hy1
    refine ⟨by simp [World.cell?, q1], by simp [World.cell?, q2], by simp [World.cell?, q2], by simp [World.cell?, q2], by simp [World.cell?, q3], ?_⟩
    refine (HAT.out.rd.keep (w' := W') (ok' := fun b => b < W'.heap.size) fun b hb => ?_).to fun b hb => hb
    have h1 := HOKW.out b hb
    exact ⟨by have := h1.1; omega, (hk b (by have := h1.1; omega) (.inl hb)).trans ((hb1.block b (by have := h1.1; omega)).trans h1.2)⟩
  have H01 : Hid (J [] (fun _ => False) W1) := Lib.hid (HJ.out _ _ _ _ H0.out (.all hb1))
  have HB1 := Lib.hid hb1
  have HW1 := Lib.hid hW1
  clear hT hJ hJx hY h0 hat hokW hWb hWx hb1 hy1 hW1 hcb1 hcb2
  refine callsIn_of_wp_marks Tryd.func54 rfl trivial ?_
  simp only [Tryd.ntmps54, List.size_toArray, List.length_cons, List.length_nil, Nat.reduceAdd, Nat.reduceSub, Array.replicate_succ, Array.replicate_zero, List.push_toArray, List.append_toArray, List.nil_append, List.cons_append]
  refine wpIn_wide.2 ?_
  obtain ⟨q0, q1, q2, q3, q4, q5⟩ := OWN.out W1 (fun _ _ _ => rfl) (Nat.le_refl _)
  go_upto_region 2 with fail
  rw [← HW1.out]
  go_upto_if 11 with fail
  go_cut [4] from 12 to 17 (fun t wc => t = .int .i64 (first : Int) ∧ wc = W1)
  case first =>
    rcases hfirst with ⟨rfl, rfl⟩ | ⟨hf1, hf2⟩
    · have hn0 : nb = 0 := HNB.out
      subst hn0
      go_wp2_with fail
      go_meet
      go_light
      exact ⟨rfl, rfl⟩
    · have hpos : 0 < nb := by
        rw [HNB.out]
        cases begun with
        | nil => simp at hf2
        | cons _ _ => simp
      obtain ⟨_, _, hq, -, -, hcl0⟩ := q5
      rw [Value.slice.injEq] at hq
      obtain ⟨rfl, -, rfl⟩ := hq
      obtain ⟨b, off, hA, hb, hcell⟩ := hcl0 (by rw [← HNB.out]; exact hpos)
      clear hcl0
      subst hA
      obtain ⟨j, hj⟩ : ∃ j, j = nb - 1 := ⟨_, rfl⟩
      have hjc : W1.cell? ⟨b, off + j, none⟩ = some (.int .i64 ((first : Int) - 1)) := by
        have := hcell j ((first : Int) - 1) (by rw [List.getLast?_eq_getElem?] at hf2; rw [hj, HNB.out]; exact hf2) 0 _ rfl
        simpa using this
      have hjn : (nb : Int) - 1 = (j : Int) := by omega
      have hjl : (j : Int) < (nb : Int) := by omega
      have hl3 : (nb : Int) ≤ 3 := by omega
      have hf0 : (first : Int) ≤ 1000 := by omega
      clear hcell hj hf2
      go_wp2_with fail
      go_meet
      go_light
      exact ⟨rfl, rfl⟩
  case rest =>
    obtain ⟨rfl, hwc⟩ := hcut
    have hwc' := hwc.symm
    subst hwc'
    clear hfirst
    obtain ⟨fn, tmps, assign, body, hy, hR⟩ := HY.out 8 [] (fun _ => False) begun #[.slice Ab nb cb] W1 H01.out (fun b h => h.elim) (by omega) (Lx.listsV_one n k begun first) ⟨_, rfl, by have := HNB.out; rw [this] at q5 ⊢; exact q5⟩
    go_upto_region 5 with fail
    refine (wpIn_wide (n := 9)).1 ?_
    gi_wp2
    refine hR.mono ?_
    clear hR hy q0 q1 q2 q3 q4 q5
    rintro e W2 ⟨S2, ht2, hres⟩
    have nT : ∀ b, W.heap.size ≤ b → ¬ T b := fun b hb h => by have := (HT.out b h).2; omega
    have hk2 : ∀ b, b < W1.heap.size → (ok b ∨ b = W.heap.size) → W2.heap[b]? = W1.heap[b]? := fun b hb hx => ht2.st.block b hb ⟨fun h => by
      rcases hx with q | q
      · exact (HT.out b h).1 q
      · exact nT b (by omega) h, fun h => h⟩
    have hz2 := ht2.st.size
    have hS2 : ∀ b, S2 b → W1.heap.size ≤ b ∧ b < W2.heap.size := fun b hb => (ht2.sub b hb).resolve_left id
    obtain ⟨q0, q1, q2, q3, q4, q5⟩ := OWN.out W2 hk2 hz2
    have HT2 := Lib.hid ht2
    have HK2 := Lib.hid hk2
    have HS2 := Lib.hid hS2
    clear ht2 hk2 hS2
    rcases hres with ⟨rfl, hJ2⟩ | ⟨rfl, hJx2⟩
    · have HJ2 := Lib.hid hJ2
      clear hJ2
      cases k with
      | zero =>
        have hn3 : nb = 3 := by omega
        subst hn3
        gi_wp2
        go_wp2_with fail
        exact ⟨_, results_none rfl _ _ _, ⟨_, rfl⟩, S2, fun b hb => by have := HS2.out b hb; omega, .inl HJ2.out⟩
      | succ k =>
        have hn3 : ¬ (nb : Int) = 3 := by omega
        have hn3' : ¬ nb = 3 := by omega
        gi_wp2
        go_wp2_with fail
        refine wp_loop (fun a wr => ∃ (u4 u5 u7 u8 u9 u10 u11 u12 u13 u14 u15 u16 u17 u18 u19 u20 u21 u22 u23 u24 u25 u26 u27 u28 u29 u30 u31 u32 u33 u34 u35 u36 u37 u38 u39 u40 u41 u42 u43 u44 u45 u46 : Value) (c : Nat) (S : Nat → Prop) (Ds : List Nat), a = { tmps := #[.func (.yield l) #[] #[], .pointer (some ⟨bb, 0, none⟩), .pointer (some ⟨bx, 0, none⟩), .pointer (some ⟨W.heap.size, 0, none⟩), u4, u5, .int .i64 (c : Int), u7, u8, u9, u10, u11, u12, u13, u14, u15, u16, u17, u18, u19, u20, u21, u22, u23, u24, u25, u26, u27, u28, u29, u30, u31, u32, u33, u34, u35, u36, u37, u38, u39, u40, u41, u42, u43, u44, u45, u46], defers := Ds.map mark } ∧ first ≤ c ∧ c ≤ n ∧ J (Lx.listsTo n k begun first c) S wr ∧ (∀ b, S b → W1.heap.size ≤ b ∧ b < wr.heap.size) ∧ (∀ b, b < W1.heap.size → (ok b ∨ b = W.heap.size) → wr.heap[b]? = W1.heap[b]?) ∧ W1.heap.size ≤ wr.heap.size ∧ Ds.Nodup ∧ (∀ D ∈ Ds, W1.heap.size ≤ D ∧ D < wr.heap.size ∧ ¬ S D ∧ wr.heap[D]? = some (.deferred (some [])))) (fun a _ => n - (intOf (a.tmps.getD 6 undef)).toNat) ?_ ?_
        · refine ⟨_, _, _, _, _, _, _, _, _, _, _, _, _, _, _, _, _, _, _, _, _, _, _, _, _, _, _, _, _, _, _, _, _, _, _, _, _, _, _, _, _, _, first, S2, [], rfl, Nat.le_refl _, hfn, ?_, HS2.out, HK2.out, hz2, List.nodup_nil, fun D hD => by simp at hD⟩
          rw [Lx.listsTo_start]
          exact HJ2.out
        · clear q0 q1 q2 q3 q4 q5
          intro a wr hinv
          obtain ⟨u4, u5, u7, u8, u9, u10, u11, u12, u13, u14, u15, u16, u17, u18, u19, u20, u21, u22, u23, u24, u25, u26, u27, u28, u29, u30, u31, u32, u33, u34, u35, u36, u37, u38, u39, u40, u41, u42, u43, u44, u45, u46, c, S, Ds, rfl, hc1, hc2, hj, hsb, hok, hz, hnd, hds⟩ := hinv
          obtain ⟨q0, q1, q2, q3, q4, q5⟩ := OWN.out wr hok hz
          have HJR := Lib.hid hj
          have HSB := Lib.hid hsb
          have HOK := Lib.hid hok
          have HND := Lib.hid hnd
          have HDS := Lib.hid hds
          clear hj hsb hok hnd hds
          by_cases hlt : c < n
          · have hltI : (c : Int) < (n : Int) := by omega
            have CEL : Hid (∀ W', Below wr.heap.size wr W' → W'.cell? ⟨bb, 0, none⟩ = some (.slice Ab nb cb) ∧ W'.cell? ⟨bx, 0, none⟩ = some (.slice A0 n0 c0) ∧ W'.cell? ⟨bx, 1, none⟩ = some (.slice A1 n1 c1) ∧ W'.cell? ⟨bx, 2, none⟩ = some (.slice A2 n c2)) := Lib.hid fun W' hW => by
              obtain ⟨f0, f1, f2, f3, -, -⟩ := OWN.out W' (fun b hb hx => (hW.block b (by omega)).trans (HOK.out b hb hx)) (by have := hW.size; omega)
              exact ⟨f0, f1, f2, f3⟩
            have VB : Hid (∀ W', Below wr.heap.size wr W' → RdS W' W'.heap.size 1 encInt (.slice Ab begun.length cb) begun) := Lib.hid fun W' hW => by
              obtain ⟨-, -, -, -, -, f⟩ := OWN.out W' (fun b hb hx => (hW.block b (by omega)).trans (HOK.out b hb hx)) (by have := hW.size; omega)
              have e := HNB.out
              rw [e] at f
              exact f
            obtain ⟨i1, hi1, hz1, hs1, hb1⟩ := info_parts info_int
            have hbl3 : begun.length ≤ 3 := by have := HNB.out; omega
            have hnbe := HNB.out
            subst hnbe
            go_upto_region 9 with fail
            clear q0 q1 q2 q3 q4 q5
            refine wp_region_inv2T (fun T0 => LnaI T0 wr A0 A1 A2 n0 c0 n1 c1 n c2 (.slice Ab begun.length cb) bx bb c begun (Ds.map mark)) (by kernel_rfl) (by kernel_rfl) ?g0a ?gstepa ?genda
            case g0a =>
              have hno : ∀ j, ¬ dn (Array.replicate 7 false) j := by
                intro j; unfold dn; by_cases hj : j < 7 <;> simp [Array.getD, hj]
              have na : ∀ {j : Nat} {Z : Prop}, dn (Array.replicate 7 false) j → Z := fun hj => absurd hj (hno _)
              exact ⟨_, rfl, { bel := (Below.refl _ _).drew, siz := rfl, kp := fun _ _ => rfl, k1 := rfl, k2 := rfl, k6 := rfl, p0 := na, p1 := na, p3 := na, p6 := fun hj => absurd hj (hno _), p2 := fun hj => absurd hj (hno _), p4 := fun hj => absurd hj (hno _), p5 := fun hj => absurd hj (hno _), l6 := fun hj => absurd hj (hno _) }⟩
            case gstepa =>
              intro T0 d a wc i hd hI hi
              obtain ⟨hlt, hnd, hpre⟩ := mem_ready hi
              have hd' : d.size = 7 := hd
              have hin : i < 7 := hlt
              clear hi hd hlt
              obtain ⟨t, rfl, h⟩ := hI
              have hcs : i = 0 ∨ i = 1 ∨ i = 2 ∨ i = 3 ∨ i = 4 ∨ i = 5 ∨ i = 6 := by omega
              rcases hcs with rfl | rfl | rfl | rfl | rfl | rfl | rfl
              · have hi : 0 < d.size := by omega
                have q2 := h.k2
                obtain ⟨m0, m1, m2, m3⟩ := CEL.out wc h.bel
                refine wpOp_plain rfl rfl ?_
                go_simp
                exact ⟨_, rfl, { bel := h.bel, siz := (by simpa using h.siz), kp := rk h.kp, k1 := rs h.k1, k2 := rs h.k2, k6 := rs h.k6, p2 := fun hj hk => by obtain ⟨u, e1, e2⟩ := h.p2 (dn_of hi hj (by decide)) (fun q => hk (dn_up q)); exact ⟨u, (set_other (by decide)).trans e1, e2⟩, p4 := fun hj hk => by obtain ⟨u, e1, e2⟩ := h.p4 (dn_of hi hj (by decide)) (fun q => hk (dn_up q)); exact ⟨u, (set_other (by decide)).trans e1, e2⟩, p5 := fun hj hk => by obtain ⟨u, e1, e2⟩ := h.p5 (dn_of hi hj (by decide)) (fun q => hk (dn_up q)); exact ⟨u, (set_other (by decide)).trans e1, e2⟩, l6 := fun hj => dn_up (h.l6 (dn_of hi hj (by decide))), p0 := fun _ => set_same (by have := h.siz; omega), p1 := rp hi h.p1, p3 := rp hi h.p3, p6 := rc hi h.p6 (fun v h2 => h2.keep (Below.refl _ _)) }⟩
              · have hi : 1 < d.size := by omega
                have q1 := h.k1
                obtain ⟨m0, m1, m2, m3⟩ := CEL.out wc h.bel
                refine wpOp_plain rfl rfl ?_
                go_simp
                exact ⟨_, rfl, { bel := h.bel, siz := (by simpa using h.siz), kp := rk h.kp, k1 := rs h.k1, k2 := rs h.k2, k6 := rs h.k6, p2 := fun hj hk => by obtain ⟨u, e1, e2⟩ := h.p2 (dn_of hi hj (by decide)) (fun q => hk (dn_up q)); exact ⟨u, (set_other (by decide)).trans e1, e2⟩, p4 := fun hj hk => by obtain ⟨u, e1, e2⟩ := h.p4 (dn_of hi hj (by decide)) (fun q => hk (dn_up q)); exact ⟨u, (set_other (by decide)).trans e1, e2⟩, p5 := fun hj hk => by obtain ⟨u, e1, e2⟩ := h.p5 (dn_of hi hj (by decide)) (fun q => hk (dn_up q)); exact ⟨u, (set_other (by decide)).trans e1, e2⟩, l6 := fun hj => dn_up (h.l6 (dn_of hi hj (by decide))), p0 := rp hi h.p0, p1 := fun _ => set_same (by have := h.siz; omega), p3 := rp hi h.p3, p6 := rc hi h.p6 (fun v h2 => h2.keep (Below.refl _ _)) }⟩
              · have hi : 2 < d.size := by omega
                have hnd' := not_dn hi hnd
                have d1 : dn d 1 := hpre _ rfl ⟨1, .data⟩ (by simp) rfl
                have e1 := h.p1 d1
                refine wpOp_plain rfl rfl ?_
                go_simp
                refine (cloneInt_any _ begun wc wc.heap.size (VB.out wc h.bel) (by omega)).mono ?_
                rintro e1 w1 ⟨v1, rfl, ho1, hb⟩
                exact ⟨_, rfl, { bel := h.bel.trans (hb.mono h.bel.size), siz := (by simpa using h.siz), kp := rk h.kp, k1 := rs h.k1, k2 := rs h.k2, k6 := rs h.k6, p2 := fun _ _ => ⟨v1, set_same (by have := h.siz; omega), (keep_own ho1 (Below.refl _ _)).mono h.bel.size⟩, p4 := fun hj hk => by obtain ⟨u, e1, e2⟩ := h.p4 (dn_of hi hj (by decide)) (fun q => hk (dn_up q)); exact ⟨u, (set_other (by decide)).trans e1, (by obtain ⟨gb, f1, f2, f3⟩ := e2; exact ⟨gb, f1, Nat.lt_of_lt_of_le f2 hb.size, (hb.block gb f2).trans f3⟩)⟩, p5 := fun hj hk => by obtain ⟨u, e1, e2⟩ := h.p5 (dn_of hi hj (by decide)) (fun q => hk (dn_up q)); exact ⟨u, (set_other (by decide)).trans e1, e2.keep (fun b hk' => ⟨⟨Nat.lt_of_lt_of_le hk'.1 hb.size, hk'.2⟩, hb.block b hk'.1⟩)⟩, l6 := fun hj => dn_up (h.l6 (dn_of hi hj (by decide))), p0 := rp hi h.p0, p1 := rp hi h.p1, p3 := rp hi h.p3, p6 := rc hi h.p6 (fun v h2 => h2.keep hb) }⟩
              · have hi : 3 < d.size := by omega
                have q6 := h.k6
                refine wpOp_plain rfl rfl ?_
                go_simp
                exact ⟨_, rfl, { bel := h.bel, siz := (by simpa using h.siz), kp := rk h.kp, k1 := rs h.k1, k2 := rs h.k2, k6 := rs h.k6, p2 := fun hj hk => by obtain ⟨u, e1, e2⟩ := h.p2 (dn_of hi hj (by decide)) (fun q => hk (dn_up q)); exact ⟨u, (set_other (by decide)).trans e1, e2⟩, p4 := fun hj hk => by obtain ⟨u, e1, e2⟩ := h.p4 (dn_of hi hj (by decide)) (fun q => hk (dn_up q)); exact ⟨u, (set_other (by decide)).trans e1, e2⟩, p5 := fun hj hk => by obtain ⟨u, e1, e2⟩ := h.p5 (dn_of hi hj (by decide)) (fun q => hk (dn_up q)); exact ⟨u, (set_other (by decide)).trans e1, e2⟩, l6 := fun hj => dn_up (h.l6 (dn_of hi hj (by decide))), p0 := rp hi h.p0, p1 := rp hi h.p1, p3 := fun _ => set_same (by have := h.siz; omega), p6 := rc hi h.p6 (fun v h2 => h2.keep (Below.refl _ _)) }⟩
              · have hi : 4 < d.size := by omega
                have hnd' := not_dn hi hnd
                have d3 : dn d 3 := hpre _ rfl ⟨3, .data⟩ (by simp) rfl
                have e3 := h.p3 d3
                have hb : Below wc.heap.size wc (wc.alloc (.cells #[.int .i64 (c : Int)] 3)) := (Below.refl _ _).alloc (Nat.le_refl _) _
                refine wpOp_plain rfl rfl ?_
                go_simp
                exact ⟨_, rfl, { bel := h.bel.trans (hb.mono h.bel.size), siz := (by simpa using h.siz), kp := rk h.kp, k1 := rs h.k1, k2 := rs h.k2, k6 := rs h.k6, p2 := fun hj hk => by obtain ⟨u, e1, e2⟩ := h.p2 (dn_of hi hj (by decide)) (fun q => hk (dn_up q)); exact ⟨u, (set_other (by decide)).trans e1, keep_own e2 hb⟩, p4 := fun _ _ => ⟨_, set_same (by have := h.siz; omega), wc.heap.size, rfl, by simp, heap_alloc_new _ _⟩, p5 := fun hj hk => by obtain ⟨u, e1, e2⟩ := h.p5 (dn_of hi hj (by decide)) (fun q => hk (dn_up q)); exact ⟨u, (set_other (by decide)).trans e1, e2.keep (fun b hk' => ⟨⟨Nat.lt_of_lt_of_le hk'.1 hb.size, hk'.2⟩, hb.block b hk'.1⟩)⟩, l6 := fun hj => dn_up (h.l6 (dn_of hi hj (by decide))), p0 := rp hi h.p0, p1 := rp hi h.p1, p3 := rp hi h.p3, p6 := rc hi h.p6 (fun v h2 => h2.keep hb) }⟩
              · have hi : 5 < d.size := by omega
                have hnd' := not_dn hi hnd
                have d2 : dn d 2 := hpre _ rfl ⟨2, .data⟩ (by simp) rfl
                have d4 : dn d 4 := hpre _ rfl ⟨4, .data⟩ (by simp) rfl
                obtain ⟨u2, e2, ho⟩ := h.p2 d2 hnd'
                obtain ⟨_, e4, gb, rfl, hgb, hs4⟩ := h.p4 d4 hnd'
                refine wpOp_plain rfl rfl ?_
                refine wp_append_rd (enc := encInt) (.tmp 37) (.tmp 39) _ rfl wr.heap.size 3 i1 _ 1 8 len_int one_int Tryd.underlying47 hi1 hz1 hs1 hb1 rfl (by decide) u2 begun.length (begun.flatMap encInt) (eval_tmp e2) ho wc.heap.size (.slice (some ⟨gb, 0, none⟩) 1 1) [(c : Int)] (eval_tmp e4) (rds_block (xs := [(c : Int)]) len_int hs4 rfl hgb (Nat.le_refl 1) (by decide)) (by simp only [maxLen]; show begun.length + 1 ≤ _; omega) (by show (begun.length + 1) * 8 ≤ _; omega) h.bel.size ?_
                intro v' w' hown' hg hat
                have hown2 : w'.ownsRow wr.heap.size 3 1 v' (begun ++ [(c : Int)]).length ((begun ++ [(c : Int)]).flatMap encInt) := by rw [List.length_append, List.flatMap_append]; exact hown'
                have hbw : Below wr.heap.size wr w' := below_own_grown h.bel hg ho (Nat.le_refl _) h.bel.size
                exact ⟨_, rfl, { bel := hbw, siz := (by simpa using h.siz), kp := rk h.kp, k1 := rs h.k1, k2 := rs h.k2, k6 := rs h.k6, p2 := fun _ hk => absurd (dn_self hi) hk, p4 := fun _ hk => absurd (dn_self hi) hk, p5 := fun _ _ => ⟨v', set_same (by have := h.siz; show 40 < t.size; omega), (rdx_of_own len_int hown2).keep (fun b hb => ⟨⟨hb.2, hb.1⟩, rfl⟩)⟩, l6 := fun hj => dn_up (h.l6 (dn_of hi hj (by decide))), p0 := rp hi h.p0, p1 := rp hi h.p1, p3 := rp hi h.p3, p6 := fun hj => absurd (h.l6 (dn_of hi hj (by decide))) hnd' }⟩
              · have hi : 6 < d.size := by omega
                have hnd' := not_dn hi hnd
                have d0 : dn d 0 := hpre _ rfl ⟨0, .data⟩ (by simp) rfl
                have d5 : dn d 5 := hpre _ rfl ⟨5, .data⟩ (by simp) rfl
                have e0 := h.p0 d0
                obtain ⟨u5, e5, hr5⟩ := h.p5 d5 hnd'
                refine wpOp_plain rfl rfl ?_
                go_simp
                obtain ⟨A5, c5, rfl, -⟩ := id hr5
                refine (leans_any A0 A1 A2 A5 n0 c0 n1 c1 n c2 _ c5 wc).mono ?_
                rintro e1 w1 ⟨rfl, rfl⟩
                have hb : Below wc.heap.size wc ((wc.alloc (.cells #[.slice A0 n0 c0, .slice A1 n1 c1, .slice A2 n c2] 26)).alloc (.cells #[.slice A5 (begun ++ [(c : Int)]).length c5] 47)) := ((Below.refl _ _).alloc (Nat.le_refl _) _).alloc (by simp) _
                exact ⟨_, rfl, { bel := h.bel.trans (hb.mono h.bel.size), siz := (by simpa using h.siz), kp := rk h.kp, k1 := rs h.k1, k2 := rs h.k2, k6 := rs h.k6, p2 := fun hj hk => by obtain ⟨u, e1, e2⟩ := h.p2 (dn_of hi hj (by decide)) (fun q => hk (dn_up q)); exact ⟨u, (set_other (by decide)).trans e1, keep_own e2 hb⟩, p4 := fun hj hk => by obtain ⟨u, e1, e2⟩ := h.p4 (dn_of hi hj (by decide)) (fun q => hk (dn_up q)); exact ⟨u, (set_other (by decide)).trans e1, (by obtain ⟨gb, f1, f2, f3⟩ := e2; exact ⟨gb, f1, Nat.lt_of_lt_of_le f2 hb.size, (hb.block gb f2).trans f3⟩)⟩, p5 := fun _ hk => absurd (dn_self hi) hk, l6 := fun _ => dn_up d5, p0 := rp hi h.p0, p1 := rp hi h.p1, p3 := rp hi h.p3, p6 := fun _ => ⟨_, set_same (by have := h.siz; omega), wc.heap.size + 1, wc.heap.size, _, rfl, by have := h.bel.size; omega, (by simp only [World.size_alloc]; omega), h.bel.size, (by simp only [World.size_alloc]; omega), by omega, start_res2 _ _ _, start_fst _ _ _, hr5.keep fun b hb' => ⟨⟨Nat.lt_of_lt_of_le hb'.1 hb.size, hb'.2⟩, hb.block b hb'.1⟩⟩ }⟩
            case genda =>
              intro d a wc hd hI hall
              obtain ⟨t, rfl, h⟩ := hI
              have hdn : ∀ j, j < 7 → dn d j := fun j hj => dn_all hd hall hj
              have hd : ∀ j, (_ : j < 7 := by decide) → dn d j := fun j hj => hdn j hj
              obtain ⟨t37, x37⟩ : ∃ v, t[37]? = some v := ⟨_, Array.getElem?_eq_getElem (by have := h.siz; omega)⟩
              obtain ⟨t39, x39⟩ : ∃ v, t[39]? = some v := ⟨_, Array.getElem?_eq_getElem (by have := h.siz; omega)⟩
              obtain ⟨t40, x40⟩ : ∃ v, t[40]? = some v := ⟨_, Array.getElem?_eq_getElem (by have := h.siz; omega)⟩
              obtain ⟨v6, e6, r6⟩ := h.p6 (hd 6)
              have hfe := frame_eq [(35, _), (36, _), (37, _), (38, _), (39, _), (40, _), (41, v6)] (h.siz.trans rfl) h.kp rfl ⟨h.p0 (hd 0), h.p1 (hd 1), x37, h.p3 (hd 3), x39, x40, e6, trivial⟩
              simp only [List.foldl_cons, List.foldl_nil, List.setIfInBounds_toArray, List.set_cons_succ, List.set_cons_zero] at hfe
              have hbc := h.bel
              subst hfe
              clear h hdn hd hall
              obtain ⟨Bb, Bx, ul, rfl, g1, g2, g3, g4, g5, g6, g7, g8⟩ := r6
              have hzc := hbc.size
              have HBC := Lib.hid hbc
              have JWC : Hid (J (Lx.listsTo n k begun first c) S wc) := Lib.hid (HJ.out _ _ _ _ HJR.out (.all hbc))
              have hlat : LeanAt wc Bb Bx (.slice A0 n0 c0) (.slice A1 n1 c1) (.slice A2 n c2) ul (begun ++ [(c : Int)]) (fun b => wr.heap.size ≤ b ∧ b < wc.heap.size) := ⟨g6, g7, ⟨g1, g2⟩, ⟨g3, g4⟩, g8.keep fun b hb => ⟨⟨hb.2, hb.1⟩, rfl⟩, fun b hb => hb.2⟩
              have hgv := IH k rfl (begun ++ [(c : Int)]) (c + 1) (by rw [List.length_append, List.length_singleton]; omega) (by omega) (.inr ⟨by omega, by rw [List.getLast?_append]; simp⟩) wc Bb Bx A0 A1 A2 n0 c0 n1 c1 c2 ul _ hlat
              have HGV := Lib.hid hgv
              clear hgv hlat g1 g2 g3 g4 g5 g6 g7 g8 hbc
              have hT2 : ∀ b, (T b ∨ S b) → ¬ (wr.heap.size ≤ b ∧ b < wc.heap.size) ∧ b < wc.heap.size := fun b hb => ⟨fun hq => hb.elim (fun q => nT b (by omega) q) (fun q => by have := (HSB.out b q).2; omega), hb.elim (fun q => by have := (HT.out b q).2; omega) (fun q => by have := (HSB.out b q).2; omega)⟩
              have OLD : Hid (∀ W' : World, Stays (fun b => ¬ (T b ∨ S b)) wc W' → ∀ b, b < W1.heap.size → (ok b ∨ b = W.heap.size) → W'.heap[b]? = W1.heap[b]?) := Lib.hid fun W' hs b hb hx => by
                have e1 : W'.heap[b]? = wc.heap[b]? := hs.block b (by omega) fun h => by
                  rcases h with q | q
                  · rcases hx with r | r
                    · exact (HT.out b q).1 r
                    · exact nT b (by omega) q
                  · have := (HSB.out b q).1; omega
                exact e1.trans ((HBC.out.block b (by omega)).trans (HOK.out b hb hx))
              go_wp2_with fail
              refine (wpIn_wide (n := 9)).1 (wp_iter (T := fun b => T b ∨ S b) (ok := fun b => wr.heap.size ≤ b ∧ b < wc.heap.size) (gf := 54) (lb := #[.pointer (some ⟨Bb, 0, none⟩), .pointer (some ⟨Bx, 0, none⟩)]) (E := EInts) rfl (enters_of Tryd.func54 (by kernel_rfl) rfl)
                HGV.out (fun l w args h => by obtain ⟨v, e, _⟩ := h; rw [e]; rfl) firm_ints (fun b hb => hb.2) hT2
                (fun pre S' W' => ∃ S1, J (Lx.listsTo n k begun first c ++ pre) S1 W' ∧ (∀ b, S1 b → S b ∨ S' b))
                (fun cd pre S' W' => cd = .ret ∧ ∃ S1, Jx (Lx.listsTo n k begun first c ++ pre) S1 W' ∧ (∀ b, S1 b → S b ∨ S' b)) ?hI ?hIx ⟨S, by rw [List.append_nil]; exact JWC.out, fun b hb => .inl hb⟩ ?round ?done ?stop)
              case hI =>
                rintro pre S' X Y ⟨S1, h1, h2⟩ hs
                exact ⟨S1, HJ.out _ _ _ _ h1 (hs.mono fun b _ hx => hx.elim (fun q => .inl (by omega)) (fun q => (h2 b q).elim (fun r => .inl (by have := (HSB.out b r).2; omega)) .inr)), h2⟩
              case hIx =>
                rintro cd pre S' X Y ⟨rfl, S1, h1, h2⟩ hs
                exact ⟨rfl, S1, HJX.out _ _ _ _ h1 (hs.mono fun b _ hx => hx.elim (fun q => .inl (by omega)) (fun q => (h2 b q).elim (fun r => .inl (by have := (HSB.out b r).2; omega)) .inr)), h2⟩
              case round =>
                rintro m2 l2 pre S' cs args W' rfl hold hS' hsz - hpre ⟨v, rfl, -⟩
                gi_wp2
                refine ⟨Stays.refl _ _, S', fun b hb => .inl hb, fun W3 hs3 hs3' hI3 hE3 hold3 => ?_⟩
                obtain ⟨S3, hI3, hS3⟩ := hI3
                have hz3 : wc.heap.size + 2 ≤ W3.heap.size := Nat.le_trans hsz hs3'.size
                obtain ⟨fn3, tmps3, assign3, body3, hy3, hR3⟩ := HY.out (m2 - 1) (Lx.listsTo n k begun first c ++ pre) S3 cs #[v] W3 hI3
                  (fun b hb => by
                    have := hs3'.size
                    rcases hS3 b hb with q | q
                    · have := HSB.out b q; omega
                    · have := hS' b q; omega) (by omega)
                  (by rw [List.append_assoc]; exact ((List.prefix_append_right_inj _).2 hpre).trans (Lx.listsTo_step n k begun hc1 hlt)) hE3
                obtain ⟨-, -, -, -, q4, -⟩ := OWN.out W3 (OLD.out W3 hold3) (by omega)
                have HS3 := Lib.hid hS3
                have HHS := Lib.hid hS'
                clear hold hS' hI3 hS3 hE3 hold3 hs3 hs3' hpre
                gi_wp2
                refine ⟨fun h => (by simp [Fence.wide] at h), ?_⟩
                refine (show RoundIn (Fence.wide.inRound (wc.heap.size + 1)) (m2 - 1) Tryd.prog l fn3 tmps3 assign3 body3 W3 _ from hR3).mono ?_
                clear hR3 hy3 q4
                rintro e W4 ⟨S4, ht4, ⟨rfl, hJ4⟩ | ⟨rfl, hJx4⟩⟩
                · gi_wp2
                  exact ⟨fun b => S4 b ∧ ¬ S b, ht4.inner HS3.out, S4, by rw [← List.append_assoc]; exact hJ4, fun b hb => (Classical.em (S b)).elim .inl fun q => .inr ⟨hb, q⟩⟩
                · gi_wp2
                  exact ⟨fun b => S4 b ∧ ¬ S b, ht4.inner HS3.out, rfl, S4, by rw [← List.append_assoc]; exact hJx4, fun b hb => (Classical.em (S b)).elim .inl fun q => .inr ⟨hb, q⟩⟩
              case done =>
                rintro S' W' hold hS' hsz ⟨S1, hI1, hS1⟩ hD
                have hDD : Hid (∀ D ∈ wc.heap.size :: Ds, W1.heap.size ≤ D ∧ D < W'.heap.size ∧ ¬ S1 D ∧ W'.heap[D]? = some (.deferred (some []))) := Lib.hid fun D hD' => by
                  rcases List.mem_cons.1 hD' with rfl | hD'
                  · refine ⟨by omega, by omega, fun h => ?_, hD⟩
                    rcases hS1 _ h with q | q
                    · have := (HSB.out _ q).2; omega
                    · have := (hS' _ q).1; omega
                  · obtain ⟨d1, d2, d3, d4⟩ := HDS.out D hD'
                    refine ⟨d1, by omega, fun h => ?_, ?_⟩
                    · rcases hS1 _ h with q | q
                      · exact d3 q
                      · have := (hS' _ q).1; omega
                    · exact (hold.block D (by omega) fun h => h.elim (fun q => nT D (by omega) q) d3).trans ((HBC.out.block D d2).trans d4)
                have HI1 := Lib.hid hI1
                have HNEW : Hid (∀ b, S1 b → W1.heap.size ≤ b ∧ b < W'.heap.size) := Lib.hid fun b hb => by
                  rcases hS1 b hb with q | q
                  · have := HSB.out b q; omega
                  · have := hS' b q; omega
                have HOLD := Lib.hid hold
                clear hold hS' hI1 hS1 hD
                gi_wp2
                go_wp2_with fail
                refine ⟨⟨_, _, _, _, _, _, _, _, _, _, _, _, _, _, _, _, _, _, _, _, _, _, _, _, _, _, _, _, _, _, _, _, _, _, _, _, _, _, _, _, _, _, c + 1, S1, wc.heap.size :: Ds, rfl, by omega, by omega, ?_, HNEW.out, OLD.out W' HOLD.out, by omega, ?_, hDD.out⟩, ?_⟩
                · rw [Lx.listsTo_succ n k begun hc1]
                  exact HI1.out
                · rw [List.nodup_cons]
                  exact ⟨fun h => by have := (HDS.out _ h).2.1; omega, HND.out⟩
                · simp [intOf]
                  omega
              case stop =>
                rintro cd pre S' W' hold hS' hsz hpre ⟨rfl, S1, hx1, hS1⟩ hD
                have HDD : Hid (∀ D ∈ wc.heap.size :: Ds, W'.heap[D]? = some (.deferred (some [])) ∧ W.heap.size ≤ D ∧ ¬ S1 D) := Lib.hid fun D hD' => by
                  rcases List.mem_cons.1 hD' with rfl | hD'
                  · refine ⟨hD, by omega, fun h => ?_⟩
                    rcases hS1 _ h with q | q
                    · have := (HSB.out _ q).2; omega
                    · have := (hS' _ q).1; omega
                  · obtain ⟨d1, d2, d3, d4⟩ := HDS.out D hD'
                    refine ⟨(hold.block D (by omega) fun h => h.elim (fun q => nT D (by omega) q) d3).trans ((HBC.out.block D d2).trans d4), by omega, fun h => ?_⟩
                    rcases hS1 _ h with q | q
                    · exact d3 q
                    · have := (hS' _ q).1; omega
                gi_wp2
                refine leaves_marks (wc.heap.size :: Ds) W' ?_ (fun D hD' => (HDD.out D hD').1) (fun W5 hs5 => ⟨_, results_none rfl _ _ _, ⟨_, rfl⟩, S1, ?_, .inr ⟨Lx.listsTo n k begun first c ++ pre, ?_, ?_⟩⟩)
                · rw [List.nodup_cons]
                  exact ⟨fun h => by have := (HDS.out _ h).2.1; omega, HND.out⟩
                · intro b hb
                  have := hs5.size
                  rcases hS1 b hb with q | q
                  · have := HSB.out b q; omega
                  · have := hS' b q; omega
                · exact ((List.prefix_append_right_inj _).2 hpre).trans (Lx.listsTo_step n k begun hc1 hlt)
                · refine HJX.out _ _ _ _ hx1 (hs5.mono fun b _ hx h => ?_)
                  rcases hx with q | q
                  · have := (HDD.out b h).2.1; omega
                  · exact (HDD.out b h).2.2 q
          · have hcn : c = n := by omega
            subst hcn
            have hltI : ¬ (c : Int) < (c : Int) := by omega
            go_wp2_with fail
            refine leaves_marks Ds wr HND.out (fun D hD' => (HDS.out D hD').2.2.2) (fun W5 hs5 => ⟨_, results_none rfl _ _ _, ⟨_, rfl⟩, S, fun b hb => ?_, .inl (HJ.out _ _ _ _ HJR.out (hs5.mono fun b _ hx h => ?_))⟩)
            · have := HSB.out b hb
              have := hs5.size
              omega
            · rcases hx with q | q
              · have := (HDS.out b h).1; omega
              · exact (HDS.out b h).2.2.1 q
    · have HJX2 := Lib.hid hJx2
      clear hJx2
      gi_wp2
      go_wp2_with fail
      exact ⟨_, results_none rfl _ _ _, ⟨_, rfl⟩, S2, fun b hb => by have := HS2.out b hb; omega, .inr ⟨_, Lx.listsV_one n k begun first, HJX2.out⟩⟩
theorem leans_seq (n : Nat) (hn : n ≤ 1000) : ∀ k, LeanSeq n k
  | 0 => leans_step n hn 0 (fun j h => by omega)
  | k + 1 => leans_step n hn (k + 1) (fun j h => by
    have e : k = j := by omega
    subst e
    exact leans_seq n hn k)
end Go.Proofs.YtpmnpnlfgfleeaaDoor
