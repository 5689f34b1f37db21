/- groups.Check.; ostraconref02.Check. Made by gen_t2check.py. -/
import Derived.Test.YtenmkbpdkfhbjaaGreatRcTxFirst
import Derived.Test.YtenmkbpdkfhbjaaGreatRcSgCheck
import Derived.Lib.SmallJoins
import Derived.Test.YtenmkbpdkfhbjaaGreatRcT2Par
import Derived.Test.YtenmkbpdkfhbjaaGreatRcT2Fam
namespace Tx
def PathOk (ns : List Node) (k : Nat) (cs : Array Go.Value) : Prop :=
  ∀ j : Nat, j < k → (∀ j' : Nat, j < j' → j' < k → dp ns j' ≠ dp ns j) → ∀ d : Nat, dp ns j = (d : Int) → cs[d]? = some (.int .i64 (kd ns j))
theorem PathOk.zero {ns : List Node} {cs : Array Go.Value} : PathOk ns 0 cs := fun _ h => absurd h (Nat.not_lt_zero _)
theorem PathOk.step {ns : List Node} {k e : Nat} {cs : Array Go.Value} (h : PathOk ns k cs) (he : dp ns k = (e : Int)) (hs : e < cs.size) : PathOk ns (k + 1) (cs.setIfInBounds e (.int .i64 (kd ns k))) := by
  intro j hj hl d hd
  rcases Nat.lt_or_ge j k with q | q
  · have hne : d ≠ e := by
      have := hl k q (by omega)
      omega
    rw [Array.getElem?_setIfInBounds_ne (fun x => hne x.symm)]
    exact h j q (fun j' a b => hl j' a (by omega)) d hd
  · have : j = k := by omega
    subst this
    have : d = e := by omega
    subst this
    simp [hs]
theorem PathOk.par {ns : List Node} {k f : Nat} {cs : Array Go.Value} (h : PathOk ns k cs) (hD : Deep ns) (hk : k < ns.length) (he : dp ns k = ((f + 1 : Nat) : Int)) : cs[f]? = some (.int .i64 (pkV ns k)) := by
  obtain ⟨p, hp, hpk, hdp, -⟩ := par_kid hD hk (by omega)
  obtain ⟨-, -, h3⟩ := par_some hp
  have := h p hpk (fun j' a b => by have := h3 j' a b; omega) f (by omega)
  unfold pkV
  rw [hp]
  exact this
theorem all_fam {ns : List Node} (h : ∀ i, i < ns.length → famB ns i = true) : (List.range ns.length).all (famB ns) = true := by
  rw [List.all_eq_true]
  intro i hi
  exact h i (by simpa using hi)
theorem not_all_fam {ns : List Node} {i : Nat} (hi : i < ns.length) (h : famB ns i = false) : ¬ (List.range ns.length).all (famB ns) = true := by
  intro q
  rw [List.all_eq_true] at q
  have := q i (by simpa using hi)
  rw [h] at this
  cases this
end Tx
namespace Go.Proofs.YtenmkbpdkfhbjaaGreat
open Go Go.RowKit

theorem path_cell {W : World} {P : Nat} {cs : Array Value} {T : TypeId} (h : W.heap[P]? = some (.cells cs T (0, 0))) (i : Nat) : W.cell? ⟨P, i, none⟩ = cs[i]? ∧ W.frozen? ⟨P, i, none⟩ = false := by
  constructor
  · simp [World.cell?, h]
  · simp [World.frozen?, h]
set_option maxRecDepth 100000 in
set_option maxHeartbeats 16000000 in
theorem gpCheck_any (l : Sg.SList) (ns : List Tx.Node) (vl : Value) (w : World) (A : Option Addr) (c : Nat) (hl : RdSL w w.heap.size vl l) (h : RdN w w.heap.size (.slice A ns.length c) ns) :
    Calls Tryz.prog 36 #[vl, .agg #[.slice A ns.length c]] w (RetE (Tx.checkT l ns) w) := by
  have HL := Lib.hid hl
  have HR := Lib.hid h
  obtain ⟨⟨us, rfl, hsg⟩, -⟩ := hl
  obtain ⟨As, cs, rfl, -⟩ := id hsg
  have hb : ns.length ≤ c ∧ c ≤ 9223372036854775807 := by
    obtain ⟨A', c', hv, h1, h2, -⟩ := h
    cases hv
    exact ⟨h1, h2⟩
  have HSC : Hid (∀ W, Below w.heap.size w W → Calls Tryz.prog 39 #[.agg #[.int .i64 l.periods, .slice As l.signs.length cs]] W (RetIB (Sg.checkV l) W)) := Lib.hid fun W hW => gCheck_any _ l W (HL.out.keep hW.size hW)
  obtain ⟨Z, hZ⟩ : ∃ Z, Z = w.heap.size := ⟨_, rfl⟩
  obtain ⟨ec, hec⟩ : ∃ ec, ec = Sg.checkV l := ⟨_, rfl⟩
  rw [← hec] at HSC
  have HEC := Lib.hid hec
  have HZ := Lib.hid hZ
  clear hsg h hec
  go_enter Tryz.func36, Tryz.ntmps36
  go_wp2_with fail
  rw [← hZ]
  refine at_worldF ?_
  intro WL hWL
  have hbl : Below Z w WL := by rw [hWL, hZ]; exact ((Below.refl _ _).alloc (Nat.le_refl _) _).alloc (by simp) _
  have hsz : WL.heap.size = Z + 2 := by rw [hWL, hZ]; simp
  have b0 : WL.heap[Z]? = some (.cells #[.int .i64 l.periods, .slice As l.signs.length cs] 24 (0, 0)) := by rw [hWL, hZ]; exact heap_alloc2_old _ _ _
  have b1 : WL.heap[Z + 1]? = some (.cells #[.slice A ns.length c] 27 (0, 0)) := by rw [hWL, hZ]; exact heap_alloc2_new _ _ _
  clear hWL
  refine (HSC.out WL (by rw [← hZ]; exact hbl)).mono ?_
  rintro e w3 ⟨rfl, hb3⟩
  have HB : Hid (Below Z w w3) := Lib.hid (hbl.trans (hb3.mono (by omega)))
  have hs3 : Z + 2 ≤ w3.heap.size := by have := hb3.size; omega
  have HB0 := Lib.hid ((hb3.block Z (by omega)).trans b0)
  have HB1 := Lib.hid ((hb3.block (Z + 1) (by omega)).trans b1)
  clear hb3 hbl hsz b0 b1 hZ
  have OWN : Hid (∀ W : World, Below w3.heap.size w3 W → W.cell? ⟨Z, 0, none⟩ = some (.int .i64 l.periods) ∧ W.cell? ⟨Z, 1, none⟩ = some (.slice As l.signs.length cs) ∧ W.cell? ⟨Z + 1, 0, none⟩ = some (.slice A ns.length c) ∧ Below w.heap.size w W) := Lib.hid fun W hW => by
    have e0 := (hW.block Z (by omega)).trans HB0.out
    have e1 := (hW.block (Z + 1) (by omega)).trans HB1.out
    refine ⟨by simp [World.cell?, e0], by simp [World.cell?, e0], by simp [World.cell?, e1], ?_⟩
    rw [← HZ.out]
    exact HB.out.trans (hW.mono (by omega))
  obtain ⟨x0, x1, x2, hbw⟩ := OWN.out w3 (Below.refl _ _)
  have HBW := Lib.hid hbw
  clear hbw
  by_cases k0 : ec = 0
  case neg =>
    have t0 : (ec == 0) = false := by simp [k0]
    have t0' : (ec != 0) = true := by simp [k0]
    have HV : Hid (Tx.checkT l ns = ec) := Lib.hid (by unfold Tx.checkT; rw [← HEC.out, if_pos k0])
    clear k0
    go_wp2_with fail
    go_ret
    rw [HV.out]
    exact ⟨rfl, HBW.out⟩
  have HV0 : Hid (Tx.checkT l ns = if 200 < ns.length then 2 else if Sg.firstE (Tx.ownAt l ns) ns.length ≠ 0 then Sg.firstE (Tx.ownAt l ns) ns.length else if (List.range ns.length).all (Tx.famB ns) = true then 0 else 20) := Lib.hid (by
    unfold Tx.checkT
    rw [← HEC.out, if_neg (by simpa using k0)])
  subst k0
  by_cases k1 : 200 < ns.length
  · have k1I : (200 : Int) < (ns.length : Int) := by omega
    have HV : Hid (Tx.checkT l ns = 2) := Lib.hid (HV0.out.trans (if_pos k1))
    clear k1
    go_wp2_with fail
    go_ret
    rw [HV.out]
    exact ⟨rfl, HBW.out⟩
  have k1I : ¬ (200 : Int) < (ns.length : Int) := by omega
  have HV1 := Lib.hid (HV0.out.trans (if_neg k1))
  have hnI : (ns.length : Int) ≤ 200 := by omega
  have HN200 : Hid (ns.length ≤ 200) := Lib.hid (by omega)
  clear k1
  go_upto_region 6 with fail
  go_wp2_with fail
  go_loopg [24] ns.length (fun g v wr => ∃ k : Nat, k ≤ ns.length ∧ g = ns.length - k ∧ v = .int .i64 (k : Int) ∧ Below w3.heap.size w3 wr ∧ ∀ j, j < k → Tx.ownAt l ns j = 0)
  case atStart => exact ⟨0, Nat.zero_le _, rfl, rfl, Below.refl _ _, fun j hj => absurd hj (Nat.not_lt_zero _)⟩
  case round =>
    obtain ⟨k, hk, rfl, rfl, hbr, hown⟩ := hrel
    have HBR := Lib.hid hbr
    have HOW := Lib.hid hown
    obtain ⟨y0, y1, y2, hbw⟩ := OWN.out wr hbr
    have HBW2 := Lib.hid hbw
    clear hbr hown hbw x0 x1 x2
    by_cases hlt : k < ns.length
    · have hltI : (k : Int) < (ns.length : Int) := by omega
      obtain ⟨v1, hv1⟩ : ∃ v1, v1 = Tx.ownAt l ns k := ⟨_, rfl⟩
      have HF : Hid (Calls Tryz.prog 56 #[.agg #[.int .i64 l.periods, .slice As l.signs.length cs], .agg #[.slice A ns.length c], .int .i64 k] wr (RetE v1 wr)) := Lib.hid (hv1 ▸ first_any l ns k _ wr A c (HL.out.keep HBW2.out.size HBW2.out) ((HR.out.below HBW2.out).more HBW2.out.size) hlt (by have := HN200.out; omega) HOW.out)
      have HV1' := Lib.hid hv1
      clear hv1
      go_wp2_with fail
      refine HF.out.mono ?_
      rintro e w5 ⟨rfl, hb5⟩
      have HB5 := Lib.hid hb5
      clear hb5 HF
      by_cases kz : v1 = 0
      · have t0 : (v1 == 0) = true := by simp [kz]
        have t0' : (v1 != 0) = false := by simp [kz]
        have HZ1 : Hid (Tx.ownAt l ns k = 0) := Lib.hid (HV1'.out.symm.trans kz)
        clear kz
        go_wp2_with fail
        go_roundg (ns.length - (k + 1))
        case measure => omega
        case rel => exact ⟨k + 1, by omega, rfl, by go_num, HBR.out.trans (HB5.out.mono HBR.out.size), fun j hj => by
          rcases Nat.lt_or_ge j k with q | q
          · exact HOW.out j q
          · have : j = k := by omega
            subst this
            exact HZ1.out⟩
      · have t0 : (v1 == 0) = false := by simp [kz]
        have t0' : (v1 != 0) = true := by simp [kz]
        have HV : Hid (Tx.checkT l ns = v1) := Lib.hid (by
          have e1 := Sg.firstE_at hlt HOW.out (by rw [← HV1'.out]; exact kz)
          rw [HV1.out, e1, ← HV1'.out, if_pos kz])
        clear kz
        go_wp2_with fail
        go_ret
        rw [HV.out]
        exact ⟨rfl, HBW2.out.trans (HB5.out.mono HBW2.out.size)⟩
    · have hltI : ¬ (k : Int) < (ns.length : Int) := by omega
      have hD : Tx.Deep ns := Tx.deep_of fun j hj => HOW.out j (by omega)
      have HD := Lib.hid hD
      have HVF : Hid (Tx.checkT l ns = if (List.range ns.length).all (Tx.famB ns) = true then 0 else 20) := Lib.hid (by
        have e1 : Sg.firstE (Tx.ownAt l ns) ns.length = 0 := Sg.firstE_zero fun j hj => HOW.out j (by omega)
        rw [HV1.out, e1, if_neg (by simp)])
      have HBN : Hid (∀ j, j < ns.length → 0 ≤ Tx.dp ns j ∧ Tx.dp ns j ≤ 4) := Lib.hid fun j hj => own_bounds (HOW.out j (by omega))
      clear hD hlt
      go_upto_region 14 with fail
      obtain ⟨P, hP⟩ : ∃ P, P = wr.heap.size := ⟨_, rfl⟩
      obtain ⟨W4, hW4⟩ : ∃ X, X = wr.alloc (.cells #[.int .i64 0, .int .i64 0, .int .i64 0, .int .i64 0, .int .i64 0] 98) := ⟨_, rfl⟩
      rw [← hW4, ← hP]
      have hb4 : Below P wr W4 := by rw [hW4, hP]; exact (Below.refl _ _).alloc (Nat.le_refl _) _
      have hp4 : W4.heap[P]? = some (.cells #[.int .i64 0, .int .i64 0, .int .i64 0, .int .i64 0, .int .i64 0] 98 (0, 0)) := by rw [hW4, hP]; exact heap_alloc_new _ _
      have hPw : w3.heap.size ≤ P := by rw [hP]; exact HBR.out.size
      have HB4 : Hid (Below w3.heap.size w3 W4) := Lib.hid (HBR.out.trans (hb4.mono hPw))
      have HP4 := Lib.hid hp4
      clear hW4 hP hb4 hp4 y0 y1 y2
      obtain ⟨y0, y1, y2, -⟩ := OWN.out W4 HB4.out
      go_wp2_with fail
      go_loopg [38] ns.length (fun g v wr => ∃ (k : Nat) (ps : Array Value), k ≤ ns.length ∧ g = ns.length - k ∧ v = .int .i64 (k : Int) ∧ Below P W4 wr ∧ wr.heap[P]? = some (.cells ps 98 (0, 0)) ∧ ps.size = 5 ∧ (∀ d, d < 5 → ∃ z, ps[d]? = some (.int .i64 z)) ∧ Tx.PathOk ns k ps ∧ ∀ j, j < k → Tx.famB ns j = true)
      case atStart =>
        refine ⟨0, _, Nat.zero_le _, rfl, rfl, Below.refl _ _, HP4.out, rfl, fun d hd => ?_, Tx.PathOk.zero, fun j hj => absurd hj (Nat.not_lt_zero _)⟩
        rcases (show d = 0 ∨ d = 1 ∨ d = 2 ∨ d = 3 ∨ d = 4 by omega) with rfl | rfl | rfl | rfl | rfl <;> exact ⟨0, rfl⟩
      case round =>
        obtain ⟨k2, ps, hk2, rfl, rfl, hbq, hpq, hps, hall, hpath, hfam⟩ := hrel
        have hb3 : Below w3.heap.size w3 wr := HB4.out.trans (hbq.mono hPw)
        obtain ⟨y0, y1, y2, hbw⟩ := OWN.out wr hb3
        have HBQ := Lib.hid hbq
        have HPQ := Lib.hid hpq
        have HPS := Lib.hid hps
        have HALL := Lib.hid hall
        have HPATH := Lib.hid hpath
        have HFAM := Lib.hid hfam
        have HB3 := Lib.hid hb3
        have HBW4 := Lib.hid hbw
        have hPlt := lt_somT hpq
        clear hbq hpq hps hall hpath hfam hb3 hbw
        by_cases hlt2 : k2 < ns.length
        · have hltI2 : (k2 : Int) < (ns.length : Int) := by omega
          have hk0 : (0 : Int) ≤ (k2 : Int) := by omega
          obtain ⟨bT, off, hA, hbT, hcell⟩ := HR.out.eight (by omega)
          subst hA
          have hk : ∀ q, q.block = bT → wr.cell? q = w.cell? q := fun q hq => World.cell?_of_block (by rw [hq]; exact HBW4.out.block bT hbT)
          obtain ⟨p0, p1, p2, p3, p4, p5, p6, p7⟩ := hcell k2 hlt2
          obtain ⟨n, hn⟩ : ∃ n, n = Tx.nd ns k2 := ⟨_, rfl⟩
          rw [← hn] at p0 p1 p2 p3 p4 p5 p6 p7
          obtain ⟨hd0, hd4⟩ := HBN.out k2 hlt2
          obtain ⟨e, he⟩ : ∃ e : Nat, Tx.dp ns k2 = (e : Int) := ⟨(Tx.dp ns k2).toNat, by omega⟩
          have hde : n.depth = (e : Int) := by rw [← he, hn]; rfl
          rw [hde] at p1
          have q0 := (hk ⟨bT, off + k2 * 8, none⟩ rfl).trans p0
          have q1 := (hk ⟨bT, off + k2 * 8 + 1, none⟩ rfl).trans p1
          have q2 := (hk ⟨bT, off + k2 * 8 + 2, none⟩ rfl).trans p2
          have q3 := (hk ⟨bT, off + k2 * 8 + 3, none⟩ rfl).trans p3
          have q4 := (hk ⟨bT, off + k2 * 8 + 4, none⟩ rfl).trans p4
          have q5 := (hk ⟨bT, off + k2 * 8 + 5, none⟩ rfl).trans p5
          have q6 := (hk ⟨bT, off + k2 * 8 + 6, none⟩ rfl).trans p6
          have q7 := (hk ⟨bT, off + k2 * 8 + 7, none⟩ rfl).trans p7
          have HE := Lib.hid he
          have HN := Lib.hid hn
          have he4 : (e : Int) < 5 := by omega
          have he0 : (0 : Int) ≤ (e : Int) := by omega
          obtain ⟨z, hz⟩ := HALL.out e (by omega)
          have r0 := (path_cell HPQ.out e).1.trans hz
          have r1 := (path_cell HPQ.out e).2
          obtain ⟨par, hpar⟩ : ∃ par, par = (if 0 < e then Tx.pkV ns k2 else 0) := ⟨_, rfl⟩
          have HPAR := Lib.hid hpar
          have HFM : Hid (∀ o : Obj, Calls Tryz.prog 57 #[.slice (some ⟨bT, off, none⟩) ns.length c, .int .i64 k2, .int .i64 par] ((wr.setCell ⟨P, e, none⟩ (.int .i64 n.kind)).alloc o) (RetFam (Tx.famB ns k2) ((wr.setCell ⟨P, e, none⟩ (.int .i64 n.kind)).alloc o))) := Lib.hid fun o => by
            have hbs : Below w.heap.size w ((wr.setCell ⟨P, e, none⟩ (.int .i64 n.kind)).alloc o) := (HBW4.out.setCell (p := ⟨P, e, none⟩) (by show w.heap.size ≤ P; have := HZ.out; omega) _).alloc (by rw [size_setT]; exact HBW4.out.size) o
            have hfa := family_any ns k2 par _ _ c ((HR.out.below hbs).more hbs.size) hlt2 (by have := HN200.out; omega)
            rw [Tx.famG_eq HD.out hlt2 (fun h0 => by rw [HPAR.out, if_pos (by have := HE.out; omega)])] at hfa
            exact hfa
          obtain ⟨fb, hfb⟩ : ∃ fb, fb = Tx.famB ns k2 := ⟨_, rfl⟩
          rw [← hfb] at HFM
          have HFB := Lib.hid hfb
          have HNEXT : Hid (∀ (o : Obj) (W8 : World), Below ((wr.setCell ⟨P, e, none⟩ (.int .i64 n.kind)).alloc o).heap.size ((wr.setCell ⟨P, e, none⟩ (.int .i64 n.kind)).alloc o) W8 → Below P W4 W8 ∧ ∃ ps' : Array Value, W8.heap[P]? = some (.cells ps' 98 (0, 0)) ∧ ps'.size = 5 ∧ (∀ d, d < 5 → ∃ z, ps'[d]? = some (.int .i64 z)) ∧ Tx.PathOk ns (k2 + 1) ps') := Lib.hid fun o W8 h8 => by
            have hWs : ((wr.setCell ⟨P, e, none⟩ (.int .i64 n.kind)).alloc o).heap.size = wr.heap.size + 1 := by rw [World.size_alloc, size_setT]
            refine ⟨HBQ.out.trans ((((Below.refl P wr).setCell (p := ⟨P, e, none⟩) (Nat.le_refl _) _).alloc (by rw [size_setT]; omega) o).trans (h8.mono (by omega))), ps.setIfInBounds e (.int .i64 n.kind), ?_, by rw [Array.size_setIfInBounds]; exact HPS.out, fun d hd => ?_, ?_⟩
            · rw [h8.block P (by omega), Below.heap_alloc _ _ _ (by rw [size_setT]; exact hPlt)]
              exact Go.Joins.block_setCell (i := e) HPQ.out _
            · by_cases hq : d = e
              · subst hq
                exact ⟨n.kind, by simp [HPS.out, hd]⟩
              · rw [Array.getElem?_setIfInBounds_ne (fun x => hq x.symm)]
                exact HALL.out d hd
            · have := HPATH.out.step HE.out (by rw [HPS.out]; omega)
              rw [show Tx.kd ns k2 = n.kind by rw [HN.out]; rfl] at this
              exact this
          have HPR : Hid (∀ f, e = f + 1 → wr.cell? ⟨P, f, none⟩ = some (.int .i64 par)) := Lib.hid fun f hf => by
            rw [(path_cell HPQ.out f).1, HPATH.out.par HD.out hlt2 (by rw [HE.out, hf]), HPAR.out, if_pos (by omega)]
          clear hfb hk hcell p0 p1 p2 p3 p4 p5 p6 p7 hn hd0 hd4 he hde hz hpar
          have hne : ¬ Z + 1 = P := by omega
          have hne' : ¬ P = Z + 1 := by omega
          have hZl : Z + 1 < wr.heap.size := by omega
          by_cases hz0 : 0 < e
          · have hz0I : (0 : Int) < (e : Int) := by omega
            obtain ⟨f, hf⟩ : ∃ f, e = f + 1 := ⟨e - 1, by omega⟩
            have hfI : (e : Int) - 1 = (f : Int) := by omega
            have hf4 : (f : Int) < 5 := by omega
            have hf0 : (0 : Int) ≤ (f : Int) := by omega
            have rp := HPR.out f hf
            clear hf
            go_wp2_with fail
            refine (HFM.out _).mono ?_
            rintro e8 w8 ⟨rfl, hb8⟩
            have HB8 := Lib.hid hb8
            clear hb8
            cases fb
            · have HV : Hid (Tx.checkT l ns = 20) := Lib.hid (HVF.out.trans (if_neg (Tx.not_all_fam hlt2 HFB.out.symm)))
              go_wp2_with fail
              go_ret
              rw [HV.out]
              obtain ⟨hn1, -⟩ := HNEXT.out _ w8 HB8.out
              exact ⟨rfl, (OWN.out w8 (HB4.out.trans (hn1.mono hPw))).2.2.2⟩
            · go_wp2_with fail
              go_roundg (ns.length - (k2 + 1))
              case measure => omega
              case rel =>
                obtain ⟨hn1, ps', hn2, hn3, hn4, hn5⟩ := HNEXT.out _ w8 HB8.out
                refine ⟨k2 + 1, ps', by omega, rfl, by go_num, hn1, hn2, hn3, hn4, hn5, fun j hj => ?_⟩
                rcases Nat.lt_or_ge j k2 with q | q
                · exact HFAM.out j q
                · have : j = k2 := by omega
                  subst this
                  exact HFB.out.symm
          · have hz0I : ¬ (0 : Int) < (e : Int) := by omega
            have HP0 : Hid (par = 0) := Lib.hid (HPAR.out.trans (if_neg hz0))
            have hp0 := HP0.out
            subst hp0
            go_wp2_with fail
            refine (HFM.out _).mono ?_
            rintro e8 w8 ⟨rfl, hb8⟩
            have HB8 := Lib.hid hb8
            clear hb8
            cases fb
            · have HV : Hid (Tx.checkT l ns = 20) := Lib.hid (HVF.out.trans (if_neg (Tx.not_all_fam hlt2 HFB.out.symm)))
              go_wp2_with fail
              go_ret
              rw [HV.out]
              obtain ⟨hn1, -⟩ := HNEXT.out _ w8 HB8.out
              exact ⟨rfl, (OWN.out w8 (HB4.out.trans (hn1.mono hPw))).2.2.2⟩
            · go_wp2_with fail
              go_roundg (ns.length - (k2 + 1))
              case measure => omega
              case rel =>
                obtain ⟨hn1, ps', hn2, hn3, hn4, hn5⟩ := HNEXT.out _ w8 HB8.out
                refine ⟨k2 + 1, ps', by omega, rfl, by go_num, hn1, hn2, hn3, hn4, hn5, fun j hj => ?_⟩
                rcases Nat.lt_or_ge j k2 with q | q
                · exact HFAM.out j q
                · have : j = k2 := by omega
                  subst this
                  exact HFB.out.symm
        · have hltI2 : ¬ (k2 : Int) < (ns.length : Int) := by omega
          have HV : Hid (Tx.checkT l ns = 0) := Lib.hid (HVF.out.trans (if_pos (Tx.all_fam fun j hj => HFAM.out j (by omega))))
          go_wp2_with fail
          go_ret
          rw [HV.out]
          exact ⟨rfl, HBW4.out⟩
end Go.Proofs.YtenmkbpdkfhbjaaGreat
namespace Go.Proofs.YtenmkbpdkfhbjaaGreat
open Go Go.RowKit

set_option maxRecDepth 100000 in
set_option maxHeartbeats 16000000 in
theorem r2Check_any (l : Sg.SList) (ns : List Tx.Node) (vl : Value) (w : World) (A : Option Addr) (c : Nat) (hl : RdSL w w.heap.size vl l) (h : RdN w w.heap.size (.slice A ns.length c) ns) :
    Calls Tryz.prog 23 #[vl, .agg #[.slice A ns.length c]] w (RetE (Tx.checkT l ns) w) := by
  have HL := Lib.hid hl
  have HR := Lib.hid h
  obtain ⟨⟨us, rfl, hsg⟩, -⟩ := hl
  obtain ⟨As, cs, rfl, -⟩ := id hsg
  have hb : ns.length ≤ c ∧ c ≤ 9223372036854775807 := by
    obtain ⟨A', c', hv, h1, h2, -⟩ := h
    cases hv
    exact ⟨h1, h2⟩
  have HSC : Hid (∀ W, Below w.heap.size w W → Calls Tryz.prog 43 #[.agg #[.int .i64 l.periods, .slice As l.signs.length cs]] W (RetIB (Sg.checkV l) W)) := Lib.hid fun W hW => r1Check_any _ l W (HL.out.keep hW.size hW)
  obtain ⟨Z, hZ⟩ : ∃ Z, Z = w.heap.size := ⟨_, rfl⟩
  obtain ⟨ec, hec⟩ : ∃ ec, ec = Sg.checkV l := ⟨_, rfl⟩
  rw [← hec] at HSC
  have HEC := Lib.hid hec
  have HZ := Lib.hid hZ
  clear hsg h hec
  go_enter Tryz.func23, Tryz.ntmps23
  go_wp2_with fail
  rw [← hZ]
  refine at_worldF ?_
  intro WL hWL
  have hbl : Below Z w WL := by rw [hWL, hZ]; exact ((Below.refl _ _).alloc (Nat.le_refl _) _).alloc (by simp) _
  have hsz : WL.heap.size = Z + 2 := by rw [hWL, hZ]; simp
  have b0 : WL.heap[Z]? = some (.cells #[.int .i64 l.periods, .slice As l.signs.length cs] 24 (0, 0)) := by rw [hWL, hZ]; exact heap_alloc2_old _ _ _
  have b1 : WL.heap[Z + 1]? = some (.cells #[.slice A ns.length c] 27 (0, 0)) := by rw [hWL, hZ]; exact heap_alloc2_new _ _ _
  clear hWL
  refine (HSC.out WL (by rw [← hZ]; exact hbl)).mono ?_
  rintro e w3 ⟨rfl, hb3⟩
  have HB : Hid (Below Z w w3) := Lib.hid (hbl.trans (hb3.mono (by omega)))
  have hs3 : Z + 2 ≤ w3.heap.size := by have := hb3.size; omega
  have HB0 := Lib.hid ((hb3.block Z (by omega)).trans b0)
  have HB1 := Lib.hid ((hb3.block (Z + 1) (by omega)).trans b1)
  clear hb3 hbl hsz b0 b1 hZ
  have OWN : Hid (∀ W : World, Below w3.heap.size w3 W → W.cell? ⟨Z, 0, none⟩ = some (.int .i64 l.periods) ∧ W.cell? ⟨Z, 1, none⟩ = some (.slice As l.signs.length cs) ∧ W.cell? ⟨Z + 1, 0, none⟩ = some (.slice A ns.length c) ∧ Below w.heap.size w W) := Lib.hid fun W hW => by
    have e0 := (hW.block Z (by omega)).trans HB0.out
    have e1 := (hW.block (Z + 1) (by omega)).trans HB1.out
    refine ⟨by simp [World.cell?, e0], by simp [World.cell?, e0], by simp [World.cell?, e1], ?_⟩
    rw [← HZ.out]
    exact HB.out.trans (hW.mono (by omega))
  obtain ⟨x0, x1, x2, hbw⟩ := OWN.out w3 (Below.refl _ _)
  have HBW := Lib.hid hbw
  clear hbw
  by_cases k0 : ec = 0
  case neg =>
    have t0 : (ec == 0) = false := by simp [k0]
    have t0' : (ec != 0) = true := by simp [k0]
    have HV : Hid (Tx.checkT l ns = ec) := Lib.hid (by unfold Tx.checkT; rw [← HEC.out, if_pos k0])
    clear k0
    go_wp2_with fail
    go_ret
    rw [HV.out]
    exact ⟨rfl, HBW.out⟩
  have HV0 : Hid (Tx.checkT l ns = if 200 < ns.length then 2 else if Sg.firstE (Tx.ownAt l ns) ns.length ≠ 0 then Sg.firstE (Tx.ownAt l ns) ns.length else if (List.range ns.length).all (Tx.famB ns) = true then 0 else 20) := Lib.hid (by
    unfold Tx.checkT
    rw [← HEC.out, if_neg (by simpa using k0)])
  subst k0
  by_cases k1 : 200 < ns.length
  · have k1I : (200 : Int) < (ns.length : Int) := by omega
    have HV : Hid (Tx.checkT l ns = 2) := Lib.hid (HV0.out.trans (if_pos k1))
    clear k1
    go_wp2_with fail
    go_ret
    rw [HV.out]
    exact ⟨rfl, HBW.out⟩
  have k1I : ¬ (200 : Int) < (ns.length : Int) := by omega
  have HV1 := Lib.hid (HV0.out.trans (if_neg k1))
  have hnI : (ns.length : Int) ≤ 200 := by omega
  have HN200 : Hid (ns.length ≤ 200) := Lib.hid (by omega)
  clear k1
  go_upto_region 6 with fail
  go_wp2_with fail
  go_loopg [6] ns.length (fun g v wr => ∃ k : Nat, k ≤ ns.length ∧ g = ns.length - k ∧ v = .int .i64 (k : Int) ∧ Below w3.heap.size w3 wr ∧ ∀ j, j < k → Tx.ownAt l ns j = 0)
  case atStart => exact ⟨0, Nat.zero_le _, rfl, rfl, Below.refl _ _, fun j hj => absurd hj (Nat.not_lt_zero _)⟩
  case round =>
    obtain ⟨k, hk, rfl, rfl, hbr, hown⟩ := hrel
    have HBR := Lib.hid hbr
    have HOW := Lib.hid hown
    obtain ⟨y0, y1, y2, hbw⟩ := OWN.out wr hbr
    have HBW2 := Lib.hid hbw
    clear hbr hown hbw x0 x1 x2
    by_cases hlt : k < ns.length
    · have hltI : (k : Int) < (ns.length : Int) := by omega
      obtain ⟨v1, hv1⟩ : ∃ v1, v1 = Tx.ownAt l ns k := ⟨_, rfl⟩
      have HF : Hid (Calls Tryz.prog 46 #[.agg #[.int .i64 l.periods, .slice As l.signs.length cs], .agg #[.slice A ns.length c], .int .i64 k] wr (RetE v1 wr)) := Lib.hid (hv1 ▸ r2own_any l ns k _ wr A c (HL.out.keep HBW2.out.size HBW2.out) ((HR.out.below HBW2.out).more HBW2.out.size) hlt (by have := HN200.out; omega) HOW.out)
      have HV1' := Lib.hid hv1
      clear hv1
      go_wp2_with fail
      refine HF.out.mono ?_
      rintro e w5 ⟨rfl, hb5⟩
      have HB5 := Lib.hid hb5
      clear hb5 HF
      by_cases kz : v1 = 0
      · have t0 : (v1 == 0) = true := by simp [kz]
        have t0' : (v1 != 0) = false := by simp [kz]
        have HZ1 : Hid (Tx.ownAt l ns k = 0) := Lib.hid (HV1'.out.symm.trans kz)
        clear kz
        go_wp2_with fail
        go_roundg (ns.length - (k + 1))
        case measure => omega
        case rel => exact ⟨k + 1, by omega, rfl, by go_num, HBR.out.trans (HB5.out.mono HBR.out.size), fun j hj => by
          rcases Nat.lt_or_ge j k with q | q
          · exact HOW.out j q
          · have : j = k := by omega
            subst this
            exact HZ1.out⟩
      · have t0 : (v1 == 0) = false := by simp [kz]
        have t0' : (v1 != 0) = true := by simp [kz]
        have HV : Hid (Tx.checkT l ns = v1) := Lib.hid (by
          have e1 := Sg.firstE_at hlt HOW.out (by rw [← HV1'.out]; exact kz)
          rw [HV1.out, e1, ← HV1'.out, if_pos kz])
        clear kz
        go_wp2_with fail
        go_ret
        rw [HV.out]
        exact ⟨rfl, HBW2.out.trans (HB5.out.mono HBW2.out.size)⟩
    · have hltI : ¬ (k : Int) < (ns.length : Int) := by omega
      have HOWN : Hid (∀ j, j < ns.length → Tx.ownAt l ns j = 0) := Lib.hid fun j hj => HOW.out j (by omega)
      have HVF : Hid (Tx.checkT l ns = if (List.range ns.length).all (Tx.famRB ns) = true then 0 else 20) := Lib.hid (by
        have e1 : Sg.firstE (Tx.ownAt l ns) ns.length = 0 := Sg.firstE_zero HOWN.out
        rw [HV1.out, e1, if_neg (by simp), Tx.fam_all_ref HOWN.out])
      clear hlt
      go_wp2_with fail
      go_loopg [8] ns.length (fun g v wr => ∃ k : Nat, k ≤ ns.length ∧ g = ns.length - k ∧ v = .int .i64 (k : Int) ∧ Below w3.heap.size w3 wr ∧ ((List.range k).all (Tx.famRB ns)) = true)
      case atStart => exact ⟨0, Nat.zero_le _, rfl, rfl, HBR.out, rfl⟩
      case round =>
        obtain ⟨k2, hk2, rfl, rfl, hbq, hall⟩ := hrel
        have HBQ := Lib.hid hbq
        have HALL := Lib.hid hall
        obtain ⟨y0, y1, y2, hbw⟩ := OWN.out wr hbq
        have HBW3 := Lib.hid hbw
        clear hbq hall hbw
        by_cases hlt : k2 < ns.length
        · have hltI : (k2 : Int) < (ns.length : Int) := by omega
          have hk0 : (0 : Int) ≤ (k2 : Int) := by omega
          obtain ⟨fb, hfb⟩ : ∃ fb, fb = Tx.famRB ns k2 := ⟨_, rfl⟩
          obtain ⟨pi, hpi⟩ : ∃ pi, pi = Tx.parI ns k2 := ⟨_, rfl⟩
          have HPC : Hid (∀ m : Nat, Calls Tryz.prog 48 #[.agg #[.slice A ns.length c], .int .i64 k2] (wr.drewN m) (fun e w' => e = .returned (.int .i64 pi) ∧ Below wr.heap.size wr w')) := Lib.hid fun m => by
            have hbm := HBW3.out.trans (drew_below (B := w.heap.size) m)
            have := r2par_any ns k2 (wr.drewN m) A c ((HR.out.below hbm).more hbm.size) (by have := HN200.out; omega) hlt
            rw [← hpi] at this
            refine this.mono ?_
            rintro e w' ⟨rfl, q⟩
            exact ⟨rfl, (drew_below m).trans (q.mono (Nat.le_of_eq rfl))⟩
          have HFC : Hid (∀ W, Below wr.heap.size wr W → Calls Tryz.prog 47 #[.agg #[.slice A ns.length c], .int .i64 k2, .int .i64 pi] W (RetFam fb W)) := Lib.hid fun W hW => by
            rw [hpi, hfb]
            have hbw := HBW3.out.trans (hW.mono HBW3.out.size)
            exact r2fam_any l ns k2 W A c ((HR.out.below hbw).more hbw.size) hlt (by have := HN200.out; omega) HOWN.out
          have HNX : Hid (((List.range (k2 + 1)).all (Tx.famRB ns)) = fb) := Lib.hid (by rw [List.range_succ, List.all_append, HALL.out, hfb]; simp)
          have HBAD : Hid (fb = false → Tx.checkT l ns = 20) := Lib.hid fun q => by
            rw [HVF.out, if_neg]
            rw [Bool.not_eq_true, List.all_eq_false]
            exact ⟨k2, List.mem_range.2 hlt, by rw [← hfb, q]; decide⟩
          clear hfb hpi
          cases fb
          · have HV := Lib.hid (HBAD.out rfl)
            go_upto_region 15 with fail
            go_region_with (first
              | (go_at_call 48; refine (HPC.out 1).mono ?_; rintro e w5 ⟨rfl, hb5⟩; have HB5 := Lib.hid hb5; obtain ⟨y0', y1', y2', -⟩ := OWN.out w5 (HBQ.out.trans (hb5.mono HBQ.out.size)); clear hb5)
              | (go_at_call 47; refine (HFC.out w5 HB5.out).mono ?_; rintro e w6 ⟨rfl, hb6⟩; have HB6 := Lib.hid (HB5.out.trans (hb6.mono HB5.out.size)); clear hb6))
            all_goals
              go_wp2_with fail
              go_ret
              rw [HV.out]
              exact ⟨rfl, HBW3.out.trans (HB6.out.mono HBW3.out.size)⟩
          · go_upto_region 15 with fail
            go_region_with (first
              | (go_at_call 48; refine (HPC.out 1).mono ?_; rintro e w5 ⟨rfl, hb5⟩; have HB5 := Lib.hid hb5; obtain ⟨y0', y1', y2', -⟩ := OWN.out w5 (HBQ.out.trans (hb5.mono HBQ.out.size)); clear hb5)
              | (go_at_call 47; refine (HFC.out w5 HB5.out).mono ?_; rintro e w6 ⟨rfl, hb6⟩; have HB6 := Lib.hid (HB5.out.trans (hb6.mono HB5.out.size)); clear hb6))
            all_goals
              go_wp2_with fail
              go_roundg (ns.length - (k2 + 1))
              case measure => omega
              case rel => exact ⟨k2 + 1, by omega, rfl, by go_num, HBQ.out.trans (HB6.out.mono HBQ.out.size), HNX.out⟩
        · have hltI : ¬ (k2 : Int) < (ns.length : Int) := by omega
          have HV : Hid (Tx.checkT l ns = 0) := Lib.hid (by
            have : k2 = ns.length := by omega
            rw [HVF.out, ← this, if_pos HALL.out])
          clear hlt
          go_wp2_with fail
          go_ret
          rw [HV.out]
          exact ⟨rfl, HBW3.out⟩
end Go.Proofs.YtenmkbpdkfhbjaaGreat
