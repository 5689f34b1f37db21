/- code.Read. -/
import Derived.Test.YtenmkbpdkfhbjaaRbBuild
import Derived.Test.YtenmkbpdkfhbjaaRbCdParse
import Derived.Test.YtenmkbpdkfhbjaaRbCdParseT
import Derived.Test.YtenmkbpdkfhbjaaRbTxCheck
namespace Go.Proofs.Ytenmkbpdkfhbjaa
open Go Go.RowKit

def coderV (kind : Int) : Value := if kind = 1 then .iface 58 (.agg #[]) else if kind = 2 then .iface 59 (.agg #[]) else Value.nilIface
def coderE (kind : Int) : Int := if kind = 1 ∨ kind = 2 then 0 else 1
theorem coderOf_any (kind : Int) (w : World) : Calls Try.prog 10 #[.int .i64 kind] w (fun e w' => e = .returned (.tuple #[coderV kind, .int .i64 (coderE kind)]) ∧ w' = w) := by
  by_cases k1 : kind = 1
  · subst k1
    go_enter Try.func10, Try.ntmps10
    go_wp2_with fail
    refine bodyPost_ret (results_tmp2 rfl _ _ _) rfl ?_
    exact ⟨rfl, rfl⟩
  · by_cases k2 : kind = 2
    · subst k2
      go_enter Try.func10, Try.ntmps10
      go_wp2_with fail
      refine bodyPost_ret (results_tmp2 rfl _ _ _) rfl ?_
      exact ⟨rfl, rfl⟩
    · have t1 : (kind == 1) = false := by simp [k1]
      have t2 : (kind == 2) = false := by simp [k2]
      have HV : Hid (coderV kind = Value.nilIface ∧ coderE kind = 1) := Lib.hid ⟨by unfold coderV; rw [if_neg k1, if_neg k2], if_neg (by omega)⟩
      clear k1 k2
      go_enter Try.func10, Try.ntmps10
      go_wp2_with fail
      refine bodyPost_ret (results_tmp2 rfl _ _ _) rfl ?_
      rw [HV.out.1, HV.out.2]
      exact ⟨rfl, rfl⟩
theorem results_read {tmps : Array Value} {w : World} {g : Nat} {u v7 v8 : Value} (hp : tmps.getD 6 undef = .pointer (some ⟨g, 0, none⟩)) (h7 : tmps.getD 7 undef = v7) (h8 : tmps.getD 8 undef = v8) (hg : w.heap[g]? = some (.cells #[u] 32 (0, 0))) :
    (results Try.f7 tmps).run Try.prog w = .ok (.tuple #[.agg #[u], v7, v8]) w := by
  have hp' : tmps[6]?.getD undef = .pointer (some ⟨g, 0, none⟩) := by simpa using hp
  have h7' : tmps[7]?.getD undef = v7 := by simpa using h7
  have h8' : tmps[8]?.getD undef = v8 := by simpa using h8
  have hl : w.cell? ⟨g, 0, none⟩ = some u := bx_cell hg
  simp only [results, show Try.f7.results = #[.cell 6 32, .tmp 7, .tmp 8] from rfl]
  simp [hp', h7', h8', asAddr, hl, go_sem, Sem.run_bind, Result.andThen]
theorem upd_below {ok : Nat → Prop} {f : List UInt8 → Int} {W W' : World} {B : Nat} (h : Upd ok f W W') (hB : ∀ b, b < B → ¬ ok b) : Below B W W' := ⟨h.os, h.tape, h.output, Nat.le_of_eq h.size.symm, fun b hb => h.only b (hB b hb)⟩
def RetRead (q : List Tx.Node × Int × Int) (w : World) (e : Ending) (w' : World) : Prop :=
  ∃ A c, e = .returned (.tuple #[.agg #[.slice A q.1.length c], .int .i64 q.2.1, .int .i64 q.2.2]) ∧ Below w.heap.size w w' ∧ w'.ownsRow w.heap.size 74 8 (.slice A q.1.length c) q.1.length (q.1.flatMap encN)
theorem RetRead.nil {q : List Tx.Node × Int × Int} {a b : Int} {w w' : World} (hq : q = ([], a, b)) (hb : Below w.heap.size w w') : RetRead q w (.returned (.tuple #[.agg #[.slice none 0 0], .int .i64 a, .int .i64 b])) w' := by
  subst hq
  exact ⟨none, 0, rfl, hb, World.ownsRow_nil _ _ _ _⟩
set_option maxRecDepth 100000 in
set_option maxHeartbeats 16000000 in
theorem Read_any (kind : Int) (l : Sg.SList) (vl : Value) (s : ByteArray) (hs0 : s.size ≤ maxLen) (w : World) (hl : RdSL w w.heap.size vl l) : Calls Try.prog 7 #[.int .i64 kind, vl, .string s] w (RetRead (Cd.readV kind l s.data.toList) w) := by
  have HL := Lib.hid hl
  obtain ⟨⟨us, rfl, hsg⟩, -⟩ := hl
  obtain ⟨As, cs, rfl, -⟩ := id hsg
  clear hsg
  obtain ⟨Z, hZ⟩ : ∃ Z, Z = w.heap.size := ⟨_, rfl⟩
  have HZ := Lib.hid hZ
  obtain ⟨cv, hcv⟩ : ∃ cv, cv = coderV kind := ⟨_, rfl⟩
  obtain ⟨ck, hck⟩ : ∃ ck : Int, ck = coderE kind := ⟨_, rfl⟩
  have HCO : Hid (∀ W, Calls Try.prog 10 #[.int .i64 kind] W (fun e w' => e = .returned (.tuple #[cv, .int .i64 ck]) ∧ w' = W)) := Lib.hid fun W => by rw [hcv, hck]; exact coderOf_any kind W
  have HCV := Lib.hid hcv
  have HCK := Lib.hid hck
  have HSI : Hid (s.data.toList.length = s.size) := Lib.hid (by simp)
  have HM := Lib.hid hs0
  clear hcv hck hs0
  go_enter Try.func7, Try.ntmps7
  go_wp2_with fail
  rw [← hZ]
  refine at_worldF ?_
  intro WL hWL
  have hbl : Below Z w WL := by rw [hWL, hZ]; exact ((Below.refl _ _).alloc (Nat.le_refl _) _).alloc (by simp) _
  have hsz : WL.heap.size = Z + 2 := by rw [hWL, hZ]; simp
  have b0 : WL.heap[Z]? = some (.cells #[.int .i64 l.periods, .slice As l.signs.length cs] 24 (0, 0)) := by rw [hWL, hZ]; exact heap_alloc2_old _ _ _
  have b1 : WL.heap[Z + 1]? = some (.cells #[.slice none 0 0] 32 (0, 0)) := by rw [hWL, hZ]; exact heap_alloc2_new _ _ _
  clear hWL
  refine (HCO.out WL).mono ?_
  rintro e w1 ⟨rfl, hw1⟩
  subst hw1
  have HB := Lib.hid hbl
  have HB0 := Lib.hid b0
  have HB1 := Lib.hid b1
  -- what holds of any world above
  have OWN : Hid (∀ W : World, Below (Z + 2) w1 W → W.cell? ⟨Z, 0, none⟩ = some (.int .i64 l.periods) ∧ W.cell? ⟨Z, 1, none⟩ = some (.slice As l.signs.length cs) ∧ W.cell? ⟨Z + 1, 0, none⟩ = some (.slice none 0 0) ∧ W.frozen? ⟨Z + 1, 0, none⟩ = false ∧ Below w.heap.size w W) := Lib.hid fun W hW => by
    have e0 := (hW.block Z (by omega)).trans HB0.out
    have e1 := (hW.block (Z + 1) (by omega)).trans HB1.out
    refine ⟨by simp [World.cell?, e0], by simp [World.cell?, e0], by simp [World.cell?, e1], bx_free e1, ?_⟩
    rw [← HZ.out]
    exact HB.out.trans (hW.mono (by omega))
  -- an error ends it
  have HERR : Hid (∀ (W : World) (a b : Int), Below (Z + 2) w1 W → Cd.readV kind l s.data.toList = ([], a, b) → (W.setCell ⟨Z + 1, 0, none⟩ (.slice none 0 0)).heap[Z + 1]? = some (.cells #[.slice none 0 0] 32 (0, 0)) ∧ RetRead (Cd.readV kind l s.data.toList) w (.returned (.tuple #[.agg #[.slice none 0 0], .int .i64 a, .int .i64 b])) (W.setCell ⟨Z + 1, 0, none⟩ (.slice none 0 0))) := Lib.hid fun W a b hW hq => by
    have e1 := (hW.block (Z + 1) (by omega)).trans HB1.out
    refine ⟨bx_set e1, RetRead.nil hq ((OWN.out W hW).2.2.2.2.setCell (p := ⟨Z + 1, 0, none⟩) (by show w.heap.size ≤ Z + 1; have := HZ.out; omega) _)⟩
  obtain ⟨x0, x1, x2, x3, -⟩ := OWN.out w1 (Below.refl _ _)
  clear hbl b0 b1 hZ
  by_cases kk : kind = 1 ∨ kind = 2
  case neg =>
    have hq : Cd.readV kind l s.data.toList = ([], 0, 1) := by unfold Cd.readV; rw [if_pos (by omega)]
    have hk1 : ck = 1 := by rw [HCK.out]; exact if_neg kk
    have HQ := Lib.hid (HERR.out w1 0 1 (Below.refl _ _) hq)
    clear hq kk
    subst hk1
    go_wp2_with fail
    refine bodyPost_ret (results_read rfl rfl rfl HQ.out.1) rfl HQ.out.2
  have hk1 : ck = 0 := by rw [HCK.out]; exact if_pos kk
  have HKK := Lib.hid kk
  subst hk1
  clear kk
  obtain ⟨ec, hec⟩ : ∃ ec, ec = Sg.checkV l := ⟨_, rfl⟩
  have HEC := Lib.hid hec
  have HSC : Hid (Calls Try.prog 11 #[.agg #[.int .i64 l.periods, .slice As l.signs.length cs]] w1 (RetIB ec w1)) := Lib.hid (by rw [hec]; exact gCheck_any _ l w1 (HL.out.keep (OWN.out w1 (Below.refl _ _)).2.2.2.2.size (OWN.out w1 (Below.refl _ _)).2.2.2.2))
  clear hec
  go_wp2_with fail
  refine HSC.out.mono ?_
  rintro e w3 ⟨rfl, hb3⟩
  have hb3' : Below (Z + 2) w1 w3 := hb3.mono (by omega)
  have HB3 := Lib.hid hb3'
  obtain ⟨x0, x1, x2, x3, -⟩ := OWN.out w3 hb3'
  have hs3 : Z + 2 ≤ w3.heap.size := by have := hb3.size; omega
  clear hb3 hb3' HSC
  by_cases k0 : ec = 0
  case neg =>
    have hq : Cd.readV kind l s.data.toList = ([], 0, ec) := by unfold Cd.readV; rw [if_neg (by have := HKK.out; omega), ← HEC.out, if_pos k0]
    have HQ := Lib.hid (HERR.out w3 0 ec HB3.out hq)
    have t0 : (ec == 0) = false := by simp [k0]
    have t0' : (ec != 0) = true := by simp [k0]
    clear hq k0
    go_wp2_with fail
    refine bodyPost_ret (results_read rfl rfl rfl HQ.out.1) rfl HQ.out.2
  subst k0
  by_cases k1 : 65536 < s.size
  · have hq : Cd.readV kind l s.data.toList = ([], 0, 2) := by unfold Cd.readV; rw [if_neg (by have := HKK.out; omega), ← HEC.out, if_neg (by simp), if_pos (by have := HSI.out; omega)]
    have HQ := Lib.hid (HERR.out w3 0 2 HB3.out hq)
    have k1I : (65536 : Int) < (s.size : Int) := by omega
    clear hq k1
    go_wp2_with fail
    refine bodyPost_ret (results_read rfl rfl rfl HQ.out.1) rfl HQ.out.2
  have k1I : ¬ (65536 : Int) < (s.size : Int) := by omega
  have HS6 : Hid (s.size ≤ 65536) := Lib.hid (by omega)
  have HRV : Hid (Cd.readV kind l s.data.toList = match Cd.parseG s.data.toList kind with
      | .bad k => ([], (k : Int), 4)
      | .ok xs _ => match Cd.unknownV l (Cd.codesL xs) with
        | some k => ([], (k : Int), 23)
        | none => if Tx.checkT l (Cd.flatL 0 (Cd.resL (Cd.signIx l) xs)) ≠ 0 then ([], 0, Tx.checkT l (Cd.flatL 0 (Cd.resL (Cd.signIx l) xs))) else (Cd.flatL 0 (Cd.resL (Cd.signIx l) xs), 0, 0)) := Lib.hid (by
    unfold Cd.readV
    rw [if_neg (by have := HKK.out; omega), ← HEC.out, if_neg (by simp), if_neg (by have := HSI.out; omega)]
    cases Cd.parseG s.data.toList kind with
    | bad k => rfl
    | ok xs k => simp only; cases Cd.unknownV l (Cd.codesL xs) <;> rfl)
  have HPA : Hid (Calls Try.prog 12 #[cv, .string s] w3 (RetParse kind s w3)) := Lib.hid (by
    rw [HCV.out]
    rcases HKK.out with rfl | rfl
    · exact parse_line s (by have := HS6.out; omega) w3
    · exact parse_tree s (by have := HS6.out; omega) w3)
  clear k1
  unfold RetParse at HPA
  cases hp : Cd.parseG s.data.toList kind with
  | bad pk =>
    rw [hp] at HPA HRV
    clear hp
    go_wp2_with fail
    refine HPA.out.mono ?_
    rintro e w4 ⟨v, n, er, rfl, hb4, rfl, rfl, rfl⟩
    have hb4' : Below (Z + 2) w1 w4 := HB3.out.trans (hb4.mono (by omega))
    have HQ := Lib.hid (HERR.out w4 pk 4 hb4' HRV.out)
    obtain ⟨x0, x1, x2, x3, -⟩ := OWN.out w4 hb4'
    clear hb4 hb4'
    go_wp2_with fail
    refine bodyPost_ret (results_read rfl rfl rfl HQ.out.1) rfl HQ.out.2
  | ok xs pk =>
    rw [hp] at HPA HRV
    have HSZ := Lib.hid (Cd.parse_size hp)
    clear hp
    go_wp2_with fail
    refine HPA.out.mono ?_
    rintro e w4 ⟨v, n, er, rfl, hb4, rfl, rfl, Ax, cx, rfl, hrd⟩
    have hb4' : Below (Z + 2) w1 w4 := HB3.out.trans (hb4.mono (by omega))
    have hs4 : Z + 2 ≤ w4.heap.size := by have := hb4.size; omega
    have HB4 := Lib.hid hb4'
    obtain ⟨x0, x1, x2, x3, hbw4⟩ := OWN.out w4 hb4'
    have HRS : Hid (Calls Try.prog 13 #[.agg #[.int .i64 l.periods, .slice As l.signs.length cs], .slice Ax xs.length cx] w4 (RetRes l (fun b => w3.heap.size ≤ b ∧ b < w4.heap.size) Ax cx xs w4)) := Lib.hid (resolve_any _ l HEC.out.symm _ Ax cx xs w4 (HL.out.keep hbw4.size hbw4) (fun b hb => hb.2) hrd (fun q hq => by have := HSZ.out.2 q hq; omega))
    clear hb4 hb4' hrd hbw4 HPA
    unfold RetRes at HRS
    obtain ⟨un, hun⟩ : ∃ un, un = Cd.unknownV l (Cd.codesL xs) := ⟨_, rfl⟩
    rw [← hun] at HRS
    have HUN := Lib.hid hun
    clear hun
    cases un with
    | some uk =>
      have hq : Cd.readV kind l s.data.toList = ([], (uk : Int), 23) := by rw [HRV.out, ← HUN.out]
      have HRQ := Lib.hid hq
      clear hq
      go_wp2_with fail
      refine HRS.out.mono ?_
      rintro e w5 ⟨⟨W5, hbW, hup⟩, rfl⟩
      have hb5 : Below (Z + 2) w1 w5 := HB4.out.trans ((hbW.mono hs4).trans (upd_below hup fun b hb h => by omega))
      have HQ := Lib.hid (HERR.out w5 uk 23 hb5 HRQ.out)
      obtain ⟨x0, x1, x2, x3, -⟩ := OWN.out w5 hb5
      have d1 : decide ((0 : Int) ≤ (uk : Int)) = true := by simp
      clear hbW hup hb5 HRS
      go_wp2_with fail
      refine bodyPost_ret (results_read rfl rfl rfl HQ.out.1) rfl HQ.out.2
    | none =>
      go_wp2_with fail
      refine HRS.out.mono ?_
      rintro e w5 ⟨⟨W5, hbW, hup⟩, rfl, hit⟩
      have hb5 : Below (Z + 2) w1 w5 := HB4.out.trans ((hbW.mono hs4).trans (upd_below hup fun b hb h => by omega))
      have hs5 : w4.heap.size ≤ w5.heap.size := by have := hbW.size; have := hup.size; omega
      have HB5 := Lib.hid hb5
      obtain ⟨x0, x1, x2, x3, -⟩ := OWN.out w5 hb5
      obtain ⟨d, hd⟩ := hit.deep
      obtain ⟨ns, hns⟩ : ∃ ns, ns = Cd.flatL 0 (Cd.resL (Cd.signIx l) xs) := ⟨_, rfl⟩
      have hsl : Cd.sizeL xs ≤ 65537 := by have := HSZ.out.1; have := HSI.out; have := HS6.out; omega
      have HFL : Hid (Calls Try.prog 14 #[.slice none 0 0, .slice Ax xs.length cx, .int .i64 0] w5 (fun e w' => ∃ v', e = .returned v' ∧ w'.ownsRow w5.heap.size 74 8 v' ns.length (ns.flatMap encN) ∧ Below w5.heap.size w5 w')) := Lib.hid (by
        have := flat_any (Cd.signIx l) w5.heap.size _ (fun b hb => by have := hb.2; omega) d Ax cx xs 0 (.slice none 0 0) [] w5 hd (World.ownsRow_nil _ _ _ _) (Nat.le_refl _) (by omega) (by simp; omega)
        rw [hns]
        exact this)
      have HRN : Hid (Cd.readV kind l s.data.toList = if Tx.checkT l ns ≠ 0 then ([], 0, Tx.checkT l ns) else (ns, 0, 0)) := Lib.hid (by rw [HRV.out, ← HUN.out, hns])
      clear hbW hup hb5 HRS hit hd hns
      go_wp2_with fail
      refine HFL.out.mono ?_
      rintro e w6 ⟨v6, rfl, hown6, hb6⟩
      obtain ⟨A6, c6, rfl⟩ := own_form hown6
      have HO6 := Lib.hid hown6
      have hb6' : Below (Z + 2) w1 w6 := HB5.out.trans (hb6.mono (by omega))
      have hs6 := hb6.size
      have HB6 := Lib.hid hb6'
      obtain ⟨x0, x1, x2, x3, hbw6⟩ := OWN.out w6 hb6'
      have HBW6 := Lib.hid hbw6
      obtain ⟨W7, hW7⟩ : ∃ X, X = w6.setCell ⟨Z + 1, 0, none⟩ (.slice A6 ns.length c6) := ⟨_, rfl⟩
      have hs7 : W7.heap.size = w6.heap.size := by rw [hW7, size_setT]
      have HBW7 : Hid (Below w.heap.size w W7) := Lib.hid (by rw [hW7]; exact hbw6.setCell (p := ⟨Z + 1, 0, none⟩) (by show w.heap.size ≤ Z + 1; have := HZ.out; omega) _)
      have HO7 : Hid (W7.ownsRow w5.heap.size 74 8 (.slice A6 ns.length c6) ns.length (ns.flatMap encN)) := Lib.hid (by rw [hW7]; exact ownsRow_setCell_below hown6 (by show Z + 1 < w5.heap.size; omega) _)
      have HT7 : Hid (W7.heap[Z + 1]? = some (.cells #[.slice A6 ns.length c6] 32 (0, 0))) := Lib.hid (by rw [hW7]; exact bx_set ((hb6'.block (Z + 1) (by omega)).trans HB1.out))
      have HZ7 : Hid (W7.heap[Z]? = some (.cells #[.int .i64 l.periods, .slice As l.signs.length cs] 24 (0, 0))) := Lib.hid (by rw [hW7, Below.heap_setCell _ _ _ _ (by show Z ≠ Z + 1; omega)]; exact (hb6'.block Z (by omega)).trans HB0.out)
      obtain ⟨ev, hev⟩ : ∃ ev, ev = Tx.checkT l ns := ⟨_, rfl⟩
      have HGC : Hid (Calls Try.prog 15 #[.agg #[.int .i64 l.periods, .slice As l.signs.length cs], .agg #[.slice A6 ns.length c6]] W7 (RetE ev W7)) := Lib.hid (by rw [hev]; exact gpCheck_any l ns _ W7 A6 c6 (HL.out.keep HBW7.out.size HBW7.out) (rds_of_own len_node HO7.out))
      have HEV := Lib.hid hev
      have HW7 := Lib.hid hW7
      clear hown6 hb6 hb6' hbw6 hev HFL hW7
      go_wp2_with fail
      rw [← HW7.out]
      refine HGC.out.mono ?_
      rintro e w8 ⟨rfl, hb8⟩
      have HT8 : Hid (w8.heap[Z + 1]? = some (.cells #[.slice A6 ns.length c6] 32 (0, 0))) := Lib.hid ((hb8.block (Z + 1) (by omega)).trans HT7.out)
      have HBW8 : Hid (Below w.heap.size w w8) := Lib.hid (HBW7.out.trans (hb8.mono HBW7.out.size))
      have HO8 : Hid (w8.ownsRow w5.heap.size 74 8 (.slice A6 ns.length c6) ns.length (ns.flatMap encN)) := Lib.hid (own_below HO7.out hb8)
      have x2 : w8.cell? ⟨Z + 1, 0, none⟩ = some (.slice A6 ns.length c6) := bx_cell HT8.out
      have x3 : w8.frozen? ⟨Z + 1, 0, none⟩ = false := bx_free HT8.out
      have HZl : Hid (w.heap.size ≤ Z + 1) := Lib.hid (by have := HZ.out; omega)
      clear hb8 HGC
      by_cases ke : ev = 0
      · have hq : Cd.readV kind l s.data.toList = (ns, 0, 0) := by rw [HRN.out, ← HEV.out, if_neg (by simp [ke])]
        have HRQ := Lib.hid hq
        clear hq
        subst ke
        go_wp2_with fail
        refine bodyPost_ret (results_read rfl rfl rfl (bx_set HT8.out)) rfl ?_
        rw [HRQ.out]
        exact ⟨A6, c6, rfl, HBW8.out.setCell (p := ⟨Z + 1, 0, none⟩) HZl.out _, (ownsRow_setCell_below HO8.out (by show Z + 1 < w5.heap.size; omega) _).mono (by have := HZ.out; omega)⟩
      · have hq : Cd.readV kind l s.data.toList = ([], 0, ev) := by rw [HRN.out, ← HEV.out, if_pos ke]
        have HRQ := Lib.hid hq
        have t0 : (ev == 0) = false := by simp [ke]
        have t0' : (ev != 0) = true := by simp [ke]
        clear hq ke
        go_wp2_with fail
        refine bodyPost_ret (results_read rfl rfl rfl (bx_set HT8.out)) rfl ?_
        exact RetRead.nil HRQ.out (HBW8.out.setCell (p := ⟨Z + 1, 0, none⟩) HZl.out _)
end Go.Proofs.Ytenmkbpdkfhbjaa
