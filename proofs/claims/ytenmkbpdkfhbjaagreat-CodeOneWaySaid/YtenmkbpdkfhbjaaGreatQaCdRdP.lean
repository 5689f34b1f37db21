/- ostraconref02.Check. Made by gen_t2check.py.; What Read says of its errors; what is read can be written: plain law. -/
import Derived.Test.YtenmkbpdkfhbjaaGreatQaT2Own
import Derived.Test.YtenmkbpdkfhbjaaGreatQaT2Fam
import Derived.Test.YtenmkbpdkfhbjaaGreatQaTxCheck
import Derived.Test.YtenmkbpdkfhbjaaGreatQaCdSize
import Derived.Test.YtenmkbpdkfhbjaaGreatQaCdLocal
import Derived.Test.YtenmkbpdkfhbjaaGreatQaCdWrP
namespace Go.Proofs.YtenmkbpdkfhbjaaGreat
open Go Go.RowKit

set_option maxRecDepth 100000 in
set_option maxHeartbeats 16000000 in
theorem r2Check_any (l : Sg.SList) (ns : List Tx.Node) (vl : Value) (w : World) (A : Option Addr) (c : Nat) (hl : RdSL w w.heap.size vl l) (h : RdN w w.heap.size (.slice A ns.length c) ns) :
    Calls Tryz.prog 23 #[vl, .agg #[.slice A ns.length c]] w (RetE (Tx.checkT l ns) w) := by
  have HL := Lib.hid hl
  have HR := Lib.hid h
  obtain ⟨⟨us, rfl, hsg⟩, -⟩ := hl
  obtain ⟨As, cs, rfl, -⟩ := id hsg
  have hb : ns.length ≤ c ∧ c ≤ 9223372036854775807 := by
    obtain ⟨A', c', hv, h1, h2, -⟩ := h
    cases hv
    exact ⟨h1, h2⟩
  have HSC : Hid (∀ W, Below w.heap.size w W → Calls Tryz.prog 43 #[.agg #[.int .i64 l.periods, .slice As l.signs.length cs]] W (RetIB (Sg.checkV l) W)) := Lib.hid fun W hW => r1Check_any _ l W (HL.out.keep hW.size hW)
  obtain ⟨Z, hZ⟩ : ∃ Z, Z = w.heap.size := ⟨_, rfl⟩
  obtain ⟨ec, hec⟩ : ∃ ec, ec = Sg.checkV l := ⟨_, rfl⟩
  rw [← hec] at HSC
  have HEC := Lib.hid hec
  have HZ := Lib.hid hZ
  clear hsg h hec
  go_enter Tryz.func23, Tryz.ntmps23
  go_wp2_with fail
  rw [← hZ]
  refine at_worldF ?_
  intro WL hWL
  have hbl : Below Z w WL := by rw [hWL, hZ]; exact ((Below.refl _ _).alloc (Nat.le_refl _) _).alloc (by simp) _
  have hsz : WL.heap.size = Z + 2 := by rw [hWL, hZ]; simp
  have b0 : WL.heap[Z]? = some (.cells #[.int .i64 l.periods, .slice As l.signs.length cs] 24 (0, 0)) := by rw [hWL, hZ]; exact heap_alloc2_old _ _ _
  have b1 : WL.heap[Z + 1]? = some (.cells #[.slice A ns.length c] 27 (0, 0)) := by rw [hWL, hZ]; exact heap_alloc2_new _ _ _
  clear hWL
  refine (HSC.out WL (by rw [← hZ]; exact hbl)).mono ?_
  rintro e w3 ⟨rfl, hb3⟩
  have HB : Hid (Below Z w w3) := Lib.hid (hbl.trans (hb3.mono (by omega)))
  have hs3 : Z + 2 ≤ w3.heap.size := by have := hb3.size; omega
  have HB0 := Lib.hid ((hb3.block Z (by omega)).trans b0)
  have HB1 := Lib.hid ((hb3.block (Z + 1) (by omega)).trans b1)
  clear hb3 hbl hsz b0 b1 hZ
  have OWN : Hid (∀ W : World, Below w3.heap.size w3 W → W.cell? ⟨Z, 0, none⟩ = some (.int .i64 l.periods) ∧ W.cell? ⟨Z, 1, none⟩ = some (.slice As l.signs.length cs) ∧ W.cell? ⟨Z + 1, 0, none⟩ = some (.slice A ns.length c) ∧ Below w.heap.size w W) := Lib.hid fun W hW => by
    have e0 := (hW.block Z (by omega)).trans HB0.out
    have e1 := (hW.block (Z + 1) (by omega)).trans HB1.out
    refine ⟨by simp [World.cell?, e0], by simp [World.cell?, e0], by simp [World.cell?, e1], ?_⟩
    rw [← HZ.out]
    exact HB.out.trans (hW.mono (by omega))
  obtain ⟨x0, x1, x2, hbw⟩ := OWN.out w3 (Below.refl _ _)
  have HBW := Lib.hid hbw
  clear hbw
  by_cases k0 : ec = 0
  case neg =>
    have t0 : (ec == 0) = false := by simp [k0]
    have t0' : (ec != 0) = true := by simp [k0]
    have HV : Hid (Tx.checkT l ns = ec) := Lib.hid (by unfold Tx.checkT; rw [← HEC.out, if_pos k0])
    clear k0
    go_wp2_with fail
    go_ret
    rw [HV.out]
    exact ⟨rfl, HBW.out⟩
  have HV0 : Hid (Tx.checkT l ns = if 200 < ns.length then 2 else if Sg.firstE (Tx.ownAt l ns) ns.length ≠ 0 then Sg.firstE (Tx.ownAt l ns) ns.length else if (List.range ns.length).all (Tx.famB ns) = true then 0 else 20) := Lib.hid (by
    unfold Tx.checkT
    rw [← HEC.out, if_neg (by simpa using k0)])
  subst k0
  by_cases k1 : 200 < ns.length
  · have k1I : (200 : Int) < (ns.length : Int) := by omega
    have HV : Hid (Tx.checkT l ns = 2) := Lib.hid (HV0.out.trans (if_pos k1))
    clear k1
    go_wp2_with fail
    go_ret
    rw [HV.out]
    exact ⟨rfl, HBW.out⟩
  have k1I : ¬ (200 : Int) < (ns.length : Int) := by omega
  have HV1 := Lib.hid (HV0.out.trans (if_neg k1))
  have hnI : (ns.length : Int) ≤ 200 := by omega
  have HN200 : Hid (ns.length ≤ 200) := Lib.hid (by omega)
  clear k1
  go_upto_region 6 with fail
  go_wp2_with fail
  go_loopg [6] ns.length (fun g v wr => ∃ k : Nat, k ≤ ns.length ∧ g = ns.length - k ∧ v = .int .i64 (k : Int) ∧ Below w3.heap.size w3 wr ∧ ∀ j, j < k → Tx.ownAt l ns j = 0)
  case atStart => exact ⟨0, Nat.zero_le _, rfl, rfl, Below.refl _ _, fun j hj => absurd hj (Nat.not_lt_zero _)⟩
  case round =>
    obtain ⟨k, hk, rfl, rfl, hbr, hown⟩ := hrel
    have HBR := Lib.hid hbr
    have HOW := Lib.hid hown
    obtain ⟨y0, y1, y2, hbw⟩ := OWN.out wr hbr
    have HBW2 := Lib.hid hbw
    clear hbr hown hbw x0 x1 x2
    by_cases hlt : k < ns.length
    · have hltI : (k : Int) < (ns.length : Int) := by omega
      obtain ⟨v1, hv1⟩ : ∃ v1, v1 = Tx.ownAt l ns k := ⟨_, rfl⟩
      have HF : Hid (Calls Tryz.prog 46 #[.agg #[.int .i64 l.periods, .slice As l.signs.length cs], .agg #[.slice A ns.length c], .int .i64 k] wr (RetE v1 wr)) := Lib.hid (hv1 ▸ r2own_any l ns k _ wr A c (HL.out.keep HBW2.out.size HBW2.out) ((HR.out.below HBW2.out).more HBW2.out.size) hlt (by have := HN200.out; omega) HOW.out)
      have HV1' := Lib.hid hv1
      clear hv1
      go_wp2_with fail
      refine HF.out.mono ?_
      rintro e w5 ⟨rfl, hb5⟩
      have HB5 := Lib.hid hb5
      clear hb5 HF
      by_cases kz : v1 = 0
      · have t0 : (v1 == 0) = true := by simp [kz]
        have t0' : (v1 != 0) = false := by simp [kz]
        have HZ1 : Hid (Tx.ownAt l ns k = 0) := Lib.hid (HV1'.out.symm.trans kz)
        clear kz
        go_wp2_with fail
        go_roundg (ns.length - (k + 1))
        case measure => omega
        case rel => exact ⟨k + 1, by omega, rfl, by go_num, HBR.out.trans (HB5.out.mono HBR.out.size), fun j hj => by
          rcases Nat.lt_or_ge j k with q | q
          · exact HOW.out j q
          · have : j = k := by omega
            subst this
            exact HZ1.out⟩
      · have t0 : (v1 == 0) = false := by simp [kz]
        have t0' : (v1 != 0) = true := by simp [kz]
        have HV : Hid (Tx.checkT l ns = v1) := Lib.hid (by
          have e1 := Sg.firstE_at hlt HOW.out (by rw [← HV1'.out]; exact kz)
          rw [HV1.out, e1, ← HV1'.out, if_pos kz])
        clear kz
        go_wp2_with fail
        go_ret
        rw [HV.out]
        exact ⟨rfl, HBW2.out.trans (HB5.out.mono HBW2.out.size)⟩
    · have hltI : ¬ (k : Int) < (ns.length : Int) := by omega
      have HOWN : Hid (∀ j, j < ns.length → Tx.ownAt l ns j = 0) := Lib.hid fun j hj => HOW.out j (by omega)
      have HVF : Hid (Tx.checkT l ns = if (List.range ns.length).all (Tx.famRB ns) = true then 0 else 20) := Lib.hid (by
        have e1 : Sg.firstE (Tx.ownAt l ns) ns.length = 0 := Sg.firstE_zero HOWN.out
        rw [HV1.out, e1, if_neg (by simp), Tx.fam_all_ref HOWN.out])
      clear hlt
      go_wp2_with fail
      go_loopg [8] ns.length (fun g v wr => ∃ k : Nat, k ≤ ns.length ∧ g = ns.length - k ∧ v = .int .i64 (k : Int) ∧ Below w3.heap.size w3 wr ∧ ((List.range k).all (Tx.famRB ns)) = true)
      case atStart => exact ⟨0, Nat.zero_le _, rfl, rfl, HBR.out, rfl⟩
      case round =>
        obtain ⟨k2, hk2, rfl, rfl, hbq, hall⟩ := hrel
        have HBQ := Lib.hid hbq
        have HALL := Lib.hid hall
        obtain ⟨y0, y1, y2, hbw⟩ := OWN.out wr hbq
        have HBW3 := Lib.hid hbw
        clear hbq hall hbw
        by_cases hlt : k2 < ns.length
        · have hltI : (k2 : Int) < (ns.length : Int) := by omega
          have hk0 : (0 : Int) ≤ (k2 : Int) := by omega
          obtain ⟨fb, hfb⟩ : ∃ fb, fb = Tx.famRB ns k2 := ⟨_, rfl⟩
          obtain ⟨pi, hpi⟩ : ∃ pi, pi = Tx.parI ns k2 := ⟨_, rfl⟩
          have HPC : Hid (∀ m : Nat, Calls Tryz.prog 48 #[.agg #[.slice A ns.length c], .int .i64 k2] (wr.drewN m) (fun e w' => e = .returned (.int .i64 pi) ∧ Below wr.heap.size wr w')) := Lib.hid fun m => by
            have hbm := HBW3.out.trans (drew_below (B := w.heap.size) m)
            have := r2par_any ns k2 (wr.drewN m) A c ((HR.out.below hbm).more hbm.size) (by have := HN200.out; omega) hlt
            rw [← hpi] at this
            refine this.mono ?_
            rintro e w' ⟨rfl, q⟩
            exact ⟨rfl, (drew_below m).trans (q.mono (Nat.le_of_eq rfl))⟩
          have HFC : Hid (∀ W, Below wr.heap.size wr W → Calls Tryz.prog 47 #[.agg #[.slice A ns.length c], .int .i64 k2, .int .i64 pi] W (RetFam fb W)) := Lib.hid fun W hW => by
            rw [hpi, hfb]
            have hbw := HBW3.out.trans (hW.mono HBW3.out.size)
            exact r2fam_any l ns k2 W A c ((HR.out.below hbw).more hbw.size) hlt (by have := HN200.out; omega) HOWN.out
          have HNX : Hid (((List.range (k2 + 1)).all (Tx.famRB ns)) = fb) := Lib.hid (by rw [List.range_succ, List.all_append, HALL.out, hfb]; simp)
          have HBAD : Hid (fb = false → Tx.checkT l ns = 20) := Lib.hid fun q => by
            rw [HVF.out, if_neg]
            rw [Bool.not_eq_true, List.all_eq_false]
            exact ⟨k2, List.mem_range.2 hlt, by rw [← hfb, q]; decide⟩
          clear hfb hpi
          cases fb
          · have HV := Lib.hid (HBAD.out rfl)
            go_upto_region 15 with fail
            go_region_with (first
              | (go_at_call 48; refine (HPC.out 1).mono ?_; rintro e w5 ⟨rfl, hb5⟩; have HB5 := Lib.hid hb5; obtain ⟨y0', y1', y2', -⟩ := OWN.out w5 (HBQ.out.trans (hb5.mono HBQ.out.size)); clear hb5)
              | (go_at_call 47; refine (HFC.out w5 HB5.out).mono ?_; rintro e w6 ⟨rfl, hb6⟩; have HB6 := Lib.hid (HB5.out.trans (hb6.mono HB5.out.size)); clear hb6))
            all_goals
              go_wp2_with fail
              go_ret
              rw [HV.out]
              exact ⟨rfl, HBW3.out.trans (HB6.out.mono HBW3.out.size)⟩
          · go_upto_region 15 with fail
            go_region_with (first
              | (go_at_call 48; refine (HPC.out 1).mono ?_; rintro e w5 ⟨rfl, hb5⟩; have HB5 := Lib.hid hb5; obtain ⟨y0', y1', y2', -⟩ := OWN.out w5 (HBQ.out.trans (hb5.mono HBQ.out.size)); clear hb5)
              | (go_at_call 47; refine (HFC.out w5 HB5.out).mono ?_; rintro e w6 ⟨rfl, hb6⟩; have HB6 := Lib.hid (HB5.out.trans (hb6.mono HB5.out.size)); clear hb6))
            all_goals
              go_wp2_with fail
              go_roundg (ns.length - (k2 + 1))
              case measure => omega
              case rel => exact ⟨k2 + 1, by omega, rfl, by go_num, HBQ.out.trans (HB6.out.mono HBQ.out.size), HNX.out⟩
        · have hltI : ¬ (k2 : Int) < (ns.length : Int) := by omega
          have HV : Hid (Tx.checkT l ns = 0) := Lib.hid (by
            have : k2 = ns.length := by omega
            rw [HVF.out, ← this, if_pos HALL.out])
          clear hlt
          go_wp2_with fail
          go_ret
          rw [HV.out]
          exact ⟨rfl, HBW3.out⟩
end Go.Proofs.YtenmkbpdkfhbjaaGreat
namespace Cd
open Go
def Pz (s : List UInt8) : R Item → Prop
  | .bad _ => True
  | .ok x _ => ∀ q ∈ codesI x, q.2 < s.length
def PzL (s : List UInt8) : R (List Item) → Prop
  | .bad _ => True
  | .ok xs _ => ∀ q ∈ codesL xs, q.2 < s.length
def PzO (s : List UInt8) : R (Item × Bool) → Prop
  | .bad _ => True
  | .ok x _ => ∀ q ∈ codesI x.1, q.2 < s.length
section
variable {s : List UInt8}
theorem pz_glyph (line : Bool) (k : Nat) : Pz s (glyphG s line k) := by
  rw [glyph_eq]
  cases hsk : s[k]? with
  | none => trivial
  | some c =>
    have hlt := (List.getElem?_eq_some_iff.1 hsk).1
    simp only
    split
    · unfold glyphE
      have key : ∀ (mi : Bool) (e1 : Nat), Pz s ((turnG s e1).bind fun tn e2 => .ok (.mk (glyphN tn mi (if line = true then stateOf s[e2]? else 0)) ((s.drop k).take (codeEnd s k - k)) k []) (if (if line = true then stateOf s[e2]? else 0) = 0 then e2 else e2 + 1)) := fun mi e1 => by
        cases ht : turnG s e1 with
        | bad j => trivial
        | ok tn e2 =>
          intro q hq
          rw [codesI, codesL, List.append_nil, if_pos (show (glyphN tn mi (if line = true then stateOf s[e2]? else 0)).kind = 1 from rfl), List.mem_singleton] at hq
          subst hq
          exact hlt
      cases sees s (codeEnd s k) 92 with
      | true => exact key _ _
      | false => exact key _ _
    · trivial
theorem pz_leaf (k : Nat) : Pz s (leafG s k) := by
  unfold leafG
  split
  · cases h1 : digitG s 48 57 (k + 1) with
    | bad j => trivial
    | ok a k1 =>
      simp only [R.bind]
      cases h2 : must s k1 45 with
      | bad j => trivial
      | ok u k2 =>
        dsimp only
        cases h3 : digitG s 48 57 k2 with
        | bad j => trivial
        | ok b k3 =>
          dsimp only
          cases h4 : must s k3 125 with
          | bad j => trivial
          | ok u2 k4 =>
            intro q hq
            rw [codes_mk (show (gapN _ _).kind ≠ 1 from (by decide : (6 : Int) ≠ 1)), codesL] at hq
            cases hq
  · exact pz_glyph true k
theorem pz_sep {p : Nat → R Item} {c : UInt8} (hp : ∀ k, Pz s (p k)) : ∀ (n k : Nat), PzL s (sepG s p c n k)
  | 0, k => trivial
  | n + 1, k => by
    rw [sepG]
    have h1 := hp k
    cases hq : p k with
    | bad j => trivial
    | ok x k1 =>
      rw [hq] at h1
      simp only [R.bind]
      split
      · have h2 := pz_sep (c := c) hp n (k1 + 1)
        cases hr : sepG s p c n (k1 + 1) with
        | bad j => trivial
        | ok xs k2 =>
          rw [hr] at h2
          intro q hq
          rw [codesL] at hq
          rcases List.mem_append.1 hq with hq | hq
          · exact h1 q hq
          · exact h2 q hq
      · intro q hq
        rw [codesL, codesL, List.append_nil] at hq
        exact h1 q hq
theorem pz_one {kind : Int} (hn : kind ≠ 1) {x : Item} {xs : List Item} (hxc : ∀ q ∈ codesI x, q.2 < s.length) (h : ∀ q ∈ codesL xs, q.2 < s.length) (k : Nat) : Pz s (.ok (one kind (x :: xs)) k) := by
  cases xs with
  | nil => exact hxc
  | cons y ys =>
    have e : one kind (x :: y :: ys) = .mk (kindN kind) [] 0 (x :: y :: ys) := rfl
    rw [e]
    intro q hq
    rw [codes_mk hn, codesL] at hq
    rcases List.mem_append.1 hq with hq | hq
    · exact hxc q hq
    · exact h q hq
theorem pz_beside {ov : Nat → R (Item × Bool)} (h : ∀ k, PzO s (ov k)) (k : Nat) : Pz s (besideG s ov k) := by
  unfold besideG
  have h1 := h k
  cases hq : ov k with
  | bad j => trivial
  | ok x k1 =>
    rw [hq] at h1
    simp only [R.bind]
    split
    · trivial
    · split
      · have h2 := pz_sep (s := s) (c := 42) (p := fun j => (ov j).bind fun y j1 => .ok y.1 j1) (fun j => by
          have := h j
          cases hj : ov j with
          | bad _ => trivial
          | ok y j1 => rw [hj] at this; exact this) (N s) (k1 + 1)
        show Pz s ((sepG s (fun j => (ov j).bind fun y j1 => R.ok y.1 j1) 42 (N s) (k1 + 1)).bind fun xs k2 => .ok (one 2 (x.1 :: xs)) k2)
        revert h2
        generalize sepG s (fun j => (ov j).bind fun y j1 => R.ok y.1 j1) 42 (N s) (k1 + 1) = r
        intro h2
        cases r with
        | bad _ => trivial
        | ok xs k2 => exact pz_one (show (_ : Int) ≠ 1 by decide) h1 h2 _
      · exact h1
theorem pz_above {ov : Nat → R (Item × Bool)} (h : ∀ k, PzO s (ov k)) (b : Bool) (k : Nat) : Pz s (aboveG s ov b k) := by
  unfold aboveG
  have h1 := pz_beside (s := s) h k
  cases hq : besideG s ov k with
  | bad j => trivial
  | ok x k1 =>
    rw [hq] at h1
    simp only [R.bind]
    split
    · trivial
    · split
      · have h2 := pz_sep (s := s) (c := 58) (p := besideG s ov) (pz_beside h) (N s) (k1 + 1)
        cases hr : sepG s (besideG s ov) 58 (N s) (k1 + 1) with
        | bad _ => trivial
        | ok xs k2 => rw [hr] at h2; exact pz_one (show (_ : Int) ≠ 1 by decide) h1 h2 _
      · exact h1
theorem pz_over : ∀ (f k : Nat), PzO s (overG s f k)
  | 0, k => trivial
  | f + 1, k => by
    rw [overG]
    split
    · have h1 := pz_above (s := s) (pz_over f) true (k + 1)
      cases hq : aboveG s (overG s f) true (k + 1) with
      | bad _ => trivial
      | ok x k1 =>
        rw [hq] at h1
        simp only [R.bind]
        cases hr : must s k1 41 with
        | bad _ => trivial
        | ok u k2 => exact h1
    · have h1 := pz_leaf (s := s) k
      cases hq : leafG s k with
      | bad _ => trivial
      | ok x k1 =>
        rw [hq] at h1
        simp only [R.bind]
        split
        · have h2 := pz_leaf (s := s) (k1 + 1)
          cases hr : leafG s (k1 + 1) with
          | bad _ => trivial
          | ok y k2 =>
            rw [hr] at h2
            intro q hq
            rw [codes_mk (by decide), codesL, codesL, codesL, List.append_nil] at hq
            rcases List.mem_append.1 hq with hq | hq
            · exact h1 q hq
            · exact h2 q hq
        · exact h1
theorem pz_br {kind : Int} (hn : kind ≠ 1) {r : R (List Item)} {c : UInt8} (h : PzL s r) : Pz s (r.bind fun xs k1 => (must s k1 c).bind fun _ k2 => .ok (.mk (kindN kind) [] 0 xs) k2) := by
  cases r with
  | bad _ => trivial
  | ok xs k1 =>
    simp only [R.bind]
    cases hr : must s k1 c with
    | bad _ => trivial
    | ok u k2 =>
      intro q hq
      rw [codes_mk hn] at hq
      exact h q hq
theorem pz_part (k : Nat) : Pz s (partG s k) := by
  unfold partG
  split
  · exact pz_br (by decide) (pz_sep (pz_above (pz_over _) false) _ _)
  · exact pz_above (pz_over _) false k
theorem pz_group (k : Nat) : Pz s (groupG s k) := by
  unfold groupG
  split
  · exact pz_br (by decide) (pz_sep pz_part _ _)
  · exact pz_part k
theorem word_ne {k k1 : Nat} {q : Int} (hw : wordG s k = .ok q k1) : q ≠ 1 := by
  unfold wordG at hw
  have := kindAt_ne s[k]?
  simp only at hw
  split at hw
  · cases hw
  · split at hw
    · cases hw; exact this
    · cases hw
theorem pz_tree : ∀ (f k : Nat), Pz s (treeG s f k)
  | 0, k => trivial
  | f + 1, k => by
    rw [treeG]
    split
    · intro q hq
      rw [codes_mk (show (gapN _ _).kind ≠ 1 from (by decide : (6 : Int) ≠ 1)), codesL] at hq
      cases hq
    · split
      · cases hw : wordG s (k + 1) with
        | bad _ => trivial
        | ok q k1 =>
          have hq1 := word_ne hw
          simp only [R.bind]
          cases hr : must s k1 32 with
          | bad _ => trivial
          | ok u k2 => exact pz_br hq1 (pz_sep (s := s) (c := 32) (pz_tree f) (N s) k2)
      · exact pz_glyph false k
theorem parse_at {kind : Int} {xs : List Item} {k : Nat} (h : parseG s kind = .ok xs k) : ∀ q ∈ codesL xs, q.2 < s.length := by
  unfold parseG at h
  split at h
  · injection h with h _
    subst h
    intro q hq
    rw [codesL] at hq
    cases hq
  · have key : ∀ (r : R (List Item)), PzL s r → (r.bind fun xs k => if k < s.length then R.bad k else .ok xs k) = .ok xs k → ∀ q ∈ codesL xs, q.2 < s.length := fun r hr he => by
      cases r with
      | bad _ => cases he
      | ok ys j =>
        simp only [R.bind] at he
        split at he
        · cases he
        · injection he with e1 e2
          subst e1
          exact hr
    split at h
    · exact key _ (pz_sep pz_group _ _) h
    · exact key _ (pz_sep (pz_tree _) _ _) h
end
mutual
/-- nodes of which the tree code can say all -/
def QI : Item → Prop
  | .mk n _ _ ks => (n.state = 0 ∧ n.lo = n.hi) ∧ QL ks
def QL : List Item → Prop
  | [] => True
  | x :: xs => QI x ∧ QL xs
end
mutual
theorem q_flatI (f : List UInt8 → Int) (d : Int) : ∀ x : Item, QI x → ∀ n ∈ flatI d (resI f x), n.state = 0 ∧ n.lo = n.hi
  | .mk n c p ks, h, m, hm => by
    rw [QI] at h
    rw [resI, flatI] at hm
    rcases List.mem_cons.1 hm with rfl | hm
    · split
      · exact h.1
      · exact h.1
    · exact q_flatL f (d + 1) ks h.2 m hm
theorem q_flatL (f : List UInt8 → Int) (d : Int) : ∀ xs : List Item, QL xs → ∀ n ∈ flatL d (resL f xs), n.state = 0 ∧ n.lo = n.hi
  | [], _, m, hm => by
    rw [resL, flatL] at hm
    cases hm
  | x :: xs, h, m, hm => by
    rw [QL] at h
    rw [resL, flatL] at hm
    rcases List.mem_append.1 hm with hm | hm
    · exact q_flatI f d x h.1 m hm
    · exact q_flatL f d xs h.2 m hm
end
def Qz : R Item → Prop
  | .bad _ => True
  | .ok x _ => QI x
def QzL : R (List Item) → Prop
  | .bad _ => True
  | .ok xs _ => QL xs
section
variable {s : List UInt8}
theorem qz_glyph (k : Nat) : Qz (glyphG s false k) := by
  rw [glyph_eq]
  cases hsk : s[k]? with
  | none => trivial
  | some c =>
    simp only
    split
    · unfold glyphE
      have key : ∀ (mi : Bool) (e1 : Nat), Qz ((turnG s e1).bind fun tn e2 => .ok (.mk (glyphN tn mi (if false = true then stateOf s[e2]? else 0)) ((s.drop k).take (codeEnd s k - k)) k []) (if (if false = true then stateOf s[e2]? else 0) = 0 then e2 else e2 + 1)) := fun mi e1 => by
        cases ht : turnG s e1 with
        | bad j => trivial
        | ok tn e2 =>
          show QI _
          rw [QI, QL]
          exact ⟨⟨rfl, rfl⟩, trivial⟩
      cases sees s (codeEnd s k) 92 with
      | true => exact key _ _
      | false => exact key _ _
    · trivial
theorem qz_sep {p : Nat → R Item} {c : UInt8} (hp : ∀ k, Qz (p k)) : ∀ (n k : Nat), QzL (sepG s p c n k)
  | 0, k => trivial
  | n + 1, k => by
    rw [sepG]
    have h1 := hp k
    cases hq : p k with
    | bad j => trivial
    | ok x k1 =>
      rw [hq] at h1
      simp only [R.bind]
      split
      · have h2 := qz_sep (c := c) hp n (k1 + 1)
        cases hr : sepG s p c n (k1 + 1) with
        | bad j => trivial
        | ok xs k2 =>
          rw [hr] at h2
          show QL _
          rw [QL]
          exact ⟨h1, h2⟩
      · show QL _
        rw [QL, QL]
        exact ⟨h1, trivial⟩
theorem qz_tree : ∀ (f k : Nat), Qz (treeG s f k)
  | 0, k => trivial
  | f + 1, k => by
    rw [treeG]
    split
    · show QI _
      rw [QI, QL]
      exact ⟨⟨rfl, rfl⟩, trivial⟩
    · split
      · cases hw : wordG s (k + 1) with
        | bad _ => trivial
        | ok q k1 =>
          simp only [R.bind]
          cases hr : must s k1 32 with
          | bad _ => trivial
          | ok u k2 =>
            have h1 := qz_sep (s := s) (c := 32) (qz_tree f) (N s) k2
            dsimp only
            cases hx : sepG s (treeG s f) 32 (N s) k2 with
            | bad _ => trivial
            | ok xs k3 =>
              rw [hx] at h1
              dsimp only
              cases hy : must s k3 41 with
              | bad _ => trivial
              | ok u2 k4 =>
                show QI _
                rw [QI]
                exact ⟨⟨rfl, rfl⟩, h1⟩
      · exact qz_glyph k
theorem parse_tree_q {xs : List Item} {k : Nat} (h : parseG s 2 = .ok xs k) : QL xs := by
  unfold parseG at h
  split at h
  · injection h with h _
    subst h
    rw [QL]
    trivial
  · rw [if_neg (by decide)] at h
    have hr := qz_sep (s := s) (c := 32) (p := treeG s (N s)) (qz_tree (N s)) (N s) 0
    cases hx : sepG s (treeG s (N s)) 32 (N s) 0 with
    | bad _ => rw [hx] at h; cases h
    | ok ys j =>
      rw [hx] at h hr
      simp only [R.bind] at h
      split at h
      · cases h
      · injection h with e1 e2
        subst e1
        exact hr
end
/-- where Read goes wrong it returns no nodes, and a place in the string -/
theorem read_err {kind : Int} {l : Sg.SList} {s : List UInt8} (h : (readV kind l s).2.2 ≠ 0) : (readV kind l s).1 = [] ∧ 0 ≤ (readV kind l s).2.1 ∧ (readV kind l s).2.1 ≤ (s.length : Int) := by
  unfold readV at h ⊢
  by_cases c1 : kind ≠ 1 ∧ kind ≠ 2
  · rw [if_pos c1]
    exact ⟨rfl, Int.le_refl _, Int.natCast_nonneg _⟩
  rw [if_neg c1] at h ⊢
  by_cases c2 : Sg.checkV l ≠ 0
  · rw [if_pos c2]
    exact ⟨rfl, Int.le_refl _, Int.natCast_nonneg _⟩
  rw [if_neg c2] at h ⊢
  by_cases c3 : 65536 < s.length
  · rw [if_pos c3]
    exact ⟨rfl, Int.le_refl _, Int.natCast_nonneg _⟩
  rw [if_neg c3] at h ⊢
  cases hp : parseG s kind with
  | bad j =>
    have := (parse_bad hp).1
    exact ⟨rfl, by show (0 : Int) ≤ (j : Int); omega, by show (j : Int) ≤ _; omega⟩
  | ok xs j =>
    rw [hp] at h
    simp only at h ⊢
    cases hu : unknownV l (codesL xs) with
    | some q =>
      unfold unknownV at hu
      obtain ⟨a, ha, rfl⟩ := Option.map_eq_some_iff.1 hu
      have := parse_at hp a (List.mem_of_find?_eq_some ha)
      exact ⟨rfl, by show (0 : Int) ≤ (a.2 : Int); omega, by show (a.2 : Int) ≤ _; omega⟩
    | none =>
      rw [hu] at h
      simp only at h ⊢
      by_cases c4 : Tx.checkT l (flatL 0 (resL (signIx l) xs)) ≠ 0
      · rw [if_pos c4]
        exact ⟨rfl, Int.le_refl _, Int.natCast_nonneg _⟩
      · rw [if_neg c4] at h
        exact absurd rfl h
/-- what is read in a code, the code can say -/
theorem read_lacks {kind : Int} {l : Sg.SList} {s : List UInt8} {ns : List Tx.Node} {k : Int} (h : readV kind l s = (ns, k, 0)) : lacksV kind ns = [] := by
  obtain ⟨-, -, -, hk⟩ := read_way h
  rcases hk with rfl | rfl
  · exact lacks_line ns
  unfold readV at h
  rw [if_neg (by decide)] at h
  by_cases c2 : Sg.checkV l ≠ 0
  · rw [if_pos c2] at h
    injection h with _ h
    injection h with _ h
    exact absurd h c2
  rw [if_neg c2] at h
  by_cases c3 : 65536 < s.length
  · rw [if_pos c3] at h
    injection h with _ h
    injection h with _ h
    exact absurd h (by decide)
  rw [if_neg c3] at h
  cases hp : parseG s 2 with
  | bad j =>
    rw [hp] at h
    injection h with _ h
    injection h with _ h
    exact absurd h (by decide)
  | ok xs j =>
    rw [hp] at h
    simp only at h
    cases hu : unknownV l (codesL xs) with
    | some q =>
      rw [hu] at h
      injection h with _ h
      injection h with _ h
      exact absurd h (by decide)
    | none =>
      rw [hu] at h
      simp only at h
      by_cases c4 : Tx.checkT l (flatL 0 (resL (signIx l) xs)) ≠ 0
      · rw [if_pos c4] at h
        injection h with _ h
        injection h with _ h
        exact absurd h c4
      rw [if_neg c4] at h
      injection h with e1 h
      have hq := q_flatL (signIx l) 0 xs (parse_tree_q hp)
      rw [e1] at hq
      unfold lacksV
      rw [List.map_eq_nil_iff, List.filter_eq_nil_iff]
      intro i hi
      have hi := List.mem_range.1 hi
      have hm : Tx.nd ns i ∈ ns := by
        have := List.getElem?_eq_getElem hi
        unfold Tx.nd
        rw [this]
        exact List.getElem_mem hi
      obtain ⟨q1, q2⟩ := hq _ hm
      unfold lackB
      simp [q1, q2]
end Cd
