/- ostraconlaw05.Big; ostraconref05.Same of equal lexicons. Made by gen_big.py. -/
import Derived.Test.YtpmnpnlfgfleeaaGreatDoorMgRCheck
import Derived.Test.YtpmnpnlfgfleeaaGreatDoorMgMem
namespace Go.Proofs.YtpmnpnlfgfleeaaGreatDoor
open Go.RowKit

theorem any_of {α : Type} {p : α → Bool} {xs : List α} {k : Nat} {e : α} (h : xs[k]? = some e) (hp : p e = true) : xs.any p = true :=
  List.any_eq_true.2 ⟨e, List.mem_of_getElem? h, hp⟩
theorem not_any_of {α : Type} {p : α → Bool} {xs : List α} (h : ∀ j e, j < xs.length → xs[j]? = some e → p e = false) : xs.any p = false := by
  rw [List.any_eq_false]
  intro x hx
  obtain ⟨j, hj, rfl⟩ := List.mem_iff_getElem.1 hx
  simp [h j _ hj (List.getElem?_eq_getElem hj)]
theorem nots_succ {α : Type} {p : α → Bool} {xs : List α} {k : Nat} {e : α} (h : ∀ j e, j < k → xs[j]? = some e → p e = false) (hk : xs[k]? = some e) (hp : p e = false) : ∀ j e, j < k + 1 → xs[j]? = some e → p e = false := by
  intro j z hj hz
  by_cases hjk : j = k
  · subst hjk; rw [hk] at hz; cases hz; exact hp
  · exact h j z (by omega) hz

set_option maxRecDepth 100000 in
set_option maxHeartbeats 4000000 in
theorem Big_any (v : Value) (x : Lx.Lexicon) (w : World) (hr : RdL w w.heap.size v x) : Calls Tryz.prog 22 #[v] w (RetBB (Lx.bigV x) w) := by
  obtain ⟨⟨v0, v1, v2, rfl, ⟨A0, c0, rfl, hl0, hm0, hc0⟩, ⟨A1, c1, rfl, hl1, hm1, hc1⟩, ⟨A2, c2, rfl, hl2, hm2, hc2⟩⟩, fe, fn, fc⟩ := hr
  have hn0 := nm_of hl0 hm0
  have hn1 := nm_of hl1 hm1
  have hn2 := nm_of hl2 hm2
  have HC0 := Lib.hid hc0
  have HC1 := Lib.hid hc1
  have HC2 := Lib.hid hc2
  have FEntry := Lib.hid fe
  have FEnding := Lib.hid fn
  have FClitic := Lib.hid fc
  clear hc0 hc1 hc2 hm0 hm1 hm2 hl0 hl1 hl2 fe fn fc
  by_cases htm : (210 < x.entries.length) ∨ (50 < x.endings.length) ∨ (15 < x.clitics.length)
  · have HF : Hid (Lx.bigV x = true) := Lib.hid (by simp [Lx.bigV]; omega)
    rcases htm with htm | htm | htm
    all_goals
      go_enter Tryz.func22, Tryz.ntmps22
      go_wp2_with fail
      all_goals go_ret
      all_goals exact ⟨ret_bool HF.out.symm, (Below.refl _ _).alloc (Nat.le_refl _) _⟩
  · have ht : ¬ (210 < x.entries.length) ∧ ¬ (50 < x.endings.length) ∧ ¬ (15 < x.clitics.length) := by omega
    obtain ⟨ht0, ht1, ht2⟩ := ht
    clear htm
    have hbx : Below w.heap.size w (w.alloc (.cells #[.slice A0 x.entries.length c0, .slice A1 x.endings.length c1, .slice A2 x.clitics.length c2] 26)) := (Below.refl _ _).alloc (Nat.le_refl _) _
    have HBX := Lib.hid hbx
    clear hbx
    go_enter Tryz.func22, Tryz.ntmps22
    go_wp2_with fail
    go_loopg [3] x.entries.length (fun g i wr => ∃ k : Nat, k ≤ x.entries.length ∧ g = x.entries.length - k ∧ i = .int .i64 k ∧ wr = w.alloc (.cells #[.slice A0 x.entries.length c0, .slice A1 x.endings.length c1, .slice A2 x.clitics.length c2] 26) ∧ ∀ j e, j < k → x.entries[j]? = some e → Lx.bigE e = false)
    case atStart => exact ⟨0, Nat.zero_le _, rfl, rfl, rfl, fun j _ hj => absurd hj (Nat.not_lt_zero j)⟩
    case round =>
      obtain ⟨k, hk, rfl, rfl, rfl, hgood⟩ := hrel
      have HG := Lib.hid hgood
      clear hgood
      by_cases hlt : k < x.entries.length
      · obtain ⟨b, off, rfl, hb, hcell⟩ := HC0.out (by omega)
        obtain ⟨e, he⟩ : ∃ e, x.entries[k]? = some e := ⟨_, List.getElem?_eq_getElem hlt⟩
        have hfe := FEntry.out e (List.mem_of_getElem? he)
        have hf1 := hfe.1
        have hf2 := hfe.2
        unfold maxLen at hf1 hf2
        have f0 : w.cell? ⟨b, off + k * 4, none⟩ = some (.string e.root) := hcell k e he 0 _ rfl
        have f2 : w.cell? ⟨b, off + k * 4 + 2, none⟩ = some (.string e.cls) := hcell k e he 2 _ rfl
        have HE := Lib.hid he
        clear he hcell hfe
        cases hbad : Lx.bigE e
        · have HN := Lib.hid (nots_succ HG.out HE.out hbad)
          have hs : e.root.size ≤ 100 ∧ e.cls.size ≤ 100 := by simpa [Lx.bigE] using hbad
          obtain ⟨hs1, hs2⟩ := hs
          clear hbad
          go_wp2_with fail
          go_roundg (x.entries.length - (k + 1))
          case measure => omega
          case rel => exact ⟨k + 1, by omega, rfl, by go_num, rfl, HN.out⟩
        · have HF : Hid (Lx.bigV x = true) := Lib.hid (by simp [Lx.bigV, any_of HE.out hbad])
          have hs : 100 < e.root.size ∨ 100 < e.cls.size := by simpa [Lx.bigE] using hbad
          clear hbad
          rcases hs with hs | hs
          all_goals
            go_wp2_with fail
            all_goals go_ret
            all_goals exact ⟨ret_bool HF.out.symm, HBX.out⟩
      · have HG1 : Hid (x.entries.any Lx.bigE = false) := Lib.hid (not_any_of fun j e hj => HG.out j e (by omega))
        clear HG
        go_wp2_with fail
        go_loopg [4] x.endings.length (fun g i wr => ∃ k : Nat, k ≤ x.endings.length ∧ g = x.endings.length - k ∧ i = .int .i64 k ∧ wr = w.alloc (.cells #[.slice A0 x.entries.length c0, .slice A1 x.endings.length c1, .slice A2 x.clitics.length c2] 26) ∧ ∀ j e, j < k → x.endings[j]? = some e → Lx.bigN e = false)
        case atStart => exact ⟨0, Nat.zero_le _, rfl, rfl, rfl, fun j _ hj => absurd hj (Nat.not_lt_zero j)⟩
        case round =>
          obtain ⟨k, hk, rfl, rfl, rfl, hgood⟩ := hrel
          have HG := Lib.hid hgood
          clear hgood
          by_cases hlt : k < x.endings.length
          · obtain ⟨b, off, rfl, hb, hcell⟩ := HC1.out (by omega)
            obtain ⟨e, he⟩ : ∃ e, x.endings[k]? = some e := ⟨_, List.getElem?_eq_getElem hlt⟩
            have hfe := FEnding.out e (List.mem_of_getElem? he)
            have hf1 := hfe.1
            have hf2 := hfe.2
            unfold maxLen at hf1 hf2
            have f1 : w.cell? ⟨b, off + k * 4 + 1, none⟩ = some (.string e.text) := hcell k e he 1 _ rfl
            have f2 : w.cell? ⟨b, off + k * 4 + 2, none⟩ = some (.string e.name) := hcell k e he 2 _ rfl
            have HE := Lib.hid he
            clear he hcell hfe
            cases hbad : Lx.bigN e
            · have HN := Lib.hid (nots_succ HG.out HE.out hbad)
              have hs : e.text.size ≤ 100 ∧ e.name.size ≤ 100 := by simpa [Lx.bigN] using hbad
              obtain ⟨hs1, hs2⟩ := hs
              clear hbad
              go_wp2_with fail
              go_roundg (x.endings.length - (k + 1))
              case measure => omega
              case rel => exact ⟨k + 1, by omega, rfl, by go_num, rfl, HN.out⟩
            · have HF : Hid (Lx.bigV x = true) := Lib.hid (by simp [Lx.bigV, any_of HE.out hbad])
              have hs : 100 < e.text.size ∨ 100 < e.name.size := by simpa [Lx.bigN] using hbad
              clear hbad
              rcases hs with hs | hs
              all_goals
                go_wp2_with fail
                all_goals go_ret
                all_goals exact ⟨ret_bool HF.out.symm, HBX.out⟩
          · have HG2 : Hid (x.endings.any Lx.bigN = false) := Lib.hid (not_any_of fun j e hj => HG.out j e (by omega))
            clear HG
            go_wp2_with fail
            go_loopg [5] x.clitics.length (fun g i wr => ∃ k : Nat, k ≤ x.clitics.length ∧ g = x.clitics.length - k ∧ i = .int .i64 k ∧ wr = w.alloc (.cells #[.slice A0 x.entries.length c0, .slice A1 x.endings.length c1, .slice A2 x.clitics.length c2] 26) ∧ ∀ j e, j < k → x.clitics[j]? = some e → Lx.bigC e = false)
            case atStart => exact ⟨0, Nat.zero_le _, rfl, rfl, rfl, fun j _ hj => absurd hj (Nat.not_lt_zero j)⟩
            case round =>
              obtain ⟨k, hk, rfl, rfl, rfl, hgood⟩ := hrel
              have HG := Lib.hid hgood
              clear hgood
              by_cases hlt : k < x.clitics.length
              · obtain ⟨b, off, rfl, hb, hcell⟩ := HC2.out (by omega)
                obtain ⟨e, he⟩ : ∃ e, x.clitics[k]? = some e := ⟨_, List.getElem?_eq_getElem hlt⟩
                have hfe := FClitic.out e (List.mem_of_getElem? he)
                have hf1 := hfe.1
                have hf2 := hfe.2
                unfold maxLen at hf1 hf2
                have f0 : w.cell? ⟨b, off + k * 3, none⟩ = some (.string e.text) := hcell k e he 0 _ rfl
                have f1 : w.cell? ⟨b, off + k * 3 + 1, none⟩ = some (.string e.name) := hcell k e he 1 _ rfl
                have HE := Lib.hid he
                clear he hcell hfe
                cases hbad : Lx.bigC e
                · have HN := Lib.hid (nots_succ HG.out HE.out hbad)
                  have hs : e.text.size ≤ 100 ∧ e.name.size ≤ 100 := by simpa [Lx.bigC] using hbad
                  obtain ⟨hs1, hs2⟩ := hs
                  clear hbad
                  go_wp2_with fail
                  go_roundg (x.clitics.length - (k + 1))
                  case measure => omega
                  case rel => exact ⟨k + 1, by omega, rfl, by go_num, rfl, HN.out⟩
                · have HF : Hid (Lx.bigV x = true) := Lib.hid (by simp [Lx.bigV, any_of HE.out hbad])
                  have hs : 100 < e.text.size ∨ 100 < e.name.size := by simpa [Lx.bigC] using hbad
                  clear hbad
                  rcases hs with hs | hs
                  all_goals
                    go_wp2_with fail
                    all_goals go_ret
                    all_goals exact ⟨ret_bool HF.out.symm, HBX.out⟩
              · have HG3 : Hid (x.clitics.any Lx.bigC = false) := Lib.hid (not_any_of fun j e hj => HG.out j e (by omega))
                clear HG
                go_wp2_with fail
                go_ret
                exact ⟨ret_bool (by simp [Lx.bigV, HG1.out, HG2.out, HG3.out]; omega), HBX.out⟩

set_option maxRecDepth 100000 in
set_option maxHeartbeats 4000000 in
theorem rSame_eq (v v' : Value) (x : Lx.Lexicon) (w : World) (hr : RdL w w.heap.size v x) (hr' : RdL w w.heap.size v' x) : Calls Tryz.prog 21 #[v, v'] w (RetBB true w) := by
  obtain ⟨⟨v0, v1, v2, rfl, ⟨A0, c0, rfl, hl0, hm0, hc0⟩, ⟨A1, c1, rfl, hl1, hm1, hc1⟩, ⟨A2, c2, rfl, hl2, hm2, hc2⟩⟩, fe, fn, fc⟩ := hr
  obtain ⟨⟨u0, u1, u2, rfl, ⟨B0, d0, rfl, kl0, km0, kc0⟩, ⟨B1, d1, rfl, kl1, km1, kc1⟩, ⟨B2, d2, rfl, kl2, km2, kc2⟩⟩, _, _, _⟩ := hr'
  have hn0 := nm_of hl0 hm0
  have hn1 := nm_of hl1 hm1
  have hn2 := nm_of hl2 hm2
  have HC0 := Lib.hid hc0
  have HC1 := Lib.hid hc1
  have HC2 := Lib.hid hc2
  have KC0 := Lib.hid kc0
  have KC1 := Lib.hid kc1
  have KC2 := Lib.hid kc2
  clear hc0 hc1 hc2 kc0 kc1 kc2 hm0 hm1 hm2 km0 km1 km2 hl0 hl1 hl2 kl0 kl1 kl2 fe fn fc
  have HBX : Hid (Below w.heap.size w ((w.alloc (.cells #[.slice A0 x.entries.length c0, .slice A1 x.endings.length c1, .slice A2 x.clitics.length c2] 26)).alloc (.cells #[.slice B0 x.entries.length d0, .slice B1 x.endings.length d1, .slice B2 x.clitics.length d2] 26))) :=
    Lib.hid (((Below.refl _ _).alloc (Nat.le_refl _) _).alloc (by simp) _)
  go_enter Tryz.func21, Tryz.ntmps21
  go_wp2_with fail
  go_loopg [5] x.entries.length (fun g i wr => ∃ k : Nat, k ≤ x.entries.length ∧ g = x.entries.length - k ∧ i = .int .i64 k ∧ ∃ n, wr = ((w.alloc (.cells #[.slice A0 x.entries.length c0, .slice A1 x.endings.length c1, .slice A2 x.clitics.length c2] 26)).alloc (.cells #[.slice B0 x.entries.length d0, .slice B1 x.endings.length d1, .slice B2 x.clitics.length d2] 26)).drewN n)
  case atStart => exact ⟨0, Nat.zero_le _, rfl, rfl, ⟨0, rfl⟩⟩
  case round =>
    obtain ⟨k, hk, rfl, rfl, nr, rfl⟩ := hrel
    by_cases hlt : k < x.entries.length
    · obtain ⟨b, off, rfl, hb, hcell⟩ := HC0.out (by omega)
      obtain ⟨b', off', rfl, hb', hcell'⟩ := KC0.out (by omega)
      obtain ⟨e, he⟩ : ∃ e, x.entries[k]? = some e := ⟨_, List.getElem?_eq_getElem hlt⟩
      have hkI : (0 : Int) ≤ (k : Int) := by omega
      have hkJ : (k : Int) < (x.entries.length : Int) := by omega
      have f0 : w.cell? ⟨b, off + k * 4, none⟩ = some (.string e.root) := hcell k e he 0 _ rfl
      have g0 : w.cell? ⟨b', off' + k * 4, none⟩ = some (.string e.root) := hcell' k e he 0 _ rfl
      have f1 : w.cell? ⟨b, off + k * 4 + 1, none⟩ = some (.int .i64 e.kind) := hcell k e he 1 _ rfl
      have g1 : w.cell? ⟨b', off' + k * 4 + 1, none⟩ = some (.int .i64 e.kind) := hcell' k e he 1 _ rfl
      have f2 : w.cell? ⟨b, off + k * 4 + 2, none⟩ = some (.string e.cls) := hcell k e he 2 _ rfl
      have g2 : w.cell? ⟨b', off' + k * 4 + 2, none⟩ = some (.string e.cls) := hcell' k e he 2 _ rfl
      have f3 : w.cell? ⟨b, off + k * 4 + 3, none⟩ = some (.int .i64 e.weight) := hcell k e he 3 _ rfl
      have g3 : w.cell? ⟨b', off' + k * 4 + 3, none⟩ = some (.int .i64 e.weight) := hcell' k e he 3 _ rfl
      clear he hcell hcell'
      go_upto_region 6 with fail
      go_cut [50] (fun t wc => t = .bool false ∧ ∃ n, wc = ((w.alloc (.cells #[.slice (some ⟨b, off, none⟩) x.entries.length c0, .slice A1 x.endings.length c1, .slice A2 x.clitics.length c2] 26)).alloc (.cells #[.slice (some ⟨b', off', none⟩) x.entries.length d0, .slice B1 x.endings.length d1, .slice B2 x.clitics.length d2] 26)).drewN n)
      case first =>
        go_quiet (fail)
        all_goals go_wp2_with fail
        all_goals
          go_meet
          go_light
          first | refine ⟨?_, _, rfl⟩ | refine ⟨?_, _, World.drewN_drewN _ _ _⟩
          simp
      case rest =>
        obtain ⟨rfl, nc, rfl⟩ := hcut
        go_wp2_with fail
        go_roundg (x.entries.length - (k + 1))
        case measure => omega
        case rel => exact ⟨k + 1, by omega, rfl, by go_num, _, rfl⟩
    · go_wp2_with fail
      go_loopg [6] x.endings.length (fun g i wr => ∃ k : Nat, k ≤ x.endings.length ∧ g = x.endings.length - k ∧ i = .int .i64 k ∧ ∃ n, wr = ((w.alloc (.cells #[.slice A0 x.entries.length c0, .slice A1 x.endings.length c1, .slice A2 x.clitics.length c2] 26)).alloc (.cells #[.slice B0 x.entries.length d0, .slice B1 x.endings.length d1, .slice B2 x.clitics.length d2] 26)).drewN n)
      case atStart => exact ⟨0, Nat.zero_le _, rfl, rfl, ⟨_, rfl⟩⟩
      case round =>
        obtain ⟨k, hk, rfl, rfl, nr, rfl⟩ := hrel
        by_cases hlt : k < x.endings.length
        · obtain ⟨b, off, rfl, hb, hcell⟩ := HC1.out (by omega)
          obtain ⟨b', off', rfl, hb', hcell'⟩ := KC1.out (by omega)
          obtain ⟨e, he⟩ : ∃ e, x.endings[k]? = some e := ⟨_, List.getElem?_eq_getElem hlt⟩
          have hkI : (0 : Int) ≤ (k : Int) := by omega
          have hkJ : (k : Int) < (x.endings.length : Int) := by omega
          have f0 : w.cell? ⟨b, off + k * 4, none⟩ = some (.int .i64 e.kind) := hcell k e he 0 _ rfl
          have g0 : w.cell? ⟨b', off' + k * 4, none⟩ = some (.int .i64 e.kind) := hcell' k e he 0 _ rfl
          have f1 : w.cell? ⟨b, off + k * 4 + 1, none⟩ = some (.string e.text) := hcell k e he 1 _ rfl
          have g1 : w.cell? ⟨b', off' + k * 4 + 1, none⟩ = some (.string e.text) := hcell' k e he 1 _ rfl
          have f2 : w.cell? ⟨b, off + k * 4 + 2, none⟩ = some (.string e.name) := hcell k e he 2 _ rfl
          have g2 : w.cell? ⟨b', off' + k * 4 + 2, none⟩ = some (.string e.name) := hcell' k e he 2 _ rfl
          have f3 : w.cell? ⟨b, off + k * 4 + 3, none⟩ = some (.int .i64 e.weight) := hcell k e he 3 _ rfl
          have g3 : w.cell? ⟨b', off' + k * 4 + 3, none⟩ = some (.int .i64 e.weight) := hcell' k e he 3 _ rfl
          clear he hcell hcell'
          go_upto_region 11 with fail
          go_cut [68] (fun t wc => t = .bool false ∧ ∃ n, wc = ((w.alloc (.cells #[.slice A0 x.entries.length c0, .slice (some ⟨b, off, none⟩) x.endings.length c1, .slice A2 x.clitics.length c2] 26)).alloc (.cells #[.slice B0 x.entries.length d0, .slice (some ⟨b', off', none⟩) x.endings.length d1, .slice B2 x.clitics.length d2] 26)).drewN n)
          case first =>
            go_quiet (fail)
            all_goals go_wp2_with fail
            all_goals
              go_meet
              go_light
              first | refine ⟨?_, _, rfl⟩ | refine ⟨?_, _, World.drewN_drewN _ _ _⟩
              simp
          case rest =>
            obtain ⟨rfl, nc, rfl⟩ := hcut
            go_wp2_with fail
            go_roundg (x.endings.length - (k + 1))
            case measure => omega
            case rel => exact ⟨k + 1, by omega, rfl, by go_num, _, rfl⟩
        · go_wp2_with fail
          go_loopg [7] x.clitics.length (fun g i wr => ∃ k : Nat, k ≤ x.clitics.length ∧ g = x.clitics.length - k ∧ i = .int .i64 k ∧ ∃ n, wr = ((w.alloc (.cells #[.slice A0 x.entries.length c0, .slice A1 x.endings.length c1, .slice A2 x.clitics.length c2] 26)).alloc (.cells #[.slice B0 x.entries.length d0, .slice B1 x.endings.length d1, .slice B2 x.clitics.length d2] 26)).drewN n)
          case atStart => exact ⟨0, Nat.zero_le _, rfl, rfl, ⟨_, rfl⟩⟩
          case round =>
            obtain ⟨k, hk, rfl, rfl, nr, rfl⟩ := hrel
            by_cases hlt : k < x.clitics.length
            · obtain ⟨b, off, rfl, hb, hcell⟩ := HC2.out (by omega)
              obtain ⟨b', off', rfl, hb', hcell'⟩ := KC2.out (by omega)
              obtain ⟨e, he⟩ : ∃ e, x.clitics[k]? = some e := ⟨_, List.getElem?_eq_getElem hlt⟩
              have hkI : (0 : Int) ≤ (k : Int) := by omega
              have hkJ : (k : Int) < (x.clitics.length : Int) := by omega
              have f0 : w.cell? ⟨b, off + k * 3, none⟩ = some (.string e.text) := hcell k e he 0 _ rfl
              have g0 : w.cell? ⟨b', off' + k * 3, none⟩ = some (.string e.text) := hcell' k e he 0 _ rfl
              have f1 : w.cell? ⟨b, off + k * 3 + 1, none⟩ = some (.string e.name) := hcell k e he 1 _ rfl
              have g1 : w.cell? ⟨b', off' + k * 3 + 1, none⟩ = some (.string e.name) := hcell' k e he 1 _ rfl
              have f2 : w.cell? ⟨b, off + k * 3 + 2, none⟩ = some (.int .i64 e.weight) := hcell k e he 2 _ rfl
              have g2 : w.cell? ⟨b', off' + k * 3 + 2, none⟩ = some (.int .i64 e.weight) := hcell' k e he 2 _ rfl
              clear he hcell hcell'
              go_upto_region 16 with fail
              go_cut [86] (fun t wc => t = .bool false ∧ ∃ n, wc = ((w.alloc (.cells #[.slice A0 x.entries.length c0, .slice A1 x.endings.length c1, .slice (some ⟨b, off, none⟩) x.clitics.length c2] 26)).alloc (.cells #[.slice B0 x.entries.length d0, .slice B1 x.endings.length d1, .slice (some ⟨b', off', none⟩) x.clitics.length d2] 26)).drewN n)
              case first =>
                go_quiet (fail)
                all_goals go_wp2_with fail
                all_goals
                  go_meet
                  go_light
                  first | refine ⟨?_, _, rfl⟩ | refine ⟨?_, _, World.drewN_drewN _ _ _⟩
                  simp
              case rest =>
                obtain ⟨rfl, nc, rfl⟩ := hcut
                go_wp2_with fail
                go_roundg (x.clitics.length - (k + 1))
                case measure => omega
                case rel => exact ⟨k + 1, by omega, rfl, by go_num, _, rfl⟩
            · go_wp2_with fail
              go_ret
              exact ⟨rfl, below_drewN HBX.out _⟩
end Go.Proofs.YtpmnpnlfgfleeaaGreatDoor
