/- slices.Equal of the lexicon's rows; lexicon.Same; ostraconref05.Same. -/
import Derived.Test.YtpmnpnlfgfleeaaGreatDoorMgText01
import Derived.Test.YtpmnpnlfgfleeaaGreatDoorMgBig
import Derived.Test.YtpmnpnlfgfleeaaGreatDoorMgParseIdx
import Derived.Test.YtpmnpnlfgfleeaaGreatDoorMgSounds
import Derived.BigQuiet
namespace Go.Proofs.YtpmnpnlfgfleeaaGreatDoor
open Go Go.RowKit

/-- a truth value that says p -/
def RetEq (p : Prop) (w : World) (e : Ending) (w' : World) : Prop := ∃ q : Bool, e = .returned (.bool q) ∧ (q = true ↔ p) ∧ Below w.heap.size w w'
theorem RetEq.no {p : Prop} {w w' : World} (h : ¬ p) (hb : Below w.heap.size w w') : RetEq p w (.returned (.bool false)) w' := ⟨false, rfl, by simp [h], hb⟩
theorem RetEq.yes {p : Prop} {w w' : World} (h : p) (hb : Below w.heap.size w w') : RetEq p w (.returned (.bool true)) w' := ⟨true, rfl, by simp [h], hb⟩
theorem drew_below {w : World} (n : Nat) : Below w.heap.size w (w.drewN n) := below_drewN (Below.refl _ _) n
theorem row_ne {α : Type} {xs ys : List α} {k : Nat} {e f : α} (he : xs[k]? = some e) (hf : ys[k]? = some f) (h : e ≠ f) : xs ≠ ys := by
  rintro rfl
  rw [he] at hf
  exact h (Option.some.inj hf)
theorem row_take {α : Type} {xs ys : List α} {k : Nat} {e : α} (he : xs[k]? = some e) (hf : ys[k]? = some e) (h : xs.take k = ys.take k) : xs.take (k + 1) = ys.take (k + 1) := by
  obtain ⟨h1, h2⟩ := List.getElem?_eq_some_iff.1 he
  obtain ⟨h3, h4⟩ := List.getElem?_eq_some_iff.1 hf
  rw [List.take_succ_eq_append_getElem h1, List.take_succ_eq_append_getElem h3, h, h2, h4]
theorem row_all {α : Type} {xs ys : List α} {k : Nat} (h : xs.take k = ys.take k) (h1 : xs.length ≤ k) (h2 : ys.length ≤ k) : xs = ys := by
  rwa [List.take_of_length_le h1, List.take_of_length_le h2] at h
theorem Lx.Entry_ne {e f : Lx.Entry} (h : e ≠ f) : (e.root ≠ f.root) ∨ (e.root = f.root ∧ e.kind ≠ f.kind) ∨ (e.root = f.root ∧ e.kind = f.kind ∧ e.cls ≠ f.cls) ∨ (e.root = f.root ∧ e.kind = f.kind ∧ e.cls = f.cls ∧ e.weight ≠ f.weight) := by
  by_cases q0 : e.root = f.root
  · by_cases q1 : e.kind = f.kind
    · by_cases q2 : e.cls = f.cls
      · by_cases q3 : e.weight = f.weight
        · exfalso; apply h; cases e; cases f; simp_all
        · exact .inr <| .inr <| .inr <| ⟨q0, q1, q2, q3⟩
      · exact .inr <| .inr <| .inl ⟨q0, q1, q2⟩
    · exact .inr <| .inl ⟨q0, q1⟩
  · exact .inl q0
theorem Lx.Ending_ne {e f : Lx.Ending} (h : e ≠ f) : (e.kind ≠ f.kind) ∨ (e.kind = f.kind ∧ e.text ≠ f.text) ∨ (e.kind = f.kind ∧ e.text = f.text ∧ e.name ≠ f.name) ∨ (e.kind = f.kind ∧ e.text = f.text ∧ e.name = f.name ∧ e.weight ≠ f.weight) := by
  by_cases q0 : e.kind = f.kind
  · by_cases q1 : e.text = f.text
    · by_cases q2 : e.name = f.name
      · by_cases q3 : e.weight = f.weight
        · exfalso; apply h; cases e; cases f; simp_all
        · exact .inr <| .inr <| .inr <| ⟨q0, q1, q2, q3⟩
      · exact .inr <| .inr <| .inl ⟨q0, q1, q2⟩
    · exact .inr <| .inl ⟨q0, q1⟩
  · exact .inl q0
theorem Lx.Clitic_ne {e f : Lx.Clitic} (h : e ≠ f) : (e.text ≠ f.text) ∨ (e.text = f.text ∧ e.name ≠ f.name) ∨ (e.text = f.text ∧ e.name = f.name ∧ e.weight ≠ f.weight) := by
  by_cases q0 : e.text = f.text
  · by_cases q1 : e.name = f.name
    · by_cases q2 : e.weight = f.weight
      · exfalso; apply h; cases e; cases f; simp_all
      · exact .inr <| .inr <| ⟨q0, q1, q2⟩
    · exact .inr <| .inl ⟨q0, q1⟩
  · exact .inl q0
set_option maxRecDepth 100000 in
set_option maxHeartbeats 4000000 in
theorem eqEntry_any (v v' : Value) (xs ys : List Lx.Entry) (w : World) (hr : RdS w w.heap.size 4 encEntry v xs) (hr' : RdS w w.heap.size 4 encEntry v' ys) : Calls Tryz.prog 55 #[v, v'] w (RetEq (xs = ys) w) := by
  obtain ⟨A, c, rfl, hl, hm, hc⟩ := hr
  obtain ⟨B, d, rfl, kl, km, kc⟩ := hr'
  have hn := nm_of hl hm
  have kn := nm_of kl km
  have HC := Lib.hid hc
  have KC := Lib.hid kc
  clear hc kc hm km hl kl
  by_cases hlen : (xs.length : Int) = (ys.length : Int)
  · go_enter Tryz.func55, Tryz.ntmps55
    go_wp2_with fail
    go_loopg [13] xs.length (fun g i wr => ∃ k : Nat, k ≤ xs.length ∧ g = xs.length - k ∧ i = .int .i64 k ∧ xs.take k = ys.take k ∧ ∃ n, wr = w.drewN n)
    case atStart => exact ⟨0, Nat.zero_le _, rfl, rfl, rfl, 0, rfl⟩
    case round =>
      obtain ⟨k, hk, rfl, rfl, htk, nr, rfl⟩ := hrel
      have HTK := Lib.hid htk
      clear htk
      by_cases hlt : k < xs.length
      · obtain ⟨b, off, rfl, hb, hcell⟩ := HC.out (by omega)
        obtain ⟨b', off', rfl, hb', hcell'⟩ := KC.out (by omega)
        obtain ⟨e, he⟩ : ∃ e, xs[k]? = some e := ⟨_, List.getElem?_eq_getElem hlt⟩
        obtain ⟨f, hf⟩ : ∃ e, ys[k]? = some e := ⟨_, List.getElem?_eq_getElem (by omega)⟩
        have hkI : (0 : Int) ≤ (k : Int) := by omega
        have hkJ : (k : Int) < (xs.length : Int) := by omega
        have hkK : (k : Int) < (ys.length : Int) := by omega
        have f0 : w.cell? ⟨b, off + k * 4, none⟩ = some (.string e.root) := hcell k e he 0 _ rfl
        have g0 : w.cell? ⟨b', off' + k * 4, none⟩ = some (.string f.root) := hcell' k f hf 0 _ rfl
        have f1 : w.cell? ⟨b, off + k * 4 + 1, none⟩ = some (.int .i64 e.kind) := hcell k e he 1 _ rfl
        have g1 : w.cell? ⟨b', off' + k * 4 + 1, none⟩ = some (.int .i64 f.kind) := hcell' k f hf 1 _ rfl
        have f2 : w.cell? ⟨b, off + k * 4 + 2, none⟩ = some (.string e.cls) := hcell k e he 2 _ rfl
        have g2 : w.cell? ⟨b', off' + k * 4 + 2, none⟩ = some (.string f.cls) := hcell' k f hf 2 _ rfl
        have f3 : w.cell? ⟨b, off + k * 4 + 3, none⟩ = some (.int .i64 e.weight) := hcell k e he 3 _ rfl
        have g3 : w.cell? ⟨b', off' + k * 4 + 3, none⟩ = some (.int .i64 f.weight) := hcell' k f hf 3 _ rfl
        have HE := Lib.hid he
        have HF := Lib.hid hf
        clear he hf hcell hcell'
        by_cases hef : e = f
        · subst hef
          go_upto_region 6 with fail
          go_quiet (fail)
          all_goals go_wp2_with fail
          all_goals
            go_roundg (xs.length - (k + 1))
            case measure => omega
            case rel => exact ⟨k + 1, by omega, rfl, by go_num, row_take HE.out HF.out HTK.out, _, by first | rfl | exact World.drewN_drewN _ _ _⟩
        · have HNE := Lib.hid (row_ne HE.out HF.out hef)
          rcases Lx.Entry_ne hef with q0 | ⟨q0, q1⟩ | ⟨q0, q1, q2⟩ | ⟨q0, q1, q2, q3⟩
          · have h0 : (e.root.toList == f.root.toList) = false := Lx.toList_ne q0
            clear hef q0
            go_upto_region 6 with fail
            go_quiet (fail)
            all_goals go_wp2_with fail
            all_goals
              go_ret
              exact RetEq.no HNE.out (by first | exact drew_below _ | exact below_drewN (drew_below _) _)
          · rw [← q0] at g0
            have h1 : (e.kind == f.kind) = false := by rw [beq_eq_false_iff_ne]; exact q1
            clear hef q0 q1
            go_upto_region 6 with fail
            go_quiet (fail)
            all_goals go_wp2_with fail
            all_goals
              go_ret
              exact RetEq.no HNE.out (by first | exact drew_below _ | exact below_drewN (drew_below _) _)
          · rw [← q0] at g0
            rw [← q1] at g1
            have h2 : (e.cls.toList == f.cls.toList) = false := Lx.toList_ne q2
            clear hef q0 q1 q2
            go_upto_region 6 with fail
            go_quiet (fail)
            all_goals go_wp2_with fail
            all_goals
              go_ret
              exact RetEq.no HNE.out (by first | exact drew_below _ | exact below_drewN (drew_below _) _)
          · rw [← q0] at g0
            rw [← q1] at g1
            rw [← q2] at g2
            have h3 : (e.weight == f.weight) = false := by rw [beq_eq_false_iff_ne]; exact q3
            clear hef q0 q1 q2 q3
            go_upto_region 6 with fail
            go_quiet (fail)
            all_goals go_wp2_with fail
            all_goals
              go_ret
              exact RetEq.no HNE.out (by first | exact drew_below _ | exact below_drewN (drew_below _) _)
      · go_wp2_with fail
        go_ret
        exact RetEq.yes (row_all HTK.out (by omega) (by omega)) (drew_below _)
  · have HNE : Hid (xs ≠ ys) := Lib.hid fun q => hlen (by rw [q])
    go_enter Tryz.func55, Tryz.ntmps55
    go_wp2_with fail
    go_ret
    exact RetEq.no HNE.out (Below.refl _ _)
set_option maxRecDepth 100000 in
set_option maxHeartbeats 4000000 in
theorem eqEnding_any (v v' : Value) (xs ys : List Lx.Ending) (w : World) (hr : RdS w w.heap.size 4 encEnding v xs) (hr' : RdS w w.heap.size 4 encEnding v' ys) : Calls Tryz.prog 56 #[v, v'] w (RetEq (xs = ys) w) := by
  obtain ⟨A, c, rfl, hl, hm, hc⟩ := hr
  obtain ⟨B, d, rfl, kl, km, kc⟩ := hr'
  have hn := nm_of hl hm
  have kn := nm_of kl km
  have HC := Lib.hid hc
  have KC := Lib.hid kc
  clear hc kc hm km hl kl
  by_cases hlen : (xs.length : Int) = (ys.length : Int)
  · go_enter Tryz.func56, Tryz.ntmps56
    go_wp2_with fail
    go_loopg [13] xs.length (fun g i wr => ∃ k : Nat, k ≤ xs.length ∧ g = xs.length - k ∧ i = .int .i64 k ∧ xs.take k = ys.take k ∧ ∃ n, wr = w.drewN n)
    case atStart => exact ⟨0, Nat.zero_le _, rfl, rfl, rfl, 0, rfl⟩
    case round =>
      obtain ⟨k, hk, rfl, rfl, htk, nr, rfl⟩ := hrel
      have HTK := Lib.hid htk
      clear htk
      by_cases hlt : k < xs.length
      · obtain ⟨b, off, rfl, hb, hcell⟩ := HC.out (by omega)
        obtain ⟨b', off', rfl, hb', hcell'⟩ := KC.out (by omega)
        obtain ⟨e, he⟩ : ∃ e, xs[k]? = some e := ⟨_, List.getElem?_eq_getElem hlt⟩
        obtain ⟨f, hf⟩ : ∃ e, ys[k]? = some e := ⟨_, List.getElem?_eq_getElem (by omega)⟩
        have hkI : (0 : Int) ≤ (k : Int) := by omega
        have hkJ : (k : Int) < (xs.length : Int) := by omega
        have hkK : (k : Int) < (ys.length : Int) := by omega
        have f0 : w.cell? ⟨b, off + k * 4, none⟩ = some (.int .i64 e.kind) := hcell k e he 0 _ rfl
        have g0 : w.cell? ⟨b', off' + k * 4, none⟩ = some (.int .i64 f.kind) := hcell' k f hf 0 _ rfl
        have f1 : w.cell? ⟨b, off + k * 4 + 1, none⟩ = some (.string e.text) := hcell k e he 1 _ rfl
        have g1 : w.cell? ⟨b', off' + k * 4 + 1, none⟩ = some (.string f.text) := hcell' k f hf 1 _ rfl
        have f2 : w.cell? ⟨b, off + k * 4 + 2, none⟩ = some (.string e.name) := hcell k e he 2 _ rfl
        have g2 : w.cell? ⟨b', off' + k * 4 + 2, none⟩ = some (.string f.name) := hcell' k f hf 2 _ rfl
        have f3 : w.cell? ⟨b, off + k * 4 + 3, none⟩ = some (.int .i64 e.weight) := hcell k e he 3 _ rfl
        have g3 : w.cell? ⟨b', off' + k * 4 + 3, none⟩ = some (.int .i64 f.weight) := hcell' k f hf 3 _ rfl
        have HE := Lib.hid he
        have HF := Lib.hid hf
        clear he hf hcell hcell'
        by_cases hef : e = f
        · subst hef
          go_upto_region 6 with fail
          go_quiet (fail)
          all_goals go_wp2_with fail
          all_goals
            go_roundg (xs.length - (k + 1))
            case measure => omega
            case rel => exact ⟨k + 1, by omega, rfl, by go_num, row_take HE.out HF.out HTK.out, _, by first | rfl | exact World.drewN_drewN _ _ _⟩
        · have HNE := Lib.hid (row_ne HE.out HF.out hef)
          rcases Lx.Ending_ne hef with q0 | ⟨q0, q1⟩ | ⟨q0, q1, q2⟩ | ⟨q0, q1, q2, q3⟩
          · have h0 : (e.kind == f.kind) = false := by rw [beq_eq_false_iff_ne]; exact q0
            clear hef q0
            go_upto_region 6 with fail
            go_quiet (fail)
            all_goals go_wp2_with fail
            all_goals
              go_ret
              exact RetEq.no HNE.out (by first | exact drew_below _ | exact below_drewN (drew_below _) _)
          · rw [← q0] at g0
            have h1 : (e.text.toList == f.text.toList) = false := Lx.toList_ne q1
            clear hef q0 q1
            go_upto_region 6 with fail
            go_quiet (fail)
            all_goals go_wp2_with fail
            all_goals
              go_ret
              exact RetEq.no HNE.out (by first | exact drew_below _ | exact below_drewN (drew_below _) _)
          · rw [← q0] at g0
            rw [← q1] at g1
            have h2 : (e.name.toList == f.name.toList) = false := Lx.toList_ne q2
            clear hef q0 q1 q2
            go_upto_region 6 with fail
            go_quiet (fail)
            all_goals go_wp2_with fail
            all_goals
              go_ret
              exact RetEq.no HNE.out (by first | exact drew_below _ | exact below_drewN (drew_below _) _)
          · rw [← q0] at g0
            rw [← q1] at g1
            rw [← q2] at g2
            have h3 : (e.weight == f.weight) = false := by rw [beq_eq_false_iff_ne]; exact q3
            clear hef q0 q1 q2 q3
            go_upto_region 6 with fail
            go_quiet (fail)
            all_goals go_wp2_with fail
            all_goals
              go_ret
              exact RetEq.no HNE.out (by first | exact drew_below _ | exact below_drewN (drew_below _) _)
      · go_wp2_with fail
        go_ret
        exact RetEq.yes (row_all HTK.out (by omega) (by omega)) (drew_below _)
  · have HNE : Hid (xs ≠ ys) := Lib.hid fun q => hlen (by rw [q])
    go_enter Tryz.func56, Tryz.ntmps56
    go_wp2_with fail
    go_ret
    exact RetEq.no HNE.out (Below.refl _ _)
set_option maxRecDepth 100000 in
set_option maxHeartbeats 4000000 in
theorem eqClitic_any (v v' : Value) (xs ys : List Lx.Clitic) (w : World) (hr : RdS w w.heap.size 3 encClitic v xs) (hr' : RdS w w.heap.size 3 encClitic v' ys) : Calls Tryz.prog 57 #[v, v'] w (RetEq (xs = ys) w) := by
  obtain ⟨A, c, rfl, hl, hm, hc⟩ := hr
  obtain ⟨B, d, rfl, kl, km, kc⟩ := hr'
  have hn := nm_of hl hm
  have kn := nm_of kl km
  have HC := Lib.hid hc
  have KC := Lib.hid kc
  clear hc kc hm km hl kl
  by_cases hlen : (xs.length : Int) = (ys.length : Int)
  · go_enter Tryz.func57, Tryz.ntmps57
    go_wp2_with fail
    go_loopg [13] xs.length (fun g i wr => ∃ k : Nat, k ≤ xs.length ∧ g = xs.length - k ∧ i = .int .i64 k ∧ xs.take k = ys.take k ∧ ∃ n, wr = w.drewN n)
    case atStart => exact ⟨0, Nat.zero_le _, rfl, rfl, rfl, 0, rfl⟩
    case round =>
      obtain ⟨k, hk, rfl, rfl, htk, nr, rfl⟩ := hrel
      have HTK := Lib.hid htk
      clear htk
      by_cases hlt : k < xs.length
      · obtain ⟨b, off, rfl, hb, hcell⟩ := HC.out (by omega)
        obtain ⟨b', off', rfl, hb', hcell'⟩ := KC.out (by omega)
        obtain ⟨e, he⟩ : ∃ e, xs[k]? = some e := ⟨_, List.getElem?_eq_getElem hlt⟩
        obtain ⟨f, hf⟩ : ∃ e, ys[k]? = some e := ⟨_, List.getElem?_eq_getElem (by omega)⟩
        have hkI : (0 : Int) ≤ (k : Int) := by omega
        have hkJ : (k : Int) < (xs.length : Int) := by omega
        have hkK : (k : Int) < (ys.length : Int) := by omega
        have f0 : w.cell? ⟨b, off + k * 3, none⟩ = some (.string e.text) := hcell k e he 0 _ rfl
        have g0 : w.cell? ⟨b', off' + k * 3, none⟩ = some (.string f.text) := hcell' k f hf 0 _ rfl
        have f1 : w.cell? ⟨b, off + k * 3 + 1, none⟩ = some (.string e.name) := hcell k e he 1 _ rfl
        have g1 : w.cell? ⟨b', off' + k * 3 + 1, none⟩ = some (.string f.name) := hcell' k f hf 1 _ rfl
        have f2 : w.cell? ⟨b, off + k * 3 + 2, none⟩ = some (.int .i64 e.weight) := hcell k e he 2 _ rfl
        have g2 : w.cell? ⟨b', off' + k * 3 + 2, none⟩ = some (.int .i64 f.weight) := hcell' k f hf 2 _ rfl
        have HE := Lib.hid he
        have HF := Lib.hid hf
        clear he hf hcell hcell'
        by_cases hef : e = f
        · subst hef
          go_upto_region 6 with fail
          go_quiet (fail)
          all_goals go_wp2_with fail
          all_goals
            go_roundg (xs.length - (k + 1))
            case measure => omega
            case rel => exact ⟨k + 1, by omega, rfl, by go_num, row_take HE.out HF.out HTK.out, _, by first | rfl | exact World.drewN_drewN _ _ _⟩
        · have HNE := Lib.hid (row_ne HE.out HF.out hef)
          rcases Lx.Clitic_ne hef with q0 | ⟨q0, q1⟩ | ⟨q0, q1, q2⟩
          · have h0 : (e.text.toList == f.text.toList) = false := Lx.toList_ne q0
            clear hef q0
            go_upto_region 6 with fail
            go_quiet (fail)
            all_goals go_wp2_with fail
            all_goals
              go_ret
              exact RetEq.no HNE.out (by first | exact drew_below _ | exact below_drewN (drew_below _) _)
          · rw [← q0] at g0
            have h1 : (e.name.toList == f.name.toList) = false := Lx.toList_ne q1
            clear hef q0 q1
            go_upto_region 6 with fail
            go_quiet (fail)
            all_goals go_wp2_with fail
            all_goals
              go_ret
              exact RetEq.no HNE.out (by first | exact drew_below _ | exact below_drewN (drew_below _) _)
          · rw [← q0] at g0
            rw [← q1] at g1
            have h2 : (e.weight == f.weight) = false := by rw [beq_eq_false_iff_ne]; exact q2
            clear hef q0 q1 q2
            go_upto_region 6 with fail
            go_quiet (fail)
            all_goals go_wp2_with fail
            all_goals
              go_ret
              exact RetEq.no HNE.out (by first | exact drew_below _ | exact below_drewN (drew_below _) _)
      · go_wp2_with fail
        go_ret
        exact RetEq.yes (row_all HTK.out (by omega) (by omega)) (drew_below _)
  · have HNE : Hid (xs ≠ ys) := Lib.hid fun q => hlen (by rw [q])
    go_enter Tryz.func57, Tryz.ntmps57
    go_wp2_with fail
    go_ret
    exact RetEq.no HNE.out (Below.refl _ _)
theorem lex_eq {x y : Lx.Lexicon} : x = y ↔ x.entries = y.entries ∧ x.endings = y.endings ∧ x.clitics = y.clitics := by
  cases x; cases y; simp
set_option maxRecDepth 100000 in
set_option maxHeartbeats 4000000 in
theorem Same_any (v v' : Value) (x y : Lx.Lexicon) (w : World) (hr : RdL w w.heap.size v x) (hr' : RdL w w.heap.size v' y) : Calls Tryz.prog 25 #[v, v'] w (RetEq (x = y) w) := by
  obtain ⟨⟨v0, v1, v2, rfl, hr0, hr1, hr2⟩, -, -, -⟩ := hr
  obtain ⟨⟨u0, u1, u2, rfl, kr0, kr1, kr2⟩, -, -, -⟩ := hr'
  have HE : Hid (∀ W, Below w.heap.size w W → Calls Tryz.prog 55 #[v0, u0] W (RetEq (x.entries = y.entries) W)) := Lib.hid fun W hW => eqEntry_any _ _ _ _ W ((hr0.below hW).more hW.size) ((kr0.below hW).more hW.size)
  have HN : Hid (∀ W, Below w.heap.size w W → Calls Tryz.prog 56 #[v1, u1] W (RetEq (x.endings = y.endings) W)) := Lib.hid fun W hW => eqEnding_any _ _ _ _ W ((hr1.below hW).more hW.size) ((kr1.below hW).more hW.size)
  have HC : Hid (∀ W, Below w.heap.size w W → Calls Tryz.prog 57 #[v2, u2] W (RetEq (x.clitics = y.clitics) W)) := Lib.hid fun W hW => eqClitic_any _ _ _ _ W ((hr2.below hW).more hW.size) ((kr2.below hW).more hW.size)
  obtain ⟨A0, c0, rfl, -⟩ := hr0
  obtain ⟨A1, c1, rfl, -⟩ := hr1
  obtain ⟨A2, c2, rfl, -⟩ := hr2
  obtain ⟨B0, d0, rfl, -⟩ := kr0
  obtain ⟨B1, d1, rfl, -⟩ := kr1
  obtain ⟨B2, d2, rfl, -⟩ := kr2
  obtain ⟨wA, hwA⟩ : ∃ wA, wA = ((w.alloc (.cells #[.slice A0 x.entries.length c0, .slice A1 x.endings.length c1, .slice A2 x.clitics.length c2] 26)).alloc (.cells #[.slice B0 y.entries.length d0, .slice B1 y.endings.length d1, .slice B2 y.clitics.length d2] 26)) := ⟨_, rfl⟩
  have hba : Below w.heap.size w wA := by rw [hwA]; exact ((Below.refl _ _).alloc (Nat.le_refl _) _).alloc (by simp) _
  have hsa : w.heap.size + 1 < wA.heap.size := by rw [hwA]; simp
  have hX : wA.heap[w.heap.size]? = some (.cells #[.slice A0 x.entries.length c0, .slice A1 x.endings.length c1, .slice A2 x.clitics.length c2] 26 (0, 0)) := by rw [hwA]; exact start_fst w _ _
  have hY : wA.heap[w.heap.size + 1]? = some (.cells #[.slice B0 y.entries.length d0, .slice B1 y.endings.length d1, .slice B2 y.clitics.length d2] 26 (0, 0)) := by rw [hwA]; exact start_res' w _ _
  have CX : Hid (∀ W, Below wA.heap.size wA W → W.cell? ⟨w.heap.size, 0, none⟩ = some (.slice A0 x.entries.length c0) ∧ W.cell? ⟨w.heap.size, 1, none⟩ = some (.slice A1 x.endings.length c1) ∧ W.cell? ⟨w.heap.size, 2, none⟩ = some (.slice A2 x.clitics.length c2) ∧
      W.cell? ⟨w.heap.size + 1, 0, none⟩ = some (.slice B0 y.entries.length d0) ∧ W.cell? ⟨w.heap.size + 1, 1, none⟩ = some (.slice B1 y.endings.length d1) ∧ W.cell? ⟨w.heap.size + 1, 2, none⟩ = some (.slice B2 y.clitics.length d2)) := Lib.hid fun W hW => by
    have a := (hW.block w.heap.size (by omega)).trans hX
    have b := (hW.block (w.heap.size + 1) (by omega)).trans hY
    exact ⟨by simp [World.cell?, a], by simp [World.cell?, a], by simp [World.cell?, a], by simp [World.cell?, b], by simp [World.cell?, b], by simp [World.cell?, b]⟩
  have HBA := Lib.hid hba
  have HWA := Lib.hid hwA
  clear hba hX hY hwA
  go_enter Tryz.func25, Tryz.ntmps25
  go_upto_region 1 with fail
  rw [← HWA.out]
  obtain ⟨j0, j1, j2, g0, g1, g2⟩ := CX.out wA (Below.refl _ _)
  go_wp2_with fail
  refine (HE.out _ HBA.out).mono ?_
  rintro e1 w1 ⟨q1, rfl, h1, hb1⟩
  have H1 := Lib.hid hb1
  have K1 := Lib.hid h1
  clear hb1 h1 j0 j1 j2 g0 g1 g2
  cases q1
  · have HNE : Hid (¬ x = y) := Lib.hid fun q => by have := K1.out.2 (lex_eq.1 q).1; cases this
    go_wp2_with fail
    go_ret
    exact RetEq.no HNE.out (HBA.out.trans (H1.out.mono HBA.out.size))
  · obtain ⟨j0, j1, j2, g0, g1, g2⟩ := CX.out w1 H1.out
    go_wp2_with fail
    refine (HN.out _ (HBA.out.trans (H1.out.mono HBA.out.size))).mono ?_
    rintro e2 w2 ⟨q2, rfl, h2, hb2⟩
    have H2 := Lib.hid (H1.out.trans (hb2.mono H1.out.size))
    have K2 := Lib.hid h2
    clear hb2 h2 j0 j1 j2 g0 g1 g2
    cases q2
    · have HNE : Hid (¬ x = y) := Lib.hid fun q => by have := K2.out.2 (lex_eq.1 q).2.1; cases this
      go_wp2_with fail
      go_ret
      exact RetEq.no HNE.out (HBA.out.trans (H2.out.mono HBA.out.size))
    · obtain ⟨j0, j1, j2, g0, g1, g2⟩ := CX.out w2 H2.out
      go_wp2_with fail
      refine (HC.out _ (HBA.out.trans (H2.out.mono HBA.out.size))).mono ?_
      rintro e3 w3 ⟨q3, rfl, h3, hb3⟩
      have H3 := Lib.hid (H2.out.trans (hb3.mono H2.out.size))
      have K3 := Lib.hid h3
      clear hb3 h3 j0 j1 j2 g0 g1 g2
      cases q3
      · have HNE : Hid (¬ x = y) := Lib.hid fun q => by have := K3.out.2 (lex_eq.1 q).2.2; cases this
        go_wp2_with fail
        go_ret
        exact RetEq.no HNE.out (HBA.out.trans (H3.out.mono HBA.out.size))
      · have HYE : Hid (x = y) := Lib.hid (lex_eq.2 ⟨by simpa using K1.out, by simpa using K2.out, by simpa using K3.out⟩)
        go_wp2_with fail
        go_ret
        exact RetEq.yes HYE.out (HBA.out.trans (H3.out.mono HBA.out.size))
set_option maxRecDepth 100000 in
set_option maxHeartbeats 4000000 in
theorem rSame_any (v v' : Value) (x y : Lx.Lexicon) (w : World) (hr : RdL w w.heap.size v x) (hr' : RdL w w.heap.size v' y) : Calls Tryz.prog 21 #[v, v'] w (RetEq (x = y) w) := by
  obtain ⟨⟨v0, v1, v2, rfl, ⟨A0, c0, rfl, hl0, hm0, hc0⟩, ⟨A1, c1, rfl, hl1, hm1, hc1⟩, ⟨A2, c2, rfl, hl2, hm2, hc2⟩⟩, -, -, -⟩ := hr
  obtain ⟨⟨u0, u1, u2, rfl, ⟨B0, d0, rfl, kl0, km0, kc0⟩, ⟨B1, d1, rfl, kl1, km1, kc1⟩, ⟨B2, d2, rfl, kl2, km2, kc2⟩⟩, -, -, -⟩ := hr'
  have hn0 := nm_of hl0 hm0
  have hn1 := nm_of hl1 hm1
  have hn2 := nm_of hl2 hm2
  have kn0 := nm_of kl0 km0
  have kn1 := nm_of kl1 km1
  have kn2 := nm_of kl2 km2
  have HC0 := Lib.hid hc0
  have HC1 := Lib.hid hc1
  have HC2 := Lib.hid hc2
  have KC0 := Lib.hid kc0
  have KC1 := Lib.hid kc1
  have KC2 := Lib.hid kc2
  clear hc0 hc1 hc2 kc0 kc1 kc2 hm0 hm1 hm2 km0 km1 km2 hl0 hl1 hl2 kl0 kl1 kl2
  have HBX : Hid (Below w.heap.size w ((w.alloc (.cells #[.slice A0 x.entries.length c0, .slice A1 x.endings.length c1, .slice A2 x.clitics.length c2] 26)).alloc (.cells #[.slice B0 y.entries.length d0, .slice B1 y.endings.length d1, .slice B2 y.clitics.length d2] 26))) := Lib.hid (((Below.refl _ _).alloc (Nat.le_refl _) _).alloc (by simp) _)
  by_cases hlen : (x.entries.length : Int) = (y.entries.length : Int) ∧ (x.endings.length : Int) = (y.endings.length : Int) ∧ (x.clitics.length : Int) = (y.clitics.length : Int)
  · obtain ⟨hz0, hz1, hz2⟩ := hlen
    go_enter Tryz.func21, Tryz.ntmps21
    go_wp2_with fail
    go_loopg [5] x.entries.length (fun g i wr => ∃ k : Nat, k ≤ x.entries.length ∧ g = x.entries.length - k ∧ i = .int .i64 k ∧ x.entries.take k = y.entries.take k ∧ ∃ n, wr = ((w.alloc (.cells #[.slice A0 x.entries.length c0, .slice A1 x.endings.length c1, .slice A2 x.clitics.length c2] 26)).alloc (.cells #[.slice B0 y.entries.length d0, .slice B1 y.endings.length d1, .slice B2 y.clitics.length d2] 26)).drewN n)
    case atStart => exact ⟨0, Nat.zero_le _, rfl, rfl, rfl, 0, rfl⟩
    case round =>
      obtain ⟨k, hk, rfl, rfl, htk, nr, rfl⟩ := hrel
      have HTK := Lib.hid htk
      clear htk
      by_cases hlt : k < x.entries.length
      · obtain ⟨b, off, rfl, hb, hcell⟩ := HC0.out (by omega)
        obtain ⟨b', off', rfl, hb', hcell'⟩ := KC0.out (by omega)
        obtain ⟨e, he⟩ : ∃ e, x.entries[k]? = some e := ⟨_, List.getElem?_eq_getElem hlt⟩
        obtain ⟨f, hf⟩ : ∃ e, y.entries[k]? = some e := ⟨_, List.getElem?_eq_getElem (by omega)⟩
        have hkI : (0 : Int) ≤ (k : Int) := by omega
        have hkJ : (k : Int) < (x.entries.length : Int) := by omega
        have hkK : (k : Int) < (y.entries.length : Int) := by omega
        have f0 : w.cell? ⟨b, off + k * 4, none⟩ = some (.string e.root) := hcell k e he 0 _ rfl
        have g0 : w.cell? ⟨b', off' + k * 4, none⟩ = some (.string f.root) := hcell' k f hf 0 _ rfl
        have f1 : w.cell? ⟨b, off + k * 4 + 1, none⟩ = some (.int .i64 e.kind) := hcell k e he 1 _ rfl
        have g1 : w.cell? ⟨b', off' + k * 4 + 1, none⟩ = some (.int .i64 f.kind) := hcell' k f hf 1 _ rfl
        have f2 : w.cell? ⟨b, off + k * 4 + 2, none⟩ = some (.string e.cls) := hcell k e he 2 _ rfl
        have g2 : w.cell? ⟨b', off' + k * 4 + 2, none⟩ = some (.string f.cls) := hcell' k f hf 2 _ rfl
        have f3 : w.cell? ⟨b, off + k * 4 + 3, none⟩ = some (.int .i64 e.weight) := hcell k e he 3 _ rfl
        have g3 : w.cell? ⟨b', off' + k * 4 + 3, none⟩ = some (.int .i64 f.weight) := hcell' k f hf 3 _ rfl
        have HE := Lib.hid he
        have HF := Lib.hid hf
        clear he hf hcell hcell'
        by_cases hef : e = f
        · subst hef
          go_upto_region 6 with fail
          go_cut [50] (fun t wc => t = .bool false ∧ ∃ n, wc = ((w.alloc (.cells #[.slice (some ⟨b, off, none⟩) x.entries.length c0, .slice A1 x.endings.length c1, .slice A2 x.clitics.length c2] 26)).alloc (.cells #[.slice (some ⟨b', off', none⟩) y.entries.length d0, .slice B1 y.endings.length d1, .slice B2 y.clitics.length d2] 26)).drewN n)
          case first =>
            go_quiet (fail)
            all_goals go_wp2_with fail
            all_goals
              go_meet
              go_light
              first | refine ⟨?_, _, rfl⟩ | refine ⟨?_, _, World.drewN_drewN _ _ _⟩
              try simp
          case rest =>
            obtain ⟨rfl, nc, rfl⟩ := hcut
            go_wp2_with fail
            go_roundg (x.entries.length - (k + 1))
            case measure => omega
            case rel => exact ⟨k + 1, by omega, rfl, by go_num, row_take HE.out HF.out HTK.out, _, rfl⟩
        · have HNE := Lib.hid (row_ne HE.out HF.out hef)
          rcases Lx.Entry_ne hef with q0 | ⟨q0, q1⟩ | ⟨q0, q1, q2⟩ | ⟨q0, q1, q2, q3⟩
          · have h0 : (e.root.toList == f.root.toList) = false := Lx.toList_ne q0
            clear hef q0
            go_upto_region 6 with fail
            go_cut [50] (fun t wc => t = .bool true ∧ ∃ n, wc = ((w.alloc (.cells #[.slice (some ⟨b, off, none⟩) x.entries.length c0, .slice A1 x.endings.length c1, .slice A2 x.clitics.length c2] 26)).alloc (.cells #[.slice (some ⟨b', off', none⟩) y.entries.length d0, .slice B1 y.endings.length d1, .slice B2 y.clitics.length d2] 26)).drewN n)
            case first =>
              go_quiet (fail)
              all_goals go_wp2_with fail
              all_goals
                go_meet
                go_light
                first | refine ⟨?_, _, rfl⟩ | refine ⟨?_, _, World.drewN_drewN _ _ _⟩
                try simp
            case rest =>
              obtain ⟨rfl, nc, rfl⟩ := hcut
              go_wp2_with fail
              go_ret
              exact RetEq.no (fun q => HNE.out (lex_eq.1 q).1) (below_drewN HBX.out _)
          · rw [← q0] at g0
            have h1 : (e.kind == f.kind) = false := by rw [beq_eq_false_iff_ne]; exact q1
            clear hef q0 q1
            go_upto_region 6 with fail
            go_cut [50] (fun t wc => t = .bool true ∧ ∃ n, wc = ((w.alloc (.cells #[.slice (some ⟨b, off, none⟩) x.entries.length c0, .slice A1 x.endings.length c1, .slice A2 x.clitics.length c2] 26)).alloc (.cells #[.slice (some ⟨b', off', none⟩) y.entries.length d0, .slice B1 y.endings.length d1, .slice B2 y.clitics.length d2] 26)).drewN n)
            case first =>
              go_quiet (fail)
              all_goals go_wp2_with fail
              all_goals
                go_meet
                go_light
                first | refine ⟨?_, _, rfl⟩ | refine ⟨?_, _, World.drewN_drewN _ _ _⟩
                try simp
            case rest =>
              obtain ⟨rfl, nc, rfl⟩ := hcut
              go_wp2_with fail
              go_ret
              exact RetEq.no (fun q => HNE.out (lex_eq.1 q).1) (below_drewN HBX.out _)
          · rw [← q0] at g0
            rw [← q1] at g1
            have h2 : (e.cls.toList == f.cls.toList) = false := Lx.toList_ne q2
            clear hef q0 q1 q2
            go_upto_region 6 with fail
            go_cut [50] (fun t wc => t = .bool true ∧ ∃ n, wc = ((w.alloc (.cells #[.slice (some ⟨b, off, none⟩) x.entries.length c0, .slice A1 x.endings.length c1, .slice A2 x.clitics.length c2] 26)).alloc (.cells #[.slice (some ⟨b', off', none⟩) y.entries.length d0, .slice B1 y.endings.length d1, .slice B2 y.clitics.length d2] 26)).drewN n)
            case first =>
              go_quiet (fail)
              all_goals go_wp2_with fail
              all_goals
                go_meet
                go_light
                first | refine ⟨?_, _, rfl⟩ | refine ⟨?_, _, World.drewN_drewN _ _ _⟩
                try simp
            case rest =>
              obtain ⟨rfl, nc, rfl⟩ := hcut
              go_wp2_with fail
              go_ret
              exact RetEq.no (fun q => HNE.out (lex_eq.1 q).1) (below_drewN HBX.out _)
          · rw [← q0] at g0
            rw [← q1] at g1
            rw [← q2] at g2
            have h3 : (e.weight == f.weight) = false := by rw [beq_eq_false_iff_ne]; exact q3
            clear hef q0 q1 q2 q3
            go_upto_region 6 with fail
            go_cut [50] (fun t wc => t = .bool true ∧ ∃ n, wc = ((w.alloc (.cells #[.slice (some ⟨b, off, none⟩) x.entries.length c0, .slice A1 x.endings.length c1, .slice A2 x.clitics.length c2] 26)).alloc (.cells #[.slice (some ⟨b', off', none⟩) y.entries.length d0, .slice B1 y.endings.length d1, .slice B2 y.clitics.length d2] 26)).drewN n)
            case first =>
              go_quiet (fail)
              all_goals go_wp2_with fail
              all_goals
                go_meet
                go_light
                first | refine ⟨?_, _, rfl⟩ | refine ⟨?_, _, World.drewN_drewN _ _ _⟩
                try simp
            case rest =>
              obtain ⟨rfl, nc, rfl⟩ := hcut
              go_wp2_with fail
              go_ret
              exact RetEq.no (fun q => HNE.out (lex_eq.1 q).1) (below_drewN HBX.out _)
      · have HA0 := Lib.hid (row_all HTK.out (by omega) (by omega))
        clear HTK
        go_wp2_with fail
        go_loopg [6] x.endings.length (fun g i wr => ∃ k : Nat, k ≤ x.endings.length ∧ g = x.endings.length - k ∧ i = .int .i64 k ∧ x.endings.take k = y.endings.take k ∧ ∃ n, wr = ((w.alloc (.cells #[.slice A0 x.entries.length c0, .slice A1 x.endings.length c1, .slice A2 x.clitics.length c2] 26)).alloc (.cells #[.slice B0 y.entries.length d0, .slice B1 y.endings.length d1, .slice B2 y.clitics.length d2] 26)).drewN n)
        case atStart => exact ⟨0, Nat.zero_le _, rfl, rfl, rfl, _, rfl⟩
        case round =>
          obtain ⟨k, hk, rfl, rfl, htk, nr, rfl⟩ := hrel
          have HTK := Lib.hid htk
          clear htk
          by_cases hlt : k < x.endings.length
          · obtain ⟨b, off, rfl, hb, hcell⟩ := HC1.out (by omega)
            obtain ⟨b', off', rfl, hb', hcell'⟩ := KC1.out (by omega)
            obtain ⟨e, he⟩ : ∃ e, x.endings[k]? = some e := ⟨_, List.getElem?_eq_getElem hlt⟩
            obtain ⟨f, hf⟩ : ∃ e, y.endings[k]? = some e := ⟨_, List.getElem?_eq_getElem (by omega)⟩
            have hkI : (0 : Int) ≤ (k : Int) := by omega
            have hkJ : (k : Int) < (x.endings.length : Int) := by omega
            have hkK : (k : Int) < (y.endings.length : Int) := by omega
            have f0 : w.cell? ⟨b, off + k * 4, none⟩ = some (.int .i64 e.kind) := hcell k e he 0 _ rfl
            have g0 : w.cell? ⟨b', off' + k * 4, none⟩ = some (.int .i64 f.kind) := hcell' k f hf 0 _ rfl
            have f1 : w.cell? ⟨b, off + k * 4 + 1, none⟩ = some (.string e.text) := hcell k e he 1 _ rfl
            have g1 : w.cell? ⟨b', off' + k * 4 + 1, none⟩ = some (.string f.text) := hcell' k f hf 1 _ rfl
            have f2 : w.cell? ⟨b, off + k * 4 + 2, none⟩ = some (.string e.name) := hcell k e he 2 _ rfl
            have g2 : w.cell? ⟨b', off' + k * 4 + 2, none⟩ = some (.string f.name) := hcell' k f hf 2 _ rfl
            have f3 : w.cell? ⟨b, off + k * 4 + 3, none⟩ = some (.int .i64 e.weight) := hcell k e he 3 _ rfl
            have g3 : w.cell? ⟨b', off' + k * 4 + 3, none⟩ = some (.int .i64 f.weight) := hcell' k f hf 3 _ rfl
            have HE := Lib.hid he
            have HF := Lib.hid hf
            clear he hf hcell hcell'
            by_cases hef : e = f
            · subst hef
              go_upto_region 11 with fail
              go_cut [68] (fun t wc => t = .bool false ∧ ∃ n, wc = ((w.alloc (.cells #[.slice A0 x.entries.length c0, .slice (some ⟨b, off, none⟩) x.endings.length c1, .slice A2 x.clitics.length c2] 26)).alloc (.cells #[.slice B0 y.entries.length d0, .slice (some ⟨b', off', none⟩) y.endings.length d1, .slice B2 y.clitics.length d2] 26)).drewN n)
              case first =>
                go_quiet (fail)
                all_goals go_wp2_with fail
                all_goals
                  go_meet
                  go_light
                  first | refine ⟨?_, _, rfl⟩ | refine ⟨?_, _, World.drewN_drewN _ _ _⟩
                  try simp
              case rest =>
                obtain ⟨rfl, nc, rfl⟩ := hcut
                go_wp2_with fail
                go_roundg (x.endings.length - (k + 1))
                case measure => omega
                case rel => exact ⟨k + 1, by omega, rfl, by go_num, row_take HE.out HF.out HTK.out, _, rfl⟩
            · have HNE := Lib.hid (row_ne HE.out HF.out hef)
              rcases Lx.Ending_ne hef with q0 | ⟨q0, q1⟩ | ⟨q0, q1, q2⟩ | ⟨q0, q1, q2, q3⟩
              · have h0 : (e.kind == f.kind) = false := by rw [beq_eq_false_iff_ne]; exact q0
                clear hef q0
                go_upto_region 11 with fail
                go_cut [68] (fun t wc => t = .bool true ∧ ∃ n, wc = ((w.alloc (.cells #[.slice A0 x.entries.length c0, .slice (some ⟨b, off, none⟩) x.endings.length c1, .slice A2 x.clitics.length c2] 26)).alloc (.cells #[.slice B0 y.entries.length d0, .slice (some ⟨b', off', none⟩) y.endings.length d1, .slice B2 y.clitics.length d2] 26)).drewN n)
                case first =>
                  go_quiet (fail)
                  all_goals go_wp2_with fail
                  all_goals
                    go_meet
                    go_light
                    first | refine ⟨?_, _, rfl⟩ | refine ⟨?_, _, World.drewN_drewN _ _ _⟩
                    try simp
                case rest =>
                  obtain ⟨rfl, nc, rfl⟩ := hcut
                  go_wp2_with fail
                  go_ret
                  exact RetEq.no (fun q => HNE.out (lex_eq.1 q).2.1) (below_drewN HBX.out _)
              · rw [← q0] at g0
                have h1 : (e.text.toList == f.text.toList) = false := Lx.toList_ne q1
                clear hef q0 q1
                go_upto_region 11 with fail
                go_cut [68] (fun t wc => t = .bool true ∧ ∃ n, wc = ((w.alloc (.cells #[.slice A0 x.entries.length c0, .slice (some ⟨b, off, none⟩) x.endings.length c1, .slice A2 x.clitics.length c2] 26)).alloc (.cells #[.slice B0 y.entries.length d0, .slice (some ⟨b', off', none⟩) y.endings.length d1, .slice B2 y.clitics.length d2] 26)).drewN n)
                case first =>
                  go_quiet (fail)
                  all_goals go_wp2_with fail
                  all_goals
                    go_meet
                    go_light
                    first | refine ⟨?_, _, rfl⟩ | refine ⟨?_, _, World.drewN_drewN _ _ _⟩
                    try simp
                case rest =>
                  obtain ⟨rfl, nc, rfl⟩ := hcut
                  go_wp2_with fail
                  go_ret
                  exact RetEq.no (fun q => HNE.out (lex_eq.1 q).2.1) (below_drewN HBX.out _)
              · rw [← q0] at g0
                rw [← q1] at g1
                have h2 : (e.name.toList == f.name.toList) = false := Lx.toList_ne q2
                clear hef q0 q1 q2
                go_upto_region 11 with fail
                go_cut [68] (fun t wc => t = .bool true ∧ ∃ n, wc = ((w.alloc (.cells #[.slice A0 x.entries.length c0, .slice (some ⟨b, off, none⟩) x.endings.length c1, .slice A2 x.clitics.length c2] 26)).alloc (.cells #[.slice B0 y.entries.length d0, .slice (some ⟨b', off', none⟩) y.endings.length d1, .slice B2 y.clitics.length d2] 26)).drewN n)
                case first =>
                  go_quiet (fail)
                  all_goals go_wp2_with fail
                  all_goals
                    go_meet
                    go_light
                    first | refine ⟨?_, _, rfl⟩ | refine ⟨?_, _, World.drewN_drewN _ _ _⟩
                    try simp
                case rest =>
                  obtain ⟨rfl, nc, rfl⟩ := hcut
                  go_wp2_with fail
                  go_ret
                  exact RetEq.no (fun q => HNE.out (lex_eq.1 q).2.1) (below_drewN HBX.out _)
              · rw [← q0] at g0
                rw [← q1] at g1
                rw [← q2] at g2
                have h3 : (e.weight == f.weight) = false := by rw [beq_eq_false_iff_ne]; exact q3
                clear hef q0 q1 q2 q3
                go_upto_region 11 with fail
                go_cut [68] (fun t wc => t = .bool true ∧ ∃ n, wc = ((w.alloc (.cells #[.slice A0 x.entries.length c0, .slice (some ⟨b, off, none⟩) x.endings.length c1, .slice A2 x.clitics.length c2] 26)).alloc (.cells #[.slice B0 y.entries.length d0, .slice (some ⟨b', off', none⟩) y.endings.length d1, .slice B2 y.clitics.length d2] 26)).drewN n)
                case first =>
                  go_quiet (fail)
                  all_goals go_wp2_with fail
                  all_goals
                    go_meet
                    go_light
                    first | refine ⟨?_, _, rfl⟩ | refine ⟨?_, _, World.drewN_drewN _ _ _⟩
                    try simp
                case rest =>
                  obtain ⟨rfl, nc, rfl⟩ := hcut
                  go_wp2_with fail
                  go_ret
                  exact RetEq.no (fun q => HNE.out (lex_eq.1 q).2.1) (below_drewN HBX.out _)
          · have HA1 := Lib.hid (row_all HTK.out (by omega) (by omega))
            clear HTK
            go_wp2_with fail
            go_loopg [7] x.clitics.length (fun g i wr => ∃ k : Nat, k ≤ x.clitics.length ∧ g = x.clitics.length - k ∧ i = .int .i64 k ∧ x.clitics.take k = y.clitics.take k ∧ ∃ n, wr = ((w.alloc (.cells #[.slice A0 x.entries.length c0, .slice A1 x.endings.length c1, .slice A2 x.clitics.length c2] 26)).alloc (.cells #[.slice B0 y.entries.length d0, .slice B1 y.endings.length d1, .slice B2 y.clitics.length d2] 26)).drewN n)
            case atStart => exact ⟨0, Nat.zero_le _, rfl, rfl, rfl, _, rfl⟩
            case round =>
              obtain ⟨k, hk, rfl, rfl, htk, nr, rfl⟩ := hrel
              have HTK := Lib.hid htk
              clear htk
              by_cases hlt : k < x.clitics.length
              · obtain ⟨b, off, rfl, hb, hcell⟩ := HC2.out (by omega)
                obtain ⟨b', off', rfl, hb', hcell'⟩ := KC2.out (by omega)
                obtain ⟨e, he⟩ : ∃ e, x.clitics[k]? = some e := ⟨_, List.getElem?_eq_getElem hlt⟩
                obtain ⟨f, hf⟩ : ∃ e, y.clitics[k]? = some e := ⟨_, List.getElem?_eq_getElem (by omega)⟩
                have hkI : (0 : Int) ≤ (k : Int) := by omega
                have hkJ : (k : Int) < (x.clitics.length : Int) := by omega
                have hkK : (k : Int) < (y.clitics.length : Int) := by omega
                have f0 : w.cell? ⟨b, off + k * 3, none⟩ = some (.string e.text) := hcell k e he 0 _ rfl
                have g0 : w.cell? ⟨b', off' + k * 3, none⟩ = some (.string f.text) := hcell' k f hf 0 _ rfl
                have f1 : w.cell? ⟨b, off + k * 3 + 1, none⟩ = some (.string e.name) := hcell k e he 1 _ rfl
                have g1 : w.cell? ⟨b', off' + k * 3 + 1, none⟩ = some (.string f.name) := hcell' k f hf 1 _ rfl
                have f2 : w.cell? ⟨b, off + k * 3 + 2, none⟩ = some (.int .i64 e.weight) := hcell k e he 2 _ rfl
                have g2 : w.cell? ⟨b', off' + k * 3 + 2, none⟩ = some (.int .i64 f.weight) := hcell' k f hf 2 _ rfl
                have HE := Lib.hid he
                have HF := Lib.hid hf
                clear he hf hcell hcell'
                by_cases hef : e = f
                · subst hef
                  go_upto_region 16 with fail
                  go_cut [86] (fun t wc => t = .bool false ∧ ∃ n, wc = ((w.alloc (.cells #[.slice A0 x.entries.length c0, .slice A1 x.endings.length c1, .slice (some ⟨b, off, none⟩) x.clitics.length c2] 26)).alloc (.cells #[.slice B0 y.entries.length d0, .slice B1 y.endings.length d1, .slice (some ⟨b', off', none⟩) y.clitics.length d2] 26)).drewN n)
                  case first =>
                    go_quiet (fail)
                    all_goals go_wp2_with fail
                    all_goals
                      go_meet
                      go_light
                      first | refine ⟨?_, _, rfl⟩ | refine ⟨?_, _, World.drewN_drewN _ _ _⟩
                      try simp
                  case rest =>
                    obtain ⟨rfl, nc, rfl⟩ := hcut
                    go_wp2_with fail
                    go_roundg (x.clitics.length - (k + 1))
                    case measure => omega
                    case rel => exact ⟨k + 1, by omega, rfl, by go_num, row_take HE.out HF.out HTK.out, _, rfl⟩
                · have HNE := Lib.hid (row_ne HE.out HF.out hef)
                  rcases Lx.Clitic_ne hef with q0 | ⟨q0, q1⟩ | ⟨q0, q1, q2⟩
                  · have h0 : (e.text.toList == f.text.toList) = false := Lx.toList_ne q0
                    clear hef q0
                    go_upto_region 16 with fail
                    go_cut [86] (fun t wc => t = .bool true ∧ ∃ n, wc = ((w.alloc (.cells #[.slice A0 x.entries.length c0, .slice A1 x.endings.length c1, .slice (some ⟨b, off, none⟩) x.clitics.length c2] 26)).alloc (.cells #[.slice B0 y.entries.length d0, .slice B1 y.endings.length d1, .slice (some ⟨b', off', none⟩) y.clitics.length d2] 26)).drewN n)
                    case first =>
                      go_quiet (fail)
                      all_goals go_wp2_with fail
                      all_goals
                        go_meet
                        go_light
                        first | refine ⟨?_, _, rfl⟩ | refine ⟨?_, _, World.drewN_drewN _ _ _⟩
                        try simp
                    case rest =>
                      obtain ⟨rfl, nc, rfl⟩ := hcut
                      go_wp2_with fail
                      go_ret
                      exact RetEq.no (fun q => HNE.out (lex_eq.1 q).2.2) (below_drewN HBX.out _)
                  · rw [← q0] at g0
                    have h1 : (e.name.toList == f.name.toList) = false := Lx.toList_ne q1
                    clear hef q0 q1
                    go_upto_region 16 with fail
                    go_cut [86] (fun t wc => t = .bool true ∧ ∃ n, wc = ((w.alloc (.cells #[.slice A0 x.entries.length c0, .slice A1 x.endings.length c1, .slice (some ⟨b, off, none⟩) x.clitics.length c2] 26)).alloc (.cells #[.slice B0 y.entries.length d0, .slice B1 y.endings.length d1, .slice (some ⟨b', off', none⟩) y.clitics.length d2] 26)).drewN n)
                    case first =>
                      go_quiet (fail)
                      all_goals go_wp2_with fail
                      all_goals
                        go_meet
                        go_light
                        first | refine ⟨?_, _, rfl⟩ | refine ⟨?_, _, World.drewN_drewN _ _ _⟩
                        try simp
                    case rest =>
                      obtain ⟨rfl, nc, rfl⟩ := hcut
                      go_wp2_with fail
                      go_ret
                      exact RetEq.no (fun q => HNE.out (lex_eq.1 q).2.2) (below_drewN HBX.out _)
                  · rw [← q0] at g0
                    rw [← q1] at g1
                    have h2 : (e.weight == f.weight) = false := by rw [beq_eq_false_iff_ne]; exact q2
                    clear hef q0 q1 q2
                    go_upto_region 16 with fail
                    go_cut [86] (fun t wc => t = .bool true ∧ ∃ n, wc = ((w.alloc (.cells #[.slice A0 x.entries.length c0, .slice A1 x.endings.length c1, .slice (some ⟨b, off, none⟩) x.clitics.length c2] 26)).alloc (.cells #[.slice B0 y.entries.length d0, .slice B1 y.endings.length d1, .slice (some ⟨b', off', none⟩) y.clitics.length d2] 26)).drewN n)
                    case first =>
                      go_quiet (fail)
                      all_goals go_wp2_with fail
                      all_goals
                        go_meet
                        go_light
                        first | refine ⟨?_, _, rfl⟩ | refine ⟨?_, _, World.drewN_drewN _ _ _⟩
                        try simp
                    case rest =>
                      obtain ⟨rfl, nc, rfl⟩ := hcut
                      go_wp2_with fail
                      go_ret
                      exact RetEq.no (fun q => HNE.out (lex_eq.1 q).2.2) (below_drewN HBX.out _)
              · have HA2 := Lib.hid (row_all HTK.out (by omega) (by omega))
                clear HTK
                go_wp2_with fail
                go_ret
                exact RetEq.yes (lex_eq.2 ⟨HA0.out, HA1.out, HA2.out⟩) (below_drewN HBX.out _)
  · have HNE : Hid (¬ x = y) := Lib.hid fun q => hlen (by rw [q]; exact ⟨rfl, rfl, rfl⟩)
    have hor : (¬ (x.entries.length : Int) = (y.entries.length : Int)) ∨ ((x.entries.length : Int) = (y.entries.length : Int) ∧ ¬ (x.endings.length : Int) = (y.endings.length : Int)) ∨ ((x.entries.length : Int) = (y.entries.length : Int) ∧ (x.endings.length : Int) = (y.endings.length : Int) ∧ ¬ (x.clitics.length : Int) = (y.clitics.length : Int)) := by omega
    clear hlen
    rcases hor with h0 | ⟨h0, h1⟩ | ⟨h0, h1, h2⟩
    all_goals
      go_enter Tryz.func21, Tryz.ntmps21
      go_wp2_with fail
      go_ret
      exact RetEq.no HNE.out HBX.out
end Go.Proofs.YtpmnpnlfgfleeaaGreatDoor
