/- ostraconref05.Parse. -/
import Derived.Test.YtpmnpnlfgfleeaaGreatDoorMgRLine
import Derived.Test.YtpmnpnlfgfleeaaGreatDoorMgRCheck
namespace Go.Proofs.YtpmnpnlfgfleeaaGreatDoor
open Go Go.RowKit

def Lx.none3 : Lx.Lexicon := ⟨[], [], []⟩
/-- the lines left, n of them read: the lexicon, the line and the error -/
def Lx.readL (en : Bool) : List (List UInt8) → Nat → Lx.Lexicon → Lx.Lexicon × Int × Int
  | [], _, x => if Lx.checkV x = 0 then (x, 0, 0) else (Lx.none3, 0, Lx.checkV x)
  | a :: r, n, x => if r = [] ∧ en = false then (Lx.none3, (n : Int) + 1, 4) else match Lx.lineV x (Lib.split a [32]) with
    | none => (Lx.none3, (n : Int) + 1, 4)
    | some y => Lx.readL en r (n + 1) y
def Lx.parseV (t : List UInt8) : Lx.Lexicon × Int × Int := if 65536 < t.length then (Lx.none3, 0, 2) else Lx.readL (Lx.linesV t).2 (Lx.linesV t).1 0 Lx.none3
def RetP (q : Lx.Lexicon × Int × Int) (w : World) (e : Ending) (w' : World) : Prop := ∃ v, e = .returned (.tuple #[v, .int .i64 q.2.1, .int .i64 q.2.2]) ∧ RdL w' w'.heap.size v q.1 ∧ Below w.heap.size w w'
theorem Lx.readL_step {en : Bool} {a : List UInt8} {r : List (List UInt8)} {n : Nat} {x y : Lx.Lexicon} (h : ¬ (r = [] ∧ en = false)) (hy : Lx.lineV x (Lib.split a [32]) = some y) : Lx.readL en (a :: r) n x = Lx.readL en r (n + 1) y := by
  rw [Lx.readL, if_neg h, hy]
theorem Lx.readL_bad {en : Bool} {a : List UInt8} {r : List (List UInt8)} {n : Nat} {x : Lx.Lexicon} (h : (r = [] ∧ en = false) ∨ Lx.lineV x (Lib.split a [32]) = none) : Lx.readL en (a :: r) n x = (Lx.none3, (n : Int) + 1, 4) := by
  by_cases q : r = [] ∧ en = false
  · rw [Lx.readL, if_pos q]
  · rw [Lx.readL, if_neg q, h.resolve_left q]
theorem Lx.lineV_grow {x y : Lx.Lexicon} {ws : List (List UInt8)} (h : Lx.lineV x ws = some y) : y.entries.length ≤ x.entries.length + 1 ∧ y.endings.length ≤ x.endings.length + 1 ∧ y.clitics.length ≤ x.clitics.length + 1 := by
  unfold Lx.lineV at h
  split at h
  · cases h
  · split at h
    · split at h
      · split at h
        · cases h; simp
        · cases h
      · split at h
        · split at h
          · cases h; simp
          · cases h
        · cases h
    · split at h
      · cases h; simp
      · cases h
    · cases h
theorem rdl_none3 (w : World) (B : Nat) : RdL w B (.agg #[.slice none 0 0, .slice none 0 0, .slice none 0 0]) Lx.none3 :=
  ⟨⟨_, _, _, rfl, ⟨none, 0, rfl, by simp [Lx.none3], by simp, fun h => absurd h (by simp [Lx.none3])⟩, ⟨none, 0, rfl, by simp [Lx.none3], by simp, fun h => absurd h (by simp [Lx.none3])⟩, ⟨none, 0, rfl, by simp [Lx.none3], by simp, fun h => absurd h (by simp [Lx.none3])⟩⟩,
    fun _ h => by simp [Lx.none3] at h, fun _ h => by simp [Lx.none3] at h, fun _ h => by simp [Lx.none3] at h⟩
theorem lexOwn_new (w : World) : LexOwn (w.alloc (.cells #[.slice none 0 0, .slice none 0 0, .slice none 0 0] 26)) w.heap.size Lx.none3 :=
  ⟨_, _, _, heap_alloc_new w _, LexRows.nil _ _⟩

theorem Lx.linesV_sub (l : List UInt8) : (∀ a ∈ (Lx.linesV l).1, a ∈ Lib.split l [10]) ∧ (Lx.linesV l).1.length ≤ (Lib.split l [10]).length := by
  unfold Lx.linesV
  split
  · exact ⟨fun a h => (List.dropLast_sublist _).subset h, by simp⟩
  · exact ⟨fun a h => h, Nat.le_refl _⟩
theorem Lx.split_len (c : UInt8) (l : List UInt8) : (Lib.split l [c]).length ≤ l.length + 1 := by
  rw [Lx.pst_split, List.length_append, List.length_singleton]
  have := Lx.pst_count c l
  omega
theorem RdS.ex0 {α : Type} {w : World} {B size n c : Nat} {enc : α → List Value} {A : Option Addr} {xs : List α} (h : RdS w B size enc (.slice A n c) xs) (h0 : 0 < xs.length) :
    ∃ b off, A = some ⟨b, off, none⟩ ∧ b < B ∧ ∀ i x, xs[i]? = some x → ∀ j u, (enc x)[j]? = some u → w.cell? ⟨b, off + i * size + j, none⟩ = some u := by
  obtain ⟨A', c', hv, hl, hc, hh⟩ := h
  injection hv with h1 h2 h3
  subst h1 h2 h3
  exact hh h0
theorem retP_of {R : Lx.Lexicon × Int × Int} {v : Value} {x : Lx.Lexicon} {n m : Int} {w w' : World} (h : R = (x, n, m)) (hr : RdL w' w'.heap.size v x) (hb : Below w.heap.size w w') : RetP R w (.returned (.tuple #[v, .int .i64 n, .int .i64 m])) w' := by
  subst h
  exact ⟨v, rfl, hr, hb⟩
set_option maxRecDepth 100000 in
set_option maxHeartbeats 4000000 in
theorem rParse_any (t : ByteArray) (w : World) (ht : t.size ≤ 100000) : Calls Tryz.prog 20 #[.string t] w (RetP (Lx.parseV t.data.toList) w) := by
  have hlen : t.data.toList.length = t.size := rfl
  by_cases hbig : 65536 < t.size
  · have HP : Hid (Lx.parseV t.data.toList = (Lx.none3, 0, 2)) := Lib.hid (by unfold Lx.parseV; rw [if_pos (by rw [hlen]; exact hbig)])
    rw [HP.out]
    have hbI : 65536 < (t.size : Int) := by omega
    go_enter Tryz.func20, Tryz.ntmps20
    go_wp2_with fail
    obtain ⟨r0, r1, r2⟩ := lex_cells (heap_alloc_new w (.cells #[.slice none 0 0, .slice none 0 0, .slice none 0 0] 26))
    exact bodyPost_ret (v := .tuple #[.agg #[.slice none 0 0, .slice none 0 0, .slice none 0 0], .int .i64 0, .int .i64 2]) (by simp [results, Tryz.results20, go_sem, r0, r1, r2]) rfl ⟨_, rfl, rdl_none3 _ _, (Below.refl _ _).alloc (Nat.le_refl _) _⟩
  · have hbI : ¬ 65536 < (t.size : Int) := by omega
    obtain ⟨R, hR⟩ : ∃ R, R = Lx.parseV t.data.toList := ⟨_, rfl⟩
    rw [← hR]
    have HR0 : Hid (Lx.readL (Lx.linesV t.data.toList).2 (Lx.linesV t.data.toList).1 0 Lx.none3 = R) := Lib.hid (by rw [hR]; unfold Lx.parseV; rw [if_neg (by rw [hlen]; exact hbig)])
    clear hR
    go_enter Tryz.func20, Tryz.ntmps20
    go_wp2_with fail
    refine (r1Lines_any t _ (by omega)).mono ?_
    rintro e w1 ⟨v, l, rfl, hrd, hq, hbel⟩
    obtain ⟨en, hen⟩ : ∃ b, b = (Lx.linesV t.data.toList).2 := ⟨_, rfl⟩
    rw [← hen]
    have HQ := Lib.hid hq
    have HEN := Lib.hid hen
    clear hq hen
    obtain ⟨A, c, rfl, hlc, hc, hh⟩ := id hrd
    have hl1 : l.length ≤ 100001 := by
      have h1 := congrArg List.length HQ.out
      rw [List.length_map] at h1
      have h2 := (Lx.linesV_sub t.data.toList).2
      have h3 := Lx.split_len 10 t.data.toList
      omega
    have HSZ : Hid (∀ s ∈ l, s.size ≤ 1000000) := Lib.hid fun s hs => by
      have h1 : s.data.toList ∈ (Lx.linesV t.data.toList).1 := by rw [← HQ.out]; exact List.mem_map.2 ⟨s, hs, rfl⟩
      have h2 := Lx.split_le ((Lx.linesV_sub _).1 _ h1)
      have h4 : s.data.toList.length = s.size := rfl
      omega
    have hs1 : w.heap.size + 1 ≤ w1.heap.size := by have := hbel.size; simpa using this
    have HRC := Lib.hid ((hbel.block w.heap.size (by simp)).trans (heap_alloc_new w (.cells #[.slice none 0 0, .slice none 0 0, .slice none 0 0] 26)))
    have HB1 : Hid (Below w.heap.size w w1) := Lib.hid (((Below.refl _ _).alloc (Nat.le_refl _) _).trans (hbel.mono (by simp)))
    have HRD := Lib.hid hrd
    have HNEW := Lib.hid (lexOwn_new w1)
    have HDROP : Hid (l.map (·.data.toList) = (l.map (·.data.toList)).drop 0) := Lib.hid rfl
    clear hrd hbel hh
    have HST : Hid (Lx.readL en ((l.map (·.data.toList)).drop 0) 0 Lx.none3 = R) := Lib.hid (by rw [← HDROP.out, HQ.out, HEN.out]; exact HR0.out)
    go_wp2_with fail
    go_loopg [8] l.length (fun g i wr => ∃ (k : Nat) (y : Lx.Lexicon), k ≤ l.length ∧ g = l.length - k ∧ i = .int .i64 k ∧ LexOwn wr w1.heap.size y ∧ Below w1.heap.size w1 wr ∧ Lx.readL en ((l.map (·.data.toList)).drop k) k y = R ∧ y.entries.length ≤ k ∧ y.endings.length ≤ k ∧ y.clitics.length ≤ k)
    case atStart => exact ⟨0, Lx.none3, Nat.zero_le _, rfl, rfl, HNEW.out, (Below.refl _ _).alloc (Nat.le_refl _) _, HST.out, Nat.le_refl _, Nat.le_refl _, Nat.le_refl _⟩
    case round =>
      obtain ⟨k, y, hk, rfl, rfl, hown, hbel, hre, hn0, hn1, hn2⟩ := hrel
      have HOWN := Lib.hid hown
      have HBEL := Lib.hid hbel
      have HRE := Lib.hid hre
      have hszr := hbel.size
      have hbel0 := hbel
      clear hown hbel hre
      have HRCr := Lib.hid ((hbel0.block w.heap.size (by omega)).trans HRC.out)
      have HBR : Hid (Below w.heap.size w wr) := Lib.hid (HB1.out.trans (hbel0.mono (by omega)))
      clear hbel0
      by_cases hlt : k < l.length
      · obtain ⟨b, off, rfl, hb, hcell⟩ := (HRD.out.below HBEL.out).ex0 (by omega)
        obtain ⟨s, hs⟩ : ∃ s, s = l[k] := ⟨_, rfl⟩
        have hk1 : l[k]? = some s := by rw [hs]; exact List.getElem?_eq_getElem hlt
        have hck : wr.cell? ⟨b, off + k, none⟩ = some (.string s) := by have := hcell k s hk1 0 (.string s) rfl; simpa using this
        have hssz := HSZ.out s (List.mem_of_getElem? hk1)
        have HDR : Hid ((l.map (·.data.toList)).drop k = s.data.toList :: (l.map (·.data.toList)).drop (k + 1)) := Lib.hid (by
          rw [List.drop_eq_getElem_cons (by rw [List.length_map]; exact hlt), List.getElem_map, ← hs])
        have HLE : Hid ((l.map (·.data.toList)).drop (k + 1) = [] ↔ k + 1 = l.length) := Lib.hid (by
          rw [List.drop_eq_nil_iff, List.length_map]; omega)
        clear hs hk1 hcell
        by_cases hlast : k + 1 = l.length ∧ en = false
        · obtain ⟨hl1, rfl⟩ := hlast
          have HRR : Hid (R = (Lx.none3, (k : Int) + 1, 4)) := Lib.hid (by
            have := HRE.out
            rw [HDR.out, Lx.readL_bad (.inl ⟨HLE.out.2 hl1, rfl⟩)] at this
            exact this.symm)
          have hkI : (l.length : Int) = (k : Int) + 1 := by omega
          obtain ⟨r0, r1, r2, z0, z1, z2⟩ := lex_cells6 HRCr.out
          clear hl1
          go_wp2_with fail
          exact bodyPost_ret (v := .tuple #[.agg #[.slice none 0 0, .slice none 0 0, .slice none 0 0], .int .i64 ((k : Int) + 1), .int .i64 4]) (by simp [results, Tryz.results20, go_sem, r0, r1, r2]) rfl (retP_of HRR.out (rdl_none3 _ _) (((HBR.out.setCell (by exact Nat.le_refl _) _).setCell (by exact Nat.le_refl _) _).setCell (by exact Nat.le_refl _) _))
        · have HNL : Hid (¬ ((l.map (·.data.toList)).drop (k + 1) = [] ∧ en = false)) := Lib.hid fun q => hlast ⟨HLE.out.1 q.1, q.2⟩
          have hcs : ¬ (k : Int) = (l.length : Int) - 1 ∨ ((l.length : Int) = (k : Int) + 1 ∧ en = true) := by
            by_cases q : k + 1 = l.length
            · exact .inr ⟨by omega, by cases en; exact absurd ⟨q, rfl⟩ hlast; rfl⟩
            · exact .inl (by omega)
          clear hlast
          rcases hcs with hkI | ⟨hkI, rfl⟩
          all_goals
            go_wp2_with fail
            refine (rline_any w1.heap.size y s wr HOWN.out hssz (by omega) (by omega) (by omega)).mono ?_
            rintro e w2 ⟨rfl, hb2, ho2⟩
            have hs2 := hb2.size
            cases hq : Lx.lineV y (Lib.split s.data.toList [32]) with
            | none =>
              have HRR : Hid (R = (Lx.none3, (k : Int) + 1, 4)) := Lib.hid (by
                have := HRE.out
                rw [HDR.out, Lx.readL_bad (.inr hq)] at this
                exact this.symm)
              obtain ⟨r0, r1, r2, z0, z1, z2⟩ := lex_cells6 ((hb2.block w.heap.size (by omega)).trans HRCr.out)
              have HB2 := Lib.hid (HBR.out.trans (hb2.mono (by omega)))
              clear hq ho2 hb2
              go_wp2_with fail
              exact bodyPost_ret (v := .tuple #[.agg #[.slice none 0 0, .slice none 0 0, .slice none 0 0], .int .i64 ((k : Int) + 1), .int .i64 4]) (by simp [results, Tryz.results20, go_sem, r0, r1, r2]) rfl (retP_of HRR.out (rdl_none3 _ _) (((HB2.out.setCell (by exact Nat.le_refl _) _).setCell (by exact Nat.le_refl _) _).setCell (by exact Nat.le_refl _) _))
            | some y' =>
              have HO2 := Lib.hid (ho2 y' hq)
              have HB2 := Lib.hid (HBEL.out.trans hb2)
              have hgr := Lx.lineV_grow hq
              have HRE2 := Lib.hid (by
                have := HRE.out
                rwa [HDR.out, Lx.readL_step HNL.out hq] at this)
              clear hq ho2 hb2
              go_wp2_with fail
              go_roundg (l.length - (k + 1))
              case measure => omega
              case rel => exact ⟨k + 1, y', by omega, rfl, by go_num, HO2.out, HB2.out, HRE2.out, by omega, by omega, by omega⟩
      · have hkl : k = l.length := by omega
        obtain ⟨v0, v1, v2, hcell, hrows⟩ := HOWN.out
        have HDN : Hid ((l.map (·.data.toList)).drop k = []) := Lib.hid (by rw [List.drop_eq_nil_iff, List.length_map]; omega)
        obtain ⟨A0, c0, rfl⟩ := own_form hrows.o0
        obtain ⟨A1, c1, rfl⟩ := own_form hrows.o1
        obtain ⟨A2, c2, rfl⟩ := own_form hrows.o2
        obtain ⟨p0, p1, p2⟩ := lex_cells hcell
        have hplt : w1.heap.size < wr.heap.size := by
          refine Decidable.byContradiction fun hn => ?_
          rw [Array.getElem?_eq_none (by omega)] at hcell
          cases hcell
        have hltI : ¬ (k : Int) < (l.length : Int) := by omega
        have HROWS := Lib.hid hrows
        have HCELL := Lib.hid hcell
        clear hrows hcell
        go_wp2_with fail
        refine (rCheck_any _ y wr HROWS.out.rd).mono ?_
        rintro e w3 ⟨rfl, hb3⟩
        have hs3 := hb3.size
        obtain ⟨r0, r1, r2, z0, z1, z2⟩ := lex_cells6 ((hb3.block w.heap.size (by omega)).trans HRCr.out)
        obtain ⟨p0, p1, p2⟩ := lex_cells ((hb3.block w1.heap.size (by omega)).trans HCELL.out)
        have HROW3 := Lib.hid (HROWS.out.below hb3)
        have HB3 := Lib.hid (HBR.out.trans (hb3.mono (by omega)))
        obtain ⟨cv, hcv⟩ : ∃ n, n = Lx.checkV y := ⟨_, rfl⟩
        rw [← hcv]
        have HCV := Lib.hid hcv
        clear hcv hb3
        by_cases hz : cv = 0
        · have HRR : Hid (R = (y, 0, 0)) := Lib.hid (by
            have := HRE.out
            rw [HDN.out, Lx.readL, if_pos (by rw [← HCV.out]; exact hz)] at this
            exact this.symm)
          go_wp2_with fail
          have hst : w.heap.size < w1.heap.size + 1 := by omega
          exact bodyPost_ret (v := .tuple #[.agg #[.slice A0 y.entries.length c0, .slice A1 y.endings.length c1, .slice A2 y.clitics.length c2], .int .i64 0, .int .i64 0]) (by simp [results, Tryz.results20, go_sem, r0, r1, r2]) rfl (retP_of HRR.out (((HROW3.out.store (by exact hst) _).store (by exact hst) _).store (by exact hst) _).rd (((HB3.out.setCell (by exact Nat.le_refl _) _).setCell (by exact Nat.le_refl _) _).setCell (by exact Nat.le_refl _) _))
        · have HRR : Hid (R = (Lx.none3, 0, cv)) := Lib.hid (by
            have := HRE.out
            rw [HDN.out, Lx.readL, if_neg (by rw [← HCV.out]; exact hz), ← HCV.out] at this
            exact this.symm)
          go_wp2_with fail
          exact bodyPost_ret (v := .tuple #[.agg #[.slice none 0 0, .slice none 0 0, .slice none 0 0], .int .i64 0, .int .i64 cv]) (by simp [results, Tryz.results20, go_sem, r0, r1, r2]) rfl (retP_of HRR.out (rdl_none3 _ _) (((HB3.out.setCell (by exact Nat.le_refl _) _).setCell (by exact Nat.le_refl _) _).setCell (by exact Nat.le_refl _) _))
end Go.Proofs.YtpmnpnlfgfleeaaGreatDoor
