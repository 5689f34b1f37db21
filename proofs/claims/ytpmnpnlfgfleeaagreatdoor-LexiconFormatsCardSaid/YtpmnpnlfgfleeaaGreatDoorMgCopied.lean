/- The program's CheckForm. ostraconlaw05.copied: an equal form in new memory. -/
import Derived.Test.YtpmnpnlfgfleeaaGreatDoorMgCheck
import Derived.Test.YtpmnpnlfgfleeaaGreatDoorMgMem
import Derived.Test.YtpmnpnlfgfleeaaGreatDoorMgCopy
namespace Go.Proofs.YtpmnpnlfgfleeaaGreatDoor
open Go.RowKit

theorem withinQ (n lo hi : Int) (w : World) {b : Bool} (hb : Lx.withinB n lo hi = b) : Calls Tryz.prog 62 #[.int .i64 n, .int .i64 lo, .int .i64 hi] w (fun e w' => e = .returned (.bool b) ∧ w' = w) :=
  (within_any n lo hi w).mono fun _ _ ⟨h1, h2⟩ => ⟨by rw [h1, hb], h2.symm⟩

set_option maxRecDepth 100000 in
set_option maxHeartbeats 4000000 in
theorem CheckForm_any (v vf : Value) (x : Lx.Lexicon) (f : Lx.Form) (w : World) (hr : RdL w w.heap.size v x) (hf : RdF w w.heap.size vf f) :
    Calls Tryz.prog 30 #[v, vf] w (RetIB (Lx.formV x f) w) := by
  have HCK : ∀ (W : World), Below w.heap.size w W → Calls Tryz.prog 33 #[v] W (RetIB (Lx.checkV x) W) := fun W hW => Check_any v x W ((hr.below hW).more hW.size)
  obtain ⟨⟨v0, v1, v2, rfl, hr0, hr1, hr2⟩, fe, fn, fc⟩ := hr
  obtain ⟨⟨sf, rfl, hrf⟩⟩ := hf
  have HC := Lib.hid HCK
  clear HCK fe fn fc
  obtain ⟨A0, c0, rfl, hl0, hm0, hc0⟩ := hr0
  obtain ⟨A1, c1, rfl, hl1, hm1, hc1⟩ := hr1
  obtain ⟨A2, c2, rfl, hl2, hm2, hc2⟩ := hr2
  obtain ⟨A3, c3, rfl, hl3, hm3, hc3⟩ := hrf
  have hn0 : x.entries.length ≤ 9223372036854775807 := by omega
  have hn1 : x.endings.length ≤ 9223372036854775807 := by omega
  have hn2 : x.clitics.length ≤ 9223372036854775807 := by omega
  have hn3 : f.clitics.length ≤ 9223372036854775807 := by omega
  have HC0 := Lib.hid hc0
  have HC1 := Lib.hid hc1
  have HC2 := Lib.hid hc2
  have HC3 := Lib.hid hc3
  clear hc0 hc1 hc2 hc3 hm0 hm1 hm2 hm3 hl0 hl1 hl2 hl3
  generalize hcv : Lx.checkV x = cv at HC
  have HV := Lib.hid hcv
  clear hcv
  go_enter Tryz.func30, Tryz.ntmps30
  go_wp2_with fail
  refine (HC.out _ (((Below.refl _ _).alloc (Nat.le_refl _) _).alloc (by simp) _)).mono ?_
  rintro e1 w1 ⟨rfl, hb1⟩
  have hsz1 : w.heap.size + 1 < w1.heap.size := by have := hb1.size; simp at this; omega
  have bx0 : w1.cell? ⟨w.heap.size, 0, none⟩ = some (.slice A0 x.entries.length c0) := by rw [hb1.cell (by simp; try omega)]; simp
  have bx1 : w1.cell? ⟨w.heap.size, 1, none⟩ = some (.slice A1 x.endings.length c1) := by rw [hb1.cell (by simp; try omega)]; simp
  have bx2 : w1.cell? ⟨w.heap.size, 2, none⟩ = some (.slice A2 x.clitics.length c2) := by rw [hb1.cell (by simp; try omega)]; simp
  have bf0 : w1.cell? ⟨w.heap.size + 1, 0, none⟩ = some (.int .i64 f.entry) := by rw [hb1.cell (by simp; try omega)]; simp
  have bf1 : w1.cell? ⟨w.heap.size + 1, 1, none⟩ = some (.int .i64 f.ending) := by rw [hb1.cell (by simp; try omega)]; simp
  have bf2 : w1.cell? ⟨w.heap.size + 1, 2, none⟩ = some (.slice A3 f.clitics.length c3) := by rw [hb1.cell (by simp; try omega)]; simp
  have HB1 := Lib.hid ((((Below.refl w.heap.size w).alloc (Nat.le_refl _) _).alloc (by simp) _).trans (hb1.mono (by simp; omega)))
  clear hb1
  by_cases hz : cv = 0
  · have hq : (cv == 0) = true := by simp [hz]
    have hq' : (cv != 0) = false := by simp [hz]
    have HV' : Hid (Lx.checkV x = 0) := Lib.hid (HV.out.trans hz)
    clear hz
    go_wp2_with fail
    cases hwi : Lx.withinB f.entry 0 ((x.entries.length : Int) - 1)
    · have HF := Lib.hid (Lx.formV_45 HV'.out hwi)
      refine (withinQ _ _ _ _ hwi).mono ?_
      clear hwi
      rintro e2 w2 ⟨rfl, rfl⟩
      go_wp2_with fail
      go_ret
      exact ⟨ret_int HF.out.symm, HB1.out⟩
    · have HWI := Lib.hid hwi
      refine (withinQ _ _ _ _ hwi).mono ?_
      rintro e2 w2 ⟨rfl, rfl⟩
      obtain ⟨hlo, hhi⟩ := Lx.within_iff.1 hwi
      have hhi' : f.entry < (x.entries.length : Int) := by omega
      obtain ⟨b, off, rfl, hb, hcell⟩ := HC0.out (by omega)
      obtain ⟨e, he⟩ : ∃ e, x.entries[f.entry.toNat]? = some e := ⟨_, List.getElem?_eq_getElem (by omega)⟩
      have fe1 : w2.cell? ⟨b, off + f.entry.toNat * 4 + 1, none⟩ = some (.int .i64 e.kind) := (HB1.out.cell hb).trans (hcell _ e he 1 _ rfl)
      have HE := Lib.hid he
      clear hwi hhi hcell he
      go_upto_region 6 with fail
      go_cut [51] (fun t wc => t = .bool (!Lx.endOK x f) ∧ ∃ n, wc = w2.drewN n)
      case first =>
        by_cases hm1 : f.ending = -1
        · have hA : (f.ending == -1) = true := by simp [hm1]
          have hA' : (f.ending != -1) = false := by simp [hm1]
          have HR := Lib.hid (Lx.endOK_none (x := x) hm1)
          clear hm1
          go_quiet (fail)
          all_goals go_wp2_with fail
          all_goals
            go_meet
            go_light
            refine ⟨?_, _, rfl⟩
            rw [HR.out]
            rfl
        · have hA : (f.ending == -1) = false := by simp [hm1]
          have hA' : (f.ending != -1) = true := by simp [hm1]
          cases hwe : Lx.withinB f.ending 0 ((x.endings.length : Int) - 1)
          · have HR := Lib.hid (Lx.endOK_out hm1 hwe)
            have HW := Lib.hid (fun W => withinQ f.ending 0 ((x.endings.length : Int) - 1) W hwe)
            clear hm1 hwe
            go_quiet ((go_at_call 62; exact Calls.quiet_of_same (HW.out _)))
            all_goals go_wp2_with fail
            all_goals
              go_meet
              go_light
              refine ⟨?_, _, rfl⟩
              rw [HR.out]
              rfl
          · obtain ⟨hlo1, hhi1⟩ := Lx.within_iff.1 hwe
            have hhi1' : f.ending < (x.endings.length : Int) := by omega
            obtain ⟨b1, off1, rfl, hb1, hcell1⟩ := HC1.out (by omega)
            obtain ⟨g, hg⟩ : ∃ g, x.endings[f.ending.toNat]? = some g := ⟨_, List.getElem?_eq_getElem (by omega)⟩
            have fg0 : w2.cell? ⟨b1, off1 + f.ending.toNat * 4, none⟩ = some (.int .i64 g.kind) := (HB1.out.cell hb1).trans (hcell1 _ g hg 0 _ rfl)
            have HR := Lib.hid (Lx.endOK_in hm1 hwe hg HE.out)
            have HW := Lib.hid (fun W => withinQ f.ending 0 ((x.endings.length : Int) - 1) W hwe)
            clear hm1 hwe hhi1 hcell1 hg
            go_quiet ((go_at_call 62; exact Calls.quiet_of_same (HW.out _)))
            all_goals go_wp2_with fail
            all_goals
              go_meet
              go_light
              refine ⟨?_, _, rfl⟩
              rw [HR.out]
              simp
              try (rw [Bool.eq_iff_iff]; simp)
      case rest =>
        obtain ⟨rfl, nd, rfl⟩ := hcut
        cases hok : Lx.endOK x f
        · have HF := Lib.hid (Lx.formV_46 HV'.out HWI.out hok)
          clear hok
          go_wp2_with fail
          go_ret
          exact ⟨ret_int HF.out.symm, below_drewN HB1.out _⟩
        · have HOK := Lib.hid hok
          clear hok
          by_cases h3 : 3 < f.clitics.length
          · have HF := Lib.hid (Lx.formV_47a HV'.out HWI.out HOK.out h3)
            go_wp2_with fail
            go_ret
            exact ⟨ret_int HF.out.symm, below_drewN HB1.out _⟩
          · go_wp2_with fail
            go_loopg [6, 59] f.clitics.length (fun g l i wr => ∃ (k : Nat) (last : Int), k ≤ f.clitics.length ∧ g = f.clitics.length - k ∧ i = .int .i64 k ∧ l = .int .i64 last ∧ wr = w2.drewN nd ∧
              Lx.clitOK x.clitics.length (-1) f.clitics = Lx.clitOK x.clitics.length last (f.clitics.drop k))
            case atStart => exact ⟨0, -1, Nat.zero_le _, rfl, rfl, rfl, rfl, by simp⟩
            case round =>
              obtain ⟨k, last, hk, rfl, rfl, rfl, rfl, heq⟩ := hrel
              have HEQ := Lib.hid heq
              clear heq
              by_cases hlt : k < f.clitics.length
              · obtain ⟨b3, off3, rfl, hb3, hcell3⟩ := HC3.out (by omega)
                obtain ⟨c, hc⟩ : ∃ c, f.clitics[k]? = some c := ⟨_, List.getElem?_eq_getElem hlt⟩
                have fc0 : w2.cell? ⟨b3, off3 + k, none⟩ = some (.int .i64 c) := by
                  have := (HB1.out.cell (p := ⟨b3, off3 + k * 1 + 0, none⟩) hb3).trans (hcell3 k c hc 0 _ rfl)
                  simpa using this
                have HD : Hid (f.clitics.drop k = c :: f.clitics.drop (k + 1)) := Lib.hid (by
                  rw [List.drop_eq_getElem_cons hlt]
                  rw [List.getElem?_eq_getElem hlt] at hc
                  injection hc with hc
                  rw [hc])
                clear hc hcell3
                by_cases hin : last < c ∧ c < (x.clitics.length : Int)
                · have HN : Hid (Lx.clitOK x.clitics.length (-1) f.clitics = Lx.clitOK x.clitics.length c (f.clitics.drop (k + 1))) := Lib.hid (by
                    rw [HEQ.out, HD.out]; simp [Lx.clitOK, hin.1, hin.2])
                  obtain ⟨hi1, hi2⟩ := hin
                  go_wp2_with fail
                  go_roundg (f.clitics.length - (k + 1))
                  case measure => omega
                  case rel => exact ⟨k + 1, c, by omega, rfl, by go_num, rfl, rfl, HN.out⟩
                · have HF : Hid (Lx.formV x f = 47) := Lib.hid (Lx.formV_47b HV'.out HWI.out HOK.out h3 (by
                    rw [HEQ.out, HD.out]; simp only [Lx.clitOK]; rw [← Bool.and_assoc, ← Bool.decide_and, decide_eq_false hin]; rfl))
                  have HIN := Lib.hid hin
                  clear hin
                  go_wp2_with fail
                  all_goals first
                    | (exfalso; exact HIN.out (by omega))
                    | (go_ret; exact ⟨ret_int HF.out.symm, below_drewN HB1.out _⟩)
              · have HF : Hid (Lx.formV x f = 0) := Lib.hid (Lx.formV_0 HV'.out HWI.out HOK.out h3 (by
                  rw [HEQ.out, List.drop_eq_nil_of_le (by omega)]; rfl))
                go_wp2_with fail
                go_ret
                exact ⟨ret_int HF.out.symm, below_drewN HB1.out _⟩
  · have hq : (cv == 0) = false := by simp [hz]
    have hq' : (cv != 0) = true := by simp [hz]
    have HF : Hid (Lx.formV x f = cv) := Lib.hid (by unfold Lx.formV; rw [HV.out, if_pos hz])
    clear hz
    go_wp2_with fail
    go_ret
    exact ⟨ret_int HF.out.symm, HB1.out⟩
end Go.Proofs.YtpmnpnlfgfleeaaGreatDoor
namespace Go.Proofs.YtpmnpnlfgfleeaaGreatDoor
open Go.RowKit

theorem wpList_append_rd {α : Type} {enc : α → List Value} {P : Program} {w : World} {ops : Array Oper} {rest : List Oper} {o : Oper} {a : Act} {Q : Exit → Act → World → Prop} (hgd : o.guard = none) (s x : Operand) (t : TypeId)
    (ho : o.op = .call { callee := .builtin .append, args := #[s, x], argTypes := #[t, t] })
    (base : Nat) (e : TypeId) (i : TypeInfo) (z : Value) (size bytes : Nat) (hu : ∀ x, (enc x).length = size) (h1 : ∀ x, ∀ u ∈ enc x, u.oneCell' = true)
    (ht : P.underlying t = some (.slice e)) (hi : P.info? e = some i) (hz : i.zero = some z)
    (hsize : i.size = size) (hby : i.bytes = bytes) (hzs : z.cells.size = size) (hsz : 0 < size)
    (v : Value) (n : Nat) (xs : List Value) (hs : a.eval s = v) (hown : w.ownsRow base e size v n xs) (B : Nat) (sv : Value) (ys : List α) (hx : a.eval x = sv) (hr : RdS w B size enc sv ys)
    (h63 : n + ys.length ≤ maxLen) (hbytes : (n + ys.length) * bytes ≤ 140737488355328) (hbase : base ≤ w.heap.size)
    (h : ∀ v' w', w'.ownsRow base e size v' (n + ys.length) (xs ++ ys.flatMap enc) → w.grownBy w' v.ownBlock → (v'.ownBlock = v.ownBlock ∨ v'.ownBlock = some w.heap.size) → wpList P ops Q rest (a.put o.dst v') w') : wpList P ops Q (o :: rest) a w :=
  wpList_plain hgd fun _ hK => wp_append_rd s x t ho base e i z size bytes hu h1 ht hi hz hsize hby hzs hsz v n xs hs hown B sv ys hx hr h63 hbytes hbase fun v' w' h2 h3 h4 => hK _ _ (h v' w' h2 h3 h4)

theorem start_fst (w : World) (A B : Obj) : ((w.alloc A).alloc B).heap[w.heap.size]? = some A := by
  have q := heap_alloc_new w A
  rw [Below.heap_alloc _ _ _ (by simp)]
  exact q

theorem dn_all {d : Array Bool} {n : Nat} (hd : d.size = n) (hall : ∀ i, i < n → d.getD i true = true) {j : Nat} (hj : j < n) : dn d j := by
  have := hall j hj
  unfold dn
  simp [Array.getD, hd, hj] at this ⊢
  exact this
theorem own_empty {w : World} {base : Nat} {e : TypeId} {size : Nat} (hb : base ≤ w.heap.size) : (w.alloc (.cells #[] e)).ownsRow base e size (.slice (some ⟨w.heap.size, 0, none⟩) 0 0) 0 [] := by
  have := World.ownsRow_lit (w := w) (base := base) (e := e) (size := size) #[] 0 hb (by decide) (by simp)
  simpa using this

set_option maxRecDepth 100000 in
set_option maxHeartbeats 1000000 in
theorem copied_any (v : Value) (f : Lx.Form) (w : World) (hf : RdF w w.heap.size v f) (hlen : f.clitics.length ≤ 1000) :
    Calls Tryz.prog 11 #[v] w (fun e w' => ∃ v', e = .returned v' ∧ RdF w' w'.heap.size v' f ∧ Below w.heap.size w w') := by
  obtain ⟨⟨vs, rfl, hrs⟩⟩ := hf
  have HR := Lib.hid hrs
  obtain ⟨A0, c0, rfl, -⟩ := hrs
  obtain ⟨i0, hi0, hz0, hs0, hb0⟩ := info_parts info_int
  go_enter Tryz.func11, Tryz.ntmps11
  go_wp2_with (at_builtin; (refine wpList_append_rd (enc := encInt) rfl (.tmp 3) (.tmp 5) _ rfl (w.heap.size + 2) 3 i0 _ 1 8 len_int one_int Tryz.underlying27 hi0 hz0 hs0 hb0 rfl Nat.one_pos (.slice (some ⟨w.heap.size + 2, 0, none⟩) 0 0) 0 [] rfl ?ho w.heap.size _ f.clitics rfl ?hr ?h63 ?hb ?hB ?_))
  case ho => have := own_empty (w := (w.alloc (.cells #[.int .i64 f.entry, .int .i64 f.ending, .slice A0 f.clitics.length c0] 29)).alloc (.cells #[.int .i64 0, .int .i64 0, .slice none 0 0] 29)) (e := 3) (size := 1) (base := w.heap.size + 2) (by simp); simpa using this
  case hr => exact HR.out.below ((((Below.refl _ _).alloc (Nat.le_refl _) _).alloc (by simp) _).alloc (by simp; omega) _)
  case h63 => simp only [maxLen]; omega
  case hb => omega
  case hB => simp
  intro v' w' hown0 hg hat
  have hown : w'.ownsRow (w.heap.size + 2) 3 1 v' f.clitics.length (f.clitics.flatMap encInt) := by simpa using hown0
  clear hown0 hat
  obtain ⟨A3, c3, rfl⟩ := own_form hown
  have hsz : w.heap.size + 3 ≤ w'.heap.size := by have := hg.size; simp at this; omega
  have k0 : w'.heap[w.heap.size]? = some (.cells #[.int .i64 f.entry, .int .i64 f.ending, .slice A0 f.clitics.length c0] 29 (0, 0)) := by
    rw [hg.block _ (by simp; omega) (by simp [Value.ownBlock])]
    rw [Below.heap_alloc _ _ _ (by simp; omega)]
    exact start_fst w _ _
  have k1 : w'.heap[w.heap.size + 1]? = some (.cells #[.int .i64 0, .int .i64 0, .slice none 0 0] 29 (0, 0)) := by
    rw [hg.block _ (by simp) (by simp [Value.ownBlock])]
    rw [Below.heap_alloc _ _ _ (by simp)]
    exact start_res w _
  have HB : Hid (Below w.heap.size w w') := Lib.hid (((((Below.refl _ _).alloc (Nat.le_refl _) _).alloc (by simp) _).alloc (by simp; omega) _).grown hg (by simp; omega) (fun k hk => by simp [Value.ownBlock] at hk; omega))
  have m0 : w'.cell? ⟨w.heap.size, 0, none⟩ = some (.int .i64 f.entry) := by simp [World.cell?, k0]
  have m1 : w'.cell? ⟨w.heap.size, 1, none⟩ = some (.int .i64 f.ending) := by simp [World.cell?, k0]
  have m2 : w'.cell? ⟨w.heap.size, 2, none⟩ = some (.slice A0 f.clitics.length c0) := by simp [World.cell?, k0]
  have z : w'.frozen? ⟨w.heap.size, 2, none⟩ = false := by simp [World.frozen?, k0]
  have q0 : w'.cell? ⟨w.heap.size + 1, 0, none⟩ = some (.int .i64 0) := by simp [World.cell?, k1]
  have q1 : w'.cell? ⟨w.heap.size + 1, 1, none⟩ = some (.int .i64 0) := by simp [World.cell?, k1]
  have q2 : w'.cell? ⟨w.heap.size + 1, 2, none⟩ = some (.slice none 0 0) := by simp [World.cell?, k1]
  have z0 : w'.frozen? ⟨w.heap.size + 1, 0, none⟩ = false := by simp [World.frozen?, k1]
  have z1 : w'.frozen? ⟨w.heap.size + 1, 1, none⟩ = false := by simp [World.frozen?, k1]
  have z2 : w'.frozen? ⟨w.heap.size + 1, 2, none⟩ = false := by simp [World.frozen?, k1]
  have HO := Lib.hid hown
  clear hown hg k0 k1
  go_wp2_with fail
  refine bodyPost_ret (v := .agg #[.int .i64 f.entry, .int .i64 f.ending, .slice A3 f.clitics.length c3]) ?_ rfl ⟨_, rfl, ⟨⟨_, rfl, ?_⟩⟩, ?_⟩
  · simp [results, Tryz.results11, go_sem, q0, q1, q2]
  · exact rds_of_own len_int (ownsRow_setCell_below (ownsRow_setCell_below (ownsRow_setCell_below (ownsRow_setCell_below HO.out (by simp; try omega) _) (by simp; try omega) _) (by simp; try omega) _) (by simp; try omega) _)
  · exact ((((HB.out).setCell (by simp) _).setCell (by simp) _).setCell (by simp) _).setCell (by simp) _
end Go.Proofs.YtpmnpnlfgfleeaaGreatDoor
