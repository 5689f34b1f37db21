/- lexicon.forms: the iterator over the forms of an entry. Made by gen_forms.py. -/
import Derived.Test.YtpmnpnlfgfleeaaDoorMgLeans
import Derived.BigQuiet
import Derived.Deep.DeepCutAuto
namespace Go.Proofs.YtpmnpnlfgfleeaaDoor
open Go Go.RowKit
attribute [local go_sem] Oper.semAt_some

/-- what forms yields -/
def EForm (f : Lx.Form) (w : World) (args : Array Value) : Prop := ∃ v, args = #[v] ∧ RdF w w.heap.size v f
theorem firm_form : Firm EForm := fun f w w' args ⟨v, e, ⟨⟨s, e', h⟩⟩⟩ hs => ⟨v, e, ⟨⟨s, e', rds_firm (fun _ => by simp [encInt]) h hs⟩⟩⟩
theorem forms_any (A0 A1 A2 : Option Addr) (n0 c0 n1 c1 n c2 : Nat) (i : Int) (w : World) : Calls Tryd.prog 16 #[.agg #[.slice A0 n0 c0, .slice A1 n1 c1, .slice A2 n c2], .int .i64 i] w (fun e w' => e = .returned (.func (.func 30) #[] #[.pointer (some ⟨w.heap.size, 0, none⟩), .pointer (some ⟨w.heap.size + 1, 0, none⟩)]) ∧ w' = (w.alloc (.cells #[.slice A0 n0 c0, .slice A1 n1 c1, .slice A2 n c2] 26)).alloc (.cells #[.int .i64 i] 3)) := by
  go_enter Tryd.func16, Tryd.ntmps16
  go_wp2
  go_ret
  exact ⟨rfl, rfl⟩
/-- the number of the ending, off its box -/
def endOf (a : Act) (w : World) : Int := match a.tmps[4]? with
  | some (Value.pointer (some q)) => intOf ((w.cell? q).getD undef)
  | _ => 0
theorem endOf_at {ts : Array Value} {ds : List Deferred} {w : World} {q : Addr} {v : Int} (h1 : ts[4]? = some (.pointer (some q))) (h2 : w.cell? q = some (.int .i64 v)) : endOf ⟨ts, ds⟩ w = v := by
  unfold endOf
  simp only [h1, h2]
  rfl
/-- where the iterator stands -/
structure FormsAt (w : World) (bx be : Nat) (A0 A1 A2 : Option Addr) (c0 c1 c2 : Nat) (x : Lx.Lexicon) (i : Nat) (ok : Nat → Prop) : Prop where
  hx : w.heap[bx]? = some (.cells #[.slice A0 x.entries.length c0, .slice A1 x.endings.length c1, .slice A2 x.clitics.length c2] 26 (0, 0))
  he : w.heap[be]? = some (.cells #[.int .i64 (i : Int)] 3 (0, 0))
  ox : ok bx
  oe : ok be
  r0 : RdX w ok 4 encEntry (.slice A0 x.entries.length c0) x.entries
  r1 : RdX w ok 4 encEnding (.slice A1 x.endings.length c1) x.endings
  lt : ∀ b, ok b → b < w.heap.size

set_option maxRecDepth 100000 in
set_option maxHeartbeats 8000000 in
theorem forms_gives (x : Lx.Lexicon) (i : Nat) (hi : i < x.entries.length) (hE : x.endings.length ≤ 1000) (hEn : x.entries.length ≤ 1000) (hC : x.clitics.length ≤ 1000) (w : World) (bx be : Nat) (A0 A1 A2 : Option Addr) (c0 c1 c2 : Nat) (ok : Nat → Prop) (hat : FormsAt w bx be A0 A1 A2 c0 c1 c2 x i ok) :
    Gives Tryd.prog 30 #[.pointer (some ⟨bx, 0, none⟩), .pointer (some ⟨be, 0, none⟩)] EForm ok (Lx.formsV x i) w := by
  intro m l T J Jx W hWs hokW hT hJ hJx hY h0
  have hWx := (hokW bx hat.ox).2.trans hat.hx
  have hWe := (hokW be hat.oe).2.trans hat.he
  have hltx : bx < W.heap.size := by have := (hokW bx hat.ox).1; omega
  have hlte : be < W.heap.size := by have := (hokW be hat.oe).1; omega
  have HT := Lib.hid hT
  have HJ := Lib.hid hJ
  have HJX := Lib.hid hJx
  have HY := Lib.hid hY
  have H0 := Lib.hid h0
  have HAT := Lib.hid hat
  have HOKW := Lib.hid hokW
  obtain ⟨W1, hW1⟩ : ∃ W1, W1 = (W.alloc (.cells #[.func (.yield l) #[] #[]] 84)).alloc (.cells #[.int .i64 (-1)] 3) := ⟨_, rfl⟩
  have hb1 : Below W.heap.size W W1 := by rw [hW1]; exact ((Below.refl _ _).alloc (Nat.le_refl _) _).alloc (by simp) _
  have hsW1 : W1.heap.size = W.heap.size + 2 := by rw [hW1]; simp
  have hy1 : W1.heap[W.heap.size]? = some (.cells #[.func (.yield l) #[] #[]] 84 (0, 0)) := by rw [hW1]; exact start_fst _ _ _
  have hp1 : W1.heap[W.heap.size + 1]? = some (.cells #[.int .i64 (-1)] 3 (0, 0)) := by rw [hW1]; exact start_res2 _ _ _
  have OWN : Hid (∀ W' : World, (∀ b, b < W1.heap.size → (ok b ∨ b = W.heap.size) → W'.heap[b]? = W1.heap[b]?) → W1.heap.size ≤ W'.heap.size →
      W'.cell? ⟨bx, 0, none⟩ = some (.slice A0 x.entries.length c0) ∧ W'.cell? ⟨bx, 1, none⟩ = some (.slice A1 x.endings.length c1) ∧ W'.cell? ⟨bx, 2, none⟩ = some (.slice A2 x.clitics.length c2) ∧ W'.cell? ⟨be, 0, none⟩ = some (.int .i64 (i : Int)) ∧ W'.cell? ⟨W.heap.size, 0, none⟩ = some (.func (.yield l) #[] #[]) ∧
      RdX W' ok 4 encEntry (.slice A0 x.entries.length c0) x.entries ∧ RdX W' ok 4 encEnding (.slice A1 x.endings.length c1) x.endings) := Lib.hid fun W' hk hz => by
    have q1 := (hk bx (by omega) (.inl HAT.out.ox)).trans ((hb1.block bx hltx).trans hWx)
    have q2 := (hk be (by omega) (.inl HAT.out.oe)).trans ((hb1.block be hlte).trans hWe)
    have q3 := (hk W.heap.size (by omega) (.inr rfl)).trans hy1
    have hb : ∀ b, ok b → ok b ∧ W'.heap[b]? = w.heap[b]? := fun b hb => by
      have h1 := HOKW.out b hb
      exact ⟨hb, (hk b (by have := h1.1; omega) (.inl hb)).trans ((hb1.block b (by have := h1.1; omega)).trans h1.2)⟩
    exact ⟨by simp [World.cell?, q1], by simp [World.cell?, q1], by simp [World.cell?, q1], by simp [World.cell?, q2], by simp [World.cell?, q3], HAT.out.r0.keep hb, HAT.out.r1.keep hb⟩
  have H01 : Hid (J [] (fun _ => False) W1) := Lib.hid (HJ.out _ _ _ _ H0.out (.all hb1))
  have HB1 := Lib.hid hb1
  have HW1 := Lib.hid hW1
  have nT : ∀ b, W.heap.size ≤ b → ¬ T b := fun b hb h => by have := (HT.out b h).2; omega
  have HP1 := Lib.hid hp1
  clear hT hJ hJx hY h0 hat hokW hWx hWe hb1 hy1 hW1 hp1
  refine callsIn_of_wp_marks Tryd.func30 rfl trivial ?_
  simp only [Tryd.ntmps30, List.size_toArray, List.length_cons, List.length_nil, Nat.reduceAdd, Nat.reduceSub, Array.replicate_succ, Array.replicate_zero, List.push_toArray, List.append_toArray, List.nil_append, List.cons_append]
  refine wpIn_wide.2 ?_
  go_wp2_with fail
  rw [← HW1.out]
  refine wp_loop (fun a wr => ∃ (u5 u6 u7 u8 u9 u10 u11 u12 u13 u14 u15 u16 u17 u18 u19 u20 u21 u22 u23 u24 u25 u26 u27 u28 u29 u30 u31 u32 u33 u34 u35 u36 u37 u38 u39 u40 : Value) (p Be : Nat) (S : Nat → Prop) (Ds : List Nat), a = { tmps := #[.func (.yield l) #[] #[], .pointer (some ⟨bx, 0, none⟩), .pointer (some ⟨be, 0, none⟩), .pointer (some ⟨W.heap.size, 0, none⟩), .pointer (some ⟨Be, 0, none⟩), u5, u6, u7, u8, u9, u10, u11, u12, u13, u14, u15, u16, u17, u18, u19, u20, u21, u22, u23, u24, u25, u26, u27, u28, u29, u30, u31, u32, u33, u34, u35, u36, u37, u38, u39, u40], defers := Ds.map mark } ∧ p ≤ x.endings.length + 1 ∧ J (Lx.formsTo x i p) S wr ∧ (∀ b, S b → W1.heap.size ≤ b ∧ b < wr.heap.size) ∧ (∀ b, b < W1.heap.size → (ok b ∨ b = W.heap.size) → wr.heap[b]? = W1.heap[b]?) ∧ W1.heap.size ≤ wr.heap.size ∧ Ds.Nodup ∧ (∀ D ∈ Ds, W1.heap.size ≤ D ∧ D < wr.heap.size ∧ ¬ S D ∧ wr.heap[D]? = some (.deferred (some []))) ∧ W.heap.size < Be ∧ Be < wr.heap.size ∧ ¬ S Be ∧ wr.heap[Be]? = some (.cells #[.int .i64 ((p : Int) - 1)] 3 (0, 0))) (fun a wr => x.endings.length + 1 - (endOf a wr + 1).toNat) ?_ ?_
  · refine ⟨_, _, _, _, _, _, _, _, _, _, _, _, _, _, _, _, _, _, _, _, _, _, _, _, _, _, _, _, _, _, _, _, _, _, _, _, 0, W.heap.size + 1, fun _ => False, [], rfl, by omega, ?_, fun b h => h.elim, fun _ _ _ => rfl, Nat.le_refl _, List.nodup_nil, fun D hD => by simp at hD, by omega, by omega, fun h => h, HP1.out⟩
    exact H01.out
  · intro a wr hinv
    obtain ⟨u5, u6, u7, u8, u9, u10, u11, u12, u13, u14, u15, u16, u17, u18, u19, u20, u21, u22, u23, u24, u25, u26, u27, u28, u29, u30, u31, u32, u33, u34, u35, u36, u37, u38, u39, u40, p, Be, S, Ds, rfl, hp, hj, hsb, hok, hz, hnd, hds, hbe1, hbe2, hbe3, hbe4⟩ := hinv
    obtain ⟨q0, q1, q2, q3, q4, q5, q6⟩ := OWN.out wr hok hz
    obtain ⟨en, hen⟩ : ∃ en : Int, en = (p : Int) - 1 := ⟨_, rfl⟩
    rw [← hen] at hbe4
    have p0 : wr.cell? ⟨Be, 0, none⟩ = some (.int .i64 en) := by simp [World.cell?, hbe4]
    have HEN := Lib.hid hen
    have hen0 : -1 ≤ en := by omega
    have hen1 : en ≤ (x.endings.length : Int) := by omega
    have hen2 : (x.endings.length : Int) ≤ 1000 := by omega
    clear hen
    have HJR := Lib.hid hj
    have HSB := Lib.hid hsb
    have HOK := Lib.hid hok
    have HND := Lib.hid hnd
    have HDS := Lib.hid hds
    have HBE3 := Lib.hid hbe3
    have HBE4 := Lib.hid hbe4
    clear hj hsb hok hnd hds hbe3 hbe4
    by_cases hlt : en < (x.endings.length : Int)
    · go_upto_region 4 with fail
      go_cut [29] from 6 to 40 (fun t wc => t = .bool (Lx.skipE x i p) ∧ ∃ k, wc = wr.drewN k)
      case first =>
        by_cases hq0 : 0 ≤ en
        · obtain ⟨_, _, hqa, -, -, hh1⟩ := q6
          rw [Value.slice.injEq] at hqa
          obtain ⟨rfl, -, rfl⟩ := hqa
          obtain ⟨b1, off1, hA1, -, hcell1⟩ := hh1 (by omega)
          subst hA1
          obtain ⟨_, _, hqa, -, -, hh0⟩ := q5
          rw [Value.slice.injEq] at hqa
          obtain ⟨rfl, -, rfl⟩ := hqa
          obtain ⟨b0, off0, hA0, -, hcell0⟩ := hh0 (by omega)
          subst hA0
          have hg : decide ((0 : Int) ≤ en) = true := by simp [hq0]
          obtain ⟨g, he1⟩ : ∃ g, x.endings[en.toNat]? = some g := ⟨_, List.getElem?_eq_getElem (by omega)⟩
          obtain ⟨e, he0⟩ : ∃ e, x.entries[i]? = some e := ⟨_, List.getElem?_eq_getElem hi⟩
          have g0 : wr.cell? ⟨b1, off1 + en.toNat * 4, none⟩ = some (.int .i64 g.kind) := hcell1 en.toNat g he1 0 _ rfl
          have f1 : wr.cell? ⟨b0, off0 + i * 4 + 1, none⟩ = some (.int .i64 e.kind) := hcell0 i e he0 1 _ rfl
          have hiI : (i : Int) < (x.entries.length : Int) := by omega
          have HS : Hid (Lx.skipE x i p = (!(g.kind == e.kind))) := Lib.hid (by
            obtain ⟨q, hq⟩ : ∃ q, p = q + 1 := ⟨p - 1, by have := HEN.out; omega⟩
            subst hq
            have eq : en.toNat = q := by have := HEN.out; omega
            rw [eq] at he1
            unfold Lx.skipE
            simp only [he1, he0]
            by_cases hk : g.kind = e.kind <;> simp [hk])
          clear hcell1 hcell0 he1 he0
          go_quiet (fail)
          all_goals go_wp2_with fail
          all_goals
            go_meet
            go_light
            refine ⟨?_, _, rfl⟩
            rw [HS.out]
            rfl
        · have hg : decide ((0 : Int) ≤ en) = false := by simp; omega
          have HS : Hid (Lx.skipE x i p = false) := Lib.hid (by
            have hq : p = 0 := by have := HEN.out; omega
            subst hq
            rfl)
          clear hq0
          go_quiet (fail)
          all_goals go_wp2_with fail
          all_goals
            go_meet
            go_light
            refine ⟨?_, _, rfl⟩
            rw [HS.out]
      case rest =>
        rename World => wk
        obtain ⟨rfl, nd, hwk⟩ := hcut
        have hwb : Below wr.heap.size wr wk := by rw [hwk]; exact below_drewN (Below.refl _ _) _
        have hsk1 : wr.heap.size = wk.heap.size := by rw [hwk]; rfl
        have HWK := Lib.hid hwb
        have JK : Hid (J (Lx.formsTo x i p) S wk) := Lib.hid (HJ.out _ _ _ _ HJR.out (.all hwb))
        have OKK : Hid (∀ b, b < W1.heap.size → (ok b ∨ b = W.heap.size) → wk.heap[b]? = W1.heap[b]?) := Lib.hid fun b hb hx => (HWK.out.block b (by omega)).trans (HOK.out b hb hx)
        have hbe5 : wk.heap[Be]? = some (.cells #[.int .i64 en] 3 (0, 0)) := (hwb.block _ hbe2).trans HBE4.out
        have HBE5 := Lib.hid hbe5
        clear hwk hwb q0 q1 q2 q3 q4 q5 q6 p0 hbe5
        obtain ⟨q0, q1, q2, q3, q4, q5, q6⟩ := OWN.out wk OKK.out (by omega)
        have p0 : wk.cell? ⟨Be, 0, none⟩ = some (.int .i64 en) := by simp [World.cell?, HBE5.out]
        have TAIL : Hid (∀ (X : World) (S1 : Nat → Prop) (Ds1 : List Nat), J (Lx.formsTo x i (p + 1)) S1 X → (∀ b, S1 b → W1.heap.size ≤ b ∧ b < X.heap.size) → (∀ b, b < W1.heap.size → (ok b ∨ b = W.heap.size) → X.heap[b]? = W1.heap[b]?) → W1.heap.size ≤ X.heap.size → Ds1.Nodup →
            (∀ D ∈ Ds1, W1.heap.size ≤ D ∧ D < X.heap.size ∧ ¬ S1 D ∧ X.heap[D]? = some (.deferred (some []))) →
            p + 1 ≤ x.endings.length + 1 ∧ J (Lx.formsTo x i (p + 1)) S1 (X.alloc (.cells #[.int .i64 (en + 1)] 3)) ∧ (∀ b, S1 b → W1.heap.size ≤ b ∧ b < (X.alloc (.cells #[.int .i64 (en + 1)] 3)).heap.size) ∧
            (∀ b, b < W1.heap.size → (ok b ∨ b = W.heap.size) → (X.alloc (.cells #[.int .i64 (en + 1)] 3)).heap[b]? = W1.heap[b]?) ∧ W1.heap.size ≤ (X.alloc (.cells #[.int .i64 (en + 1)] 3)).heap.size ∧ Ds1.Nodup ∧
            (∀ D ∈ Ds1, W1.heap.size ≤ D ∧ D < (X.alloc (.cells #[.int .i64 (en + 1)] 3)).heap.size ∧ ¬ S1 D ∧ (X.alloc (.cells #[.int .i64 (en + 1)] 3)).heap[D]? = some (.deferred (some []))) ∧
            W.heap.size < X.heap.size ∧ X.heap.size < (X.alloc (.cells #[.int .i64 (en + 1)] 3)).heap.size ∧ ¬ S1 X.heap.size ∧ (X.alloc (.cells #[.int .i64 (en + 1)] 3)).heap[X.heap.size]? = some (.cells #[.int .i64 (((p + 1 : Nat) : Int) - 1)] 3 (0, 0))) := Lib.hid fun X S1 Ds1 h1 h2 h3 h4 h5 h6 => by
          have hbx : Below X.heap.size X (X.alloc (.cells #[.int .i64 (en + 1)] 3)) := (Below.refl _ _).alloc (Nat.le_refl _) _
          have hsx : (X.alloc (.cells #[.int .i64 (en + 1)] 3)).heap.size = X.heap.size + 1 := by simp
          refine ⟨by have := HEN.out; omega, HJ.out _ _ _ _ h1 (.all hbx), fun b hb => by have := h2 b hb; omega, fun b hb hx => (hbx.block b (by omega)).trans (h3 b hb hx), by omega, h5, fun D hD => ?_, by omega, by omega, fun h => by have := (h2 _ h).2; omega, ?_⟩
          · obtain ⟨d1, d2, d3, d4⟩ := h6 D hD
            exact ⟨d1, by omega, d3, (hbx.block D d2).trans d4⟩
          · rw [show ((p + 1 : Nat) : Int) - 1 = en + 1 by have := HEN.out; omega]
            exact heap_alloc_new _ _
        have hmeas : ∀ (X : World), (X.alloc (.cells #[.int .i64 (en + 1)] 3)).cell? ⟨X.heap.size, 0, none⟩ = some (.int .i64 (en + 1)) := fun X => by
          have h := heap_alloc_new X (.cells #[.int .i64 (en + 1)] 3)
          unfold World.cell?
          rw [show (X.alloc (.cells #[.int .i64 (en + 1)] 3)).heap[(⟨X.heap.size, 0, none⟩ : Addr).block]? = _ from h]
          rfl
        have HMS := Lib.hid hmeas
        clear hmeas
        cases hsk : Lx.skipE x i p
        · have HSK := Lib.hid hsk
          have HFQ : Hid (Lx.formsTo x i (p + 1) = Lx.formsTo x i p ++ (Lx.listsV x.clitics.length 3 [] 0).map fun l => ⟨(i : Int), en, l⟩) := Lib.hid (by
            rw [Lx.formsTo_succ, HEN.out]
            unfold Lx.formsQ
            rw [hsk]
            rfl)
          clear hsk
          go_wp2_with fail
          refine (leans_any A0 A1 A2 none x.entries.length c0 x.endings.length c1 x.clitics.length c2 0 0 wk).mono ?_
          rintro e w5 ⟨rfl, hw5⟩
          have hb5 : Below wk.heap.size wk w5 := by rw [hw5]; exact ((Below.refl _ _).alloc (Nat.le_refl _) _).alloc (by simp) _
          have hs5 : w5.heap.size = wk.heap.size + 2 := by rw [hw5]; simp
          have hlat : LeanAt w5 (wk.heap.size + 1) wk.heap.size (.slice A0 x.entries.length c0) (.slice A1 x.endings.length c1) (.slice A2 x.clitics.length c2) (.slice none 0 0) [] (fun b => wk.heap.size ≤ b ∧ b < w5.heap.size) :=
            ⟨by rw [hw5]; exact start_res2 _ _ _, by rw [hw5]; exact start_fst _ _ _, ⟨by omega, by omega⟩, ⟨by omega, by omega⟩, ⟨none, 0, rfl, by simp, by omega, fun h => absurd h (by simp)⟩, fun b hb => hb.2⟩
          have HGV := Lib.hid (leans_seq x.clitics.length hC 3 [] 0 rfl (by omega) (.inl ⟨rfl, rfl⟩) w5 _ _ A0 A1 A2 x.entries.length c0 x.endings.length c1 c2 _ _ hlat)
          have HB5 := Lib.hid hb5
          have J5 : Hid (J (Lx.formsTo x i p) S w5) := Lib.hid (HJ.out _ _ _ _ JK.out (.all hb5))
          have hT2 : ∀ b, (T b ∨ S b) → ¬ (wk.heap.size ≤ b ∧ b < w5.heap.size) ∧ b < w5.heap.size := fun b hb => ⟨fun hq => hb.elim (fun q => nT b (by omega) q) (fun q => by have := (HSB.out b q).2; omega), hb.elim (fun q => by have := (HT.out b q).2; omega) (fun q => by have := (HSB.out b q).2; omega)⟩
          have OLD : Hid (∀ W' : World, Stays (fun b => ¬ (T b ∨ S b)) w5 W' → (∀ b, b < W1.heap.size → (ok b ∨ b = W.heap.size) → W'.heap[b]? = W1.heap[b]?) ∧ W'.heap[Be]? = some (.cells #[.int .i64 en] 3 (0, 0))) := Lib.hid fun W' hs => by
            refine ⟨fun b hb hx => ?_, ?_⟩
            · have e1 : W'.heap[b]? = w5.heap[b]? := hs.block b (by omega) fun h => by
                rcases h with q | q
                · rcases hx with r | r
                  · exact (HT.out b q).1 r
                  · exact nT b (by omega) q
                · have := (HSB.out b q).1; omega
              exact e1.trans ((HB5.out.block b (by omega)).trans (OKK.out b hb hx))
            · exact (hs.block Be (by omega) fun h => h.elim (fun q => nT Be (by omega) q) HBE3.out).trans ((HB5.out.block Be (by omega)).trans HBE5.out)
          clear hlat hb5 hw5
          go_wp2_with fail
          refine (wpIn_wide (n := 9)).1 (wp_iter (T := fun b => T b ∨ S b) (ok := fun b => wk.heap.size ≤ b ∧ b < w5.heap.size) (gf := 54) (lb := #[.pointer (some ⟨wk.heap.size + 1, 0, none⟩), .pointer (some ⟨wk.heap.size, 0, none⟩)]) (E := EInts) rfl (enters_of Tryd.func54 (by kernel_rfl) rfl)
            HGV.out (fun l w args h => by obtain ⟨v, e, _⟩ := h; rw [e]; rfl) firm_ints (fun b hb => hb.2) hT2
            (fun pre S' W' => ∃ S1, J (Lx.formsTo x i p ++ pre.map fun l => ⟨(i : Int), en, l⟩) S1 W' ∧ (∀ b, S1 b → S b ∨ S' b))
            (fun cd pre S' W' => cd = .ret ∧ ∃ S1, Jx (Lx.formsTo x i p ++ pre.map fun l => ⟨(i : Int), en, l⟩) S1 W' ∧ (∀ b, S1 b → S b ∨ S' b)) ?hI ?hIx ⟨S, by rw [List.map_nil, List.append_nil]; exact J5.out, fun b hb => .inl hb⟩ ?round ?done ?stop)
          case hI =>
            rintro pre S' X Y ⟨S1, h1, h2⟩ hs
            exact ⟨S1, HJ.out _ _ _ _ h1 (hs.mono fun b _ hx => hx.elim (fun q => .inl (by omega)) (fun q => (h2 b q).elim (fun r => .inl (by have := (HSB.out b r).2; omega)) .inr)), h2⟩
          case hIx =>
            rintro cd pre S' X Y ⟨rfl, S1, h1, h2⟩ hs
            exact ⟨rfl, S1, HJX.out _ _ _ _ h1 (hs.mono fun b _ hx => hx.elim (fun q => .inl (by omega)) (fun q => (h2 b q).elim (fun r => .inl (by have := (HSB.out b r).2; omega)) .inr)), h2⟩
          case round =>
            rintro m2 l2 pre S' cs args W' rfl hold hS' hsz - hpre ⟨v, rfl, -⟩
            gi_wp2
            refine ⟨Stays.refl _ _, S', fun b hb => .inl hb, fun W3 hs3 hs3' hI3 hE3 hold3 => ?_⟩
            obtain ⟨S3, hI3, hS3⟩ := hI3
            obtain ⟨v3, hv3, hr3⟩ := hE3
            have hvv : v = v3 := by simpa using hv3
            subst hvv
            have hz3 : w5.heap.size + 2 ≤ W3.heap.size := Nat.le_trans hsz hs3'.size
            have HPF : Hid ((Lx.formsTo x i p ++ pre.map fun l => ⟨(i : Int), en, l⟩) ++ [⟨(i : Int), en, cs⟩] <+: Lx.formsV x i) := Lib.hid (by
              rw [List.append_assoc]
              have h1 : (pre.map fun l => (⟨(i : Int), en, l⟩ : Lx.Form)) ++ [⟨(i : Int), en, cs⟩] <+: (Lx.listsV x.clitics.length 3 [] 0).map fun l => ⟨(i : Int), en, l⟩ := by
                have := hpre.map (fun l => (⟨(i : Int), en, l⟩ : Lx.Form))
                rwa [List.map_append] at this
              have h2 := (List.prefix_append_right_inj (Lx.formsTo x i p)).2 h1
              rw [← HFQ.out] at h2
              exact h2.trans (Lx.formsTo_prefix x i (by have := HEN.out; omega)))
            obtain ⟨fn3, tmps3, assign3, body3, hy3, hR3⟩ := HY.out (m2 - 1) (Lx.formsTo x i p ++ pre.map fun l => ⟨(i : Int), en, l⟩) S3 ⟨(i : Int), en, cs⟩ #[.agg #[.int .i64 (i : Int), .int .i64 en, v]] W3 hI3
              (fun b hb => by
                have := hs3'.size
                rcases hS3 b hb with q | q
                · have := HSB.out b q; omega
                · have := hS' b q; omega) (by omega) HPF.out ⟨_, rfl, ⟨⟨v, rfl, hr3⟩⟩⟩
            obtain ⟨ho1, ho2⟩ := OLD.out W3 hold3
            obtain ⟨-, -, -, q3, q4, -, -⟩ := OWN.out W3 ho1 (by omega)
            have p3 : W3.cell? ⟨Be, 0, none⟩ = some (.int .i64 en) := by simp [World.cell?, ho2]
            have HS3 := Lib.hid hS3
            obtain ⟨_, _, rfl, -⟩ := id hr3
            clear hold hS' hI3 hS3 hold3 hs3 hs3' hpre ho1 ho2 hr3 hv3
            gi_wp2
            refine ⟨fun h => (by simp [Fence.wide] at h), ?_⟩
            refine (show RoundIn (Fence.wide.inRound (w5.heap.size + 1)) (m2 - 1) Tryd.prog l fn3 tmps3 assign3 body3 W3 _ from hR3).mono ?_
            clear hR3 hy3 q3 q4 p3
            rintro e W4 ⟨S4, ht4, ⟨rfl, hJ4⟩ | ⟨rfl, hJx4⟩⟩
            · gi_wp2
              exact ⟨fun b => S4 b ∧ ¬ S b, ht4.inner HS3.out, S4, by rw [List.map_append, ← List.append_assoc]; exact hJ4, fun b hb => (Classical.em (S b)).elim .inl fun q => .inr ⟨hb, q⟩⟩
            · gi_wp2
              exact ⟨fun b => S4 b ∧ ¬ S b, ht4.inner HS3.out, rfl, S4, by rw [List.map_append, ← List.append_assoc]; exact hJx4, fun b hb => (Classical.em (S b)).elim .inl fun q => .inr ⟨hb, q⟩⟩
          case done =>
            rintro S' W' hold hS' hsz ⟨S1, hI1, hS1⟩ hD
            rw [← HFQ.out] at hI1
            have hfin := TAIL.out W' S1 (w5.heap.size :: Ds) hI1 (fun b hb => by
              rcases hS1 b hb with q | q
              · have := HSB.out b q; omega
              · have := hS' b q; omega) (OLD.out W' hold).1 (by omega) (by
                rw [List.nodup_cons]
                exact ⟨fun h => by have := (HDS.out _ h).2.1; omega, HND.out⟩) (fun D hD' => by
              rcases List.mem_cons.1 hD' with rfl | hD'
              · refine ⟨by omega, by omega, fun h => ?_, hD⟩
                rcases hS1 _ h with q | q
                · have := (HSB.out _ q).2; omega
                · have := (hS' _ q).1; omega
              · obtain ⟨d1, d2, d3, d4⟩ := HDS.out D hD'
                refine ⟨d1, by omega, fun h => ?_, ?_⟩
                · rcases hS1 _ h with q | q
                  · exact d3 q
                  · have := (hS' _ q).1; omega
                · exact (hold.block D (by omega) fun h => h.elim (fun q => nT D (by omega) q) d3).trans ((HB5.out.block D (by omega)).trans ((HWK.out.block D d2).trans d4)))
            have p3 : W'.cell? ⟨Be, 0, none⟩ = some (.int .i64 en) := by simp [World.cell?, (OLD.out W' hold).2]
            have HFIN := Lib.hid hfin
            clear hold hS' hI1 hS1 hD hfin
            gi_wp2
            go_wp2_with fail
            refine ⟨⟨_, _, _, _, _, _, _, _, _, _, _, _, _, _, _, _, _, _, _, _, _, _, _, _, _, _, _, _, _, _, _, _, _, _, _, _, p + 1, W'.heap.size, S1, w5.heap.size :: Ds, rfl, HFIN.out⟩, ?_⟩
            rw [endOf_at rfl (HMS.out W'), endOf_at rfl (show wr.cell? ⟨Be, 0, none⟩ = some (.int .i64 en) by simp [World.cell?, HBE4.out])]
            omega
          case stop =>
            rintro cd pre S' W' hold hS' hsz hpre ⟨rfl, S1, hx1, hS1⟩ hD
            have HDD : Hid (∀ D ∈ w5.heap.size :: Ds, W'.heap[D]? = some (.deferred (some [])) ∧ W.heap.size ≤ D ∧ ¬ S1 D) := Lib.hid fun D hD' => by
              rcases List.mem_cons.1 hD' with rfl | hD'
              · refine ⟨hD, by omega, fun h => ?_⟩
                rcases hS1 _ h with q | q
                · have := (HSB.out _ q).2; omega
                · have := (hS' _ q).1; omega
              · obtain ⟨d1, d2, d3, d4⟩ := HDS.out D hD'
                refine ⟨(hold.block D (by omega) fun h => h.elim (fun q => nT D (by omega) q) d3).trans ((HB5.out.block D (by omega)).trans ((HWK.out.block D d2).trans d4)), by omega, fun h => ?_⟩
                rcases hS1 _ h with q | q
                · exact d3 q
                · have := (hS' _ q).1; omega
            have HPF : Hid ((Lx.formsTo x i p ++ pre.map fun l => ⟨(i : Int), en, l⟩) <+: Lx.formsV x i) := Lib.hid (by
              have h2 := (List.prefix_append_right_inj (Lx.formsTo x i p)).2 (hpre.map (fun l => (⟨(i : Int), en, l⟩ : Lx.Form)))
              rw [← HFQ.out] at h2
              exact h2.trans (Lx.formsTo_prefix x i (by have := HEN.out; omega)))
            gi_wp2
            refine leaves_marks (w5.heap.size :: Ds) W' ?_ (fun D hD' => (HDD.out D hD').1) (fun W5 hs5 => ⟨_, results_none rfl _ _ _, ⟨_, rfl⟩, S1, ?_, .inr ⟨_, HPF.out, ?_⟩⟩)
            · rw [List.nodup_cons]
              exact ⟨fun h => by have := (HDS.out _ h).2.1; omega, HND.out⟩
            · intro b hb
              have := hs5.size
              rcases hS1 b hb with q | q
              · have := HSB.out b q; omega
              · have := hS' b q; omega
            · refine HJX.out _ _ _ _ hx1 (hs5.mono fun b _ hx h => ?_)
              rcases hx with q | q
              · have := (HDD.out b h).2.1; omega
              · exact (HDD.out b h).2.2 q
        · have hFQ : Lx.formsTo x i (p + 1) = Lx.formsTo x i p := by
            rw [Lx.formsTo_succ]
            unfold Lx.formsQ
            rw [hsk]
            simp
          have hfin := TAIL.out wk S Ds (by rw [hFQ]; exact JK.out) (fun b hb => by have := HSB.out b hb; omega) OKK.out (by omega) HND.out (fun D hD => by
            obtain ⟨d1, d2, d3, d4⟩ := HDS.out D hD
            exact ⟨d1, by omega, d3, (HWK.out.block D d2).trans d4⟩)
          have HFIN := Lib.hid hfin
          clear hsk hFQ hfin
          go_wp2_with fail
          refine ⟨⟨_, _, _, _, _, _, _, _, _, _, _, _, _, _, _, _, _, _, _, _, _, _, _, _, _, _, _, _, _, _, _, _, _, _, _, _, p + 1, wk.heap.size, S, Ds, rfl, HFIN.out⟩, ?_⟩
          rw [endOf_at rfl (HMS.out wk), endOf_at rfl (show wr.cell? ⟨Be, 0, none⟩ = some (.int .i64 en) by simp [World.cell?, HBE4.out])]
          omega
    · have hpe : p = x.endings.length + 1 := by have := HEN.out; omega
      have HJF : Hid (J (Lx.formsV x i) S wr) := Lib.hid (by
        have := HJR.out
        rw [hpe] at this
        exact this)
      go_wp2_with fail
      refine leaves_marks Ds wr HND.out (fun D hD' => (HDS.out D hD').2.2.2) (fun W5 hs5 => ⟨_, results_none rfl _ _ _, ⟨_, rfl⟩, S, fun b hb => ?_, .inl (HJ.out _ _ _ _ HJF.out (hs5.mono fun b _ hx h => ?_))⟩)
      · have := HSB.out b hb
        have := hs5.size
        omega
      · rcases hx with q | q
        · have := (HDS.out b h).1; omega
        · exact (HDS.out b h).2.2.1 q
end Go.Proofs.YtpmnpnlfgfleeaaDoor
