/- lexicon.Forms. -/
import Derived.Test.YtpmnpnlfgfleeaaDoorMgCount
namespace Go.Proofs.YtpmnpnlfgfleeaaDoor
open Go Go.RowKit
attribute [local go_sem] Oper.semAt_some

theorem wpListIn_append_rd {α : Type} {enc : α → List Value} {F : Fence} {m : Nat} {P : Program} {w : World} {ops : Array Oper} {rest : List Oper} {o : Oper} {a : Act} {Q : Exit → Act → World → Prop} (hgd : o.guard = none) (s x : Operand) (t : TypeId)
    (ho : o.op = .call { callee := .builtin .append, args := #[s, x], argTypes := #[t, t] })
    (base : Nat) (e : TypeId) (i : TypeInfo) (z : Value) (size bytes : Nat) (hu : ∀ x, (enc x).length = size) (h1 : ∀ x, ∀ u ∈ enc x, u.oneCell' = true)
    (ht : P.underlying t = some (.slice e)) (hi : P.info? e = some i) (hz : i.zero = some z)
    (hsize : i.size = size) (hby : i.bytes = bytes) (hzs : z.cells.size = size) (hsz : 0 < size)
    (v : Value) (n : Nat) (xs : List Value) (hs : a.eval s = v) (hown : w.ownsRow base e size v n xs) (B : Nat) (sv : Value) (ys : List α) (hx : a.eval x = sv) (hr : RdS w B size enc sv ys)
    (h63 : n + ys.length ≤ maxLen) (hbytes : (n + ys.length) * bytes ≤ 140737488355328) (hbase : base ≤ w.heap.size)
    (h : ∀ v' w', w'.ownsRow base e size v' (n + ys.length) (xs ++ ys.flatMap enc) → w.grownBy w' v.ownBlock → (v'.ownBlock = v.ownBlock ∨ v'.ownBlock = some w.heap.size) → wpListIn F m P ops Q rest (a.put o.dst v') w') : wpListIn F m P ops Q (o :: rest) a w := by
  refine wpListIn_plain hgd fun K hK' => ?_
  obtain ⟨v', w', hrun, h2, h3, h4⟩ := run_append_rd (P := P) w base t o.type e i z size bytes hu h1 ht hi hz hsize hby hzs hsz v n xs hown B sv ys hr h63 hbytes hbase
  unfold Oper.wpIn
  refine ⟨?_, ?_⟩
  · simp [Oper.about, ho, resolve, Target.leads, Sem.run_pure]
  · rw [Oper.semAt_plain F _ _ (by rw [ho]; intro c hc'; cases hc')]
    simp [execOp, ho, resolve, invoke, builtin, hs, hx, hrun, Result.andThen]
    exact hK' _ _ (h v' w' h2 h3 h4)

/-- a list of forms whose blocks S names -/
def OwnS (w : World) (B : Nat) (S : Nat → Prop) (v : Value) (l : List Lx.Form) : Prop :=
  ∃ cells, w.ownsRow B 49 3 v l.length cells ∧ grows KForm w (fun b => S b ∧ v.ownBlock ≠ some b) cells l ∧ (∀ g, v.ownBlock = some g → S g)
theorem OwnS.keep {w w' : World} {B : Nat} {S S' : Nat → Prop} {v : Value} {l : List Lx.Form} (h : OwnS w B S v l) (hk : ∀ b, S b → S' b ∧ w'.heap[b]? = w.heap[b]?) : OwnS w' B S' v l := by
  obtain ⟨cells, h1, h2, h3⟩ := h
  refine ⟨cells, ⟨h1.1, ?_⟩, h2.keep fun b hb => ⟨⟨(hk b hb.1).1, hb.2⟩, (hk b hb.1).2⟩, fun g hg => (hk g (h3 g hg)).1⟩
  rcases h1.2 with q | ⟨g, cap, cur, rfl, hg, hh, r⟩
  · exact .inl q
  · exact .inr ⟨g, cap, cur, rfl, hg, ((hk g (h3 g rfl)).2).trans hh, r⟩
theorem OwnS.form {w : World} {B : Nat} {S : Nat → Prop} {v : Value} {l : List Lx.Form} (h : OwnS w B S v l) : ∃ A c, v = .slice A l.length c := by
  obtain ⟨cells, h1, _⟩ := h
  exact own_form h1
theorem OwnS.nil (w : World) (B : Nat) (S : Nat → Prop) : OwnS w B S (.slice none 0 0) [] := ⟨[], World.ownsRow_nil w B _ _, .nil, fun g h => by simp [Value.ownBlock] at h⟩
theorem OwnS.rd {w : World} {B : Nat} {S : Nat → Prop} {v : Value} {l : List Lx.Form} (h : OwnS w B S v l) : RdG KForm w S v l := by
  obtain ⟨cells, h1, h2, h3⟩ := h
  obtain ⟨_, h4⟩ := id h1
  rcases h4 with ⟨rfl, h0⟩ | ⟨g, cap, cur, rfl, hg, hh, hle, hm, hs, ht⟩
  · exact ⟨none, 0, by rw [h0], by omega, by omega, fun hp => by omega⟩
  · refine ⟨some ⟨g, 0, none⟩, cap, rfl, hle, by simpa [maxLen] using hm, fun _ => ⟨g, 0, rfl, h3 g rfl, fun i a hi => ?_⟩⟩
    obtain ⟨cs, e1, e2⟩ := h2.at hi
    refine ⟨cs, KForm.keep (fun b hb => ⟨hb.1, rfl⟩) e1, fun j u hj => ?_⟩
    have := h1.cells rfl (i * KForm.size + j) u (e2 j u hj)
    rw [addr_add] at this
    rw [← this, Nat.add_assoc]
theorem OwnS.more {w w' : World} {B : Nat} {S S' N : Nat → Prop} {v v' : Value} {l : List Lx.Form} {f : Lx.Form} {cells cs : List Value} (h2 : grows KForm w (fun b => S b ∧ v.ownBlock ≠ some b) cells l) (h3 : ∀ g, v.ownBlock = some g → S g) (hS : ∀ b, S b → b < w.heap.size)
    (hm : KForm.rd w N cs f) (hN : ∀ b, N b → b < w.heap.size ∧ ¬ S b) (hown : w'.ownsRow B 49 3 v' (l.length + 1) (cells ++ cs)) (hg : w.grownBy w' v.ownBlock)
    (hat : v'.ownBlock = v.ownBlock ∨ v'.ownBlock = some w.heap.size) (hS' : ∀ b, S b ∨ N b → S' b) (hSn : v'.ownBlock = some w.heap.size → S' w.heap.size) : OwnS w' B S' v' (l ++ [f]) := by
  have hk1 : ∀ b, (S b ∧ v.ownBlock ≠ some b) → (S' b ∧ v'.ownBlock ≠ some b) ∧ w'.heap[b]? = w.heap[b]? := fun b ⟨hb, hne⟩ => by
    refine ⟨⟨hS' b (.inl hb), ?_⟩, hg.block b (hS b hb) (fun e => hne e.symm)⟩
    rcases hat with e | e
    · rw [e]; exact hne
    · rw [e]; intro q; cases q; exact absurd (hS _ hb) (Nat.lt_irrefl _)
  have hk2 : ∀ b, N b → (S' b ∧ v'.ownBlock ≠ some b) ∧ w'.heap[b]? = w.heap[b]? := fun b hb => by
    obtain ⟨n1, n2⟩ := hN b hb
    have hne : v.ownBlock ≠ some b := fun q => n2 (h3 b q)
    refine ⟨⟨hS' b (.inr hb), ?_⟩, hg.block b n1 (fun e => hne e.symm)⟩
    rcases hat with e | e
    · rw [e]; exact hne
    · rw [e]; intro q; cases q; exact absurd n1 (Nat.lt_irrefl _)
  refine ⟨cells ++ cs, by rw [List.length_append, List.length_singleton]; exact hown, (h2.keep hk1).snoc (KForm.keep hk2 hm), fun g hg' => ?_⟩
  rcases hat with e | e
  · exact hS' g (.inl (h3 g (by rw [← e]; exact hg')))
  · rw [e] at hg'; cases hg'; exact hSn e

theorem results_two (tmps : Array Value) (a1 a2 : Addr) (v1 v2 : Value) (w : World) (h4 : tmps.getD 4 undef = .pointer (some a1)) (h5 : tmps.getD 5 undef = .pointer (some a2)) (c1 : w.cell? a1 = some v1) (c2 : w.cell? a2 = some v2) :
    (results Tryd.f6 tmps).run Tryd.prog w = .ok (.tuple #[v1, v2]) w := by
  have h4' : tmps[4]?.getD undef = .pointer (some a1) := by simpa using h4
  have h5' : tmps[5]?.getD undef = .pointer (some a2) := by simpa using h5
  simp only [results, show Tryd.f6.results = #[.cell 4 29, .cell 5 30] from rfl]
  simp [h4', h5', asAddr, loadVar, isAgg, go_sem, c1, c2, Sem.run_bind, Result.andThen]
theorem ret_vi {v : Value} {a b : Int} (h : a = b) : Ending.returned (.tuple #[v, .int .i64 a]) = .returned (.tuple #[v, .int .i64 b]) := by rw [h]
/-- the forms and an error -/
def RetFs (x : Lx.Lexicon) (n : Int) (w : World) (e : Ending) (w' : World) : Prop := ∃ v, e = .returned (.tuple #[v, .int .i64 (Lx.formsN x n)]) ∧ RdG KForm w' (fun b => b < w'.heap.size ∧ w.heap.size ≤ b) v (Lx.formsR x n) ∧ Below w.heap.size w w'

set_option maxRecDepth 100000 in
set_option maxHeartbeats 8000000 in
theorem Forms_any (v : Value) (x : Lx.Lexicon) (n : Int) (w : World) (hr : RdL w w.heap.size v x) : Calls Tryd.prog 6 #[v, .int .i64 n] w (RetFs x n w) := by
  have HEY : Hid (∀ (W : World), Below w.heap.size w W → Calls Tryd.prog 15 #[v, .int .i64 n] W (RetIB (Lx.entryV x n) W)) := Lib.hid fun W hW => entry_any v x n W ((hr.below hW).more hW.size)
  obtain ⟨⟨v0, v1, v2, rfl, h0, h1, h2⟩, -, -, -⟩ := hr
  have HR0 := Lib.hid h0
  have HR1 := Lib.hid h1
  obtain ⟨A0, c0, rfl, -⟩ := h0
  obtain ⟨A1, c1, rfl, -⟩ := h1
  obtain ⟨A2, c2, rfl, -⟩ := h2
  generalize hcv : Lx.entryV x n = cv at HEY
  have HV := Lib.hid hcv
  clear hcv
  refine (callsIn_wide (n := 9)).1 ?_
  refine callsIn_of_wp_marks Tryd.func6 rfl trivial ?_
  simp only [Tryd.ntmps6, List.size_toArray, List.length_cons, List.length_nil, Nat.reduceAdd, Nat.reduceSub, Array.replicate_succ, Array.replicate_zero, List.push_toArray, List.append_toArray, List.nil_append, List.cons_append]
  refine wpIn_wide.2 ?_
  go_wp2_with fail
  obtain ⟨w0, hw0⟩ : ∃ w0, w0 = ((w.alloc (.cells #[.slice A0 x.entries.length c0, .slice A1 x.endings.length c1, .slice A2 x.clitics.length c2] 26)).alloc (.cells #[.slice none 0 0] 29)).alloc (.cells #[.int .i64 0] 30) := ⟨_, rfl⟩
  have hb0 : Below w.heap.size w w0 := by rw [hw0]; exact (((Below.refl _ _).alloc (Nat.le_refl _) _).alloc (by simp) _).alloc (by simp; omega) _
  have hs0 : w0.heap.size = w.heap.size + 3 := by rw [hw0]; simp
  have hx0 : w0.heap[w.heap.size]? = some (.cells #[.slice A0 x.entries.length c0, .slice A1 x.endings.length c1, .slice A2 x.clitics.length c2] 26 (0, 0)) := by
    rw [hw0]
    exact (Below.heap_alloc _ _ _ (by simp; omega)).trans (start_fst _ _ _)
  have hr0 : w0.heap[w.heap.size + 1]? = some (.cells #[.slice none 0 0] 29 (0, 0)) := by
    rw [hw0]
    exact (Below.heap_alloc _ _ _ (by simp)).trans (start_res2 _ _ _)
  have he0 : w0.heap[w.heap.size + 1 + 1]? = some (.cells #[.int .i64 0] 30 (0, 0)) := by
    rw [hw0]
    have := heap_alloc_new ((w.alloc (.cells #[.slice A0 x.entries.length c0, .slice A1 x.endings.length c1, .slice A2 x.clitics.length c2] 26)).alloc (.cells #[.slice none 0 0] 29)) (.cells #[.int .i64 0] 30)
    simpa using this
  rw [← hw0]
  refine (HEY.out w0 hb0).mono ?_
  rintro e1 w1 ⟨rfl, hb1⟩
  have hX1 := (hb1.block _ (by omega)).trans hx0
  have hR1 := (hb1.block _ (by omega)).trans hr0
  have hE1 := (hb1.block _ (by omega)).trans he0
  have x0 : w1.cell? ⟨w.heap.size, 0, none⟩ = some (.slice A0 x.entries.length c0) := by simp [World.cell?, hX1]
  have x1 : w1.cell? ⟨w.heap.size, 1, none⟩ = some (.slice A1 x.endings.length c1) := by simp [World.cell?, hX1]
  have x2 : w1.cell? ⟨w.heap.size, 2, none⟩ = some (.slice A2 x.clitics.length c2) := by simp [World.cell?, hX1]
  have r0 := cell_of_box hR1
  have r1 := frozen_of_box hR1
  have r2 := cell_of_box hE1
  have r3 := frozen_of_box hE1
  have HB1 := Lib.hid (hb0.trans (hb1.mono (by omega)))
  have HR1B := Lib.hid hR1
  have HE1B := Lib.hid hE1
  have hs1 : w.heap.size + 3 ≤ w1.heap.size := by have := hb1.size; omega
  have hsA : w.heap.size < w1.heap.size := by omega
  have hsB : w.heap.size < w1.heap.size + 1 := by omega
  clear hb1 hX1 hR1 hE1 hx0 hr0 he0 hw0 hb0 hs0
  by_cases hz : cv = 0
  · have hq : (cv == 0) = true := by simp [hz]
    have hq' : (cv != 0) = false := by simp [hz]
    have hev : Lx.entryV x n = 0 := by rw [HV.out, hz]
    obtain ⟨hchk, i, rfl, hi⟩ := Lx.entry_good hev
    obtain ⟨t0, t1, t2⟩ := Lx.tooMany_no (Lx.check_parts hchk).1
    have HEV := Lib.hid hev
    obtain ⟨N, hN⟩ : ∃ N, N = (Lx.formsV x i).length := ⟨_, rfl⟩
    have HN := Lib.hid hN
    have HZ := Lib.hid hz
    clear hz hev hN hchk r0 r1 r2 r3
    go_wp2_with fail
    refine (forms_any A0 A1 A2 x.entries.length c0 x.endings.length c1 x.clitics.length c2 (i : Int) _).mono ?_
    rintro e w3 ⟨rfl, hw3⟩
    have hb3 : Below w1.heap.size w1 w3 := by rw [hw3]; exact (((Below.refl _ _).alloc (Nat.le_refl _) _).alloc (by simp) _).alloc (by simp; omega) _
    have hs3 : w3.heap.size = w1.heap.size + 3 := by rw [hw3]; simp
    have hm3 : w3.heap[w1.heap.size]? = some (.cells #[.slice none 0 0] 29 (0, 0)) := by
      rw [hw3]
      exact (Below.heap_alloc _ _ _ (by simp; omega)).trans ((Below.heap_alloc _ _ _ (by simp)).trans (heap_alloc_new _ _))
    have hR3 := (hb3.block _ (by omega)).trans HR1B.out
    have hE3 := (hb3.block _ (by omega)).trans HE1B.out
    obtain ⟨TT, hTT⟩ : ∃ TT : Nat → Prop, TT = fun b => b = w1.heap.size ∨ b = w.heap.size + 1 ∨ b = w.heap.size + 1 + 1 := ⟨_, rfl⟩
    have hTTi : ∀ b, TT b → w.heap.size ≤ b ∧ b < w3.heap.size := fun b hb => by rw [hTT] at hb; rcases hb with h | h | h <;> omega
    have hfat : FormsAt w3 (w1.heap.size + 1) (w1.heap.size + 1 + 1) A0 A1 A2 c0 c1 c2 x i (fun b => b < w3.heap.size ∧ ¬ TT b) := by
      have hk : ∀ b, b < w.heap.size → (b < w3.heap.size ∧ ¬ TT b) ∧ w3.heap[b]? = w.heap[b]? := fun b hb => ⟨⟨by omega, fun h => by have := (hTTi b h).1; omega⟩, (hb3.block b (by omega)).trans (HB1.out.block b hb)⟩
      refine ⟨?_, ?_, ⟨by omega, fun h => by rw [hTT] at h; omega⟩, ⟨by omega, fun h => by rw [hTT] at h; omega⟩, (RdX.of HR0.out).keep hk, (RdX.of HR1.out).keep hk, fun b hb => hb.1⟩
      · rw [hw3]
        have := start_fst (w1.alloc (.cells #[.slice none 0 0] 29)) (.cells #[.slice A0 x.entries.length c0, .slice A1 x.endings.length c1, .slice A2 x.clitics.length c2] 26) (.cells #[.int .i64 (i : Int)] 3)
        simpa using this
      · rw [hw3]
        have := start_res2 (w1.alloc (.cells #[.slice none 0 0] 29)) (.cells #[.slice A0 x.entries.length c0, .slice A1 x.endings.length c1, .slice A2 x.clitics.length c2] 26) (.cells #[.int .i64 (i : Int)] 3)
        simpa using this
    have HGV := Lib.hid (forms_gives x i hi (by omega) (by omega) (by omega) w3 _ _ A0 A1 A2 c0 c1 c2 _ hfat)
    have HB3 := Lib.hid hb3
    have HTTI := Lib.hid hTTi
    have H03 : Hid (w3.heap[w1.heap.size]? = some (.cells #[.slice none 0 0] 29 (0, 0)) ∧ w3.heap[w.heap.size + 1]? = some (.cells #[.slice none 0 0] 29 (0, 0)) ∧ w3.heap[w.heap.size + 1 + 1]? = some (.cells #[.int .i64 0] 30 (0, 0))) := Lib.hid ⟨hm3, hR3, hE3⟩
    have HTE := Lib.hid hTT
    clear hw3 hfat hb3 hm3 hR3 hE3 x0 x1 x2 hTT hTTi
    rw [World.size_alloc]
    go_wp2_with fail
    refine (wpIn_wide (n := 9)).1 (wp_iter (T := TT) (ok := fun b => b < w3.heap.size ∧ ¬ TT b) (gf := 30) (lb := #[.pointer (some ⟨w1.heap.size + 1, 0, none⟩), .pointer (some ⟨w1.heap.size + 1 + 1, 0, none⟩)]) (E := EForm) rfl (enters_of Tryd.func30 (by kernel_rfl) rfl)
      HGV.out (fun l w args h => by obtain ⟨v, e, _⟩ := h; rw [e]; rfl) firm_form (fun b hb => hb.1) (fun b hb => ⟨fun h => h.2 hb, (HTTI.out b hb).2⟩)
      (fun pre S' W' => pre.length ≤ 1000 ∧ (∀ b, S' b → w3.heap.size ≤ b ∧ b < W'.heap.size) ∧ W'.heap[w.heap.size + 1]? = some (.cells #[.slice none 0 0] 29 (0, 0)) ∧ W'.heap[w.heap.size + 1 + 1]? = some (.cells #[.int .i64 0] 30 (0, 0)) ∧ ∃ vo, W'.heap[w1.heap.size]? = some (.cells #[vo] 29 (0, 0)) ∧ OwnS W' w3.heap.size S' vo pre)
      (fun cd pre S' W' => cd = .ret ∧ 1000 < N ∧ W'.heap[w.heap.size + 1]? = some (.cells #[.slice none 0 0] 29 (0, 0)) ∧ W'.heap[w.heap.size + 1 + 1]? = some (.cells #[.int .i64 2] 30 (0, 0))) ?hI ?hIx ⟨by simp, fun b h => h.elim, H03.out.2.1, H03.out.2.2, _, H03.out.1, OwnS.nil _ _ _⟩ ?round ?done ?stop)
    case hI =>
      rintro pre S' X Y ⟨h1, h2, h3, h4, vo, h5, h6⟩ hs
      have e1 := (Array.getElem?_eq_some_iff.1 h5).1
      have e2 := (Array.getElem?_eq_some_iff.1 h3).1
      have e3 := (Array.getElem?_eq_some_iff.1 h4).1
      exact ⟨h1, fun b hb => ⟨(h2 b hb).1, Nat.lt_of_lt_of_le (h2 b hb).2 hs.size⟩, (hs.block _ e2 (.inl (by omega))).trans h3, (hs.block _ e3 (.inl (by omega))).trans h4, vo, (hs.block _ e1 (.inl (by omega))).trans h5, h6.keep fun b hb => ⟨hb, hs.block b (h2 b hb).2 (.inr hb)⟩⟩
    case hIx =>
      rintro cd pre S' X Y ⟨h1, h2, h3, h4⟩ hs
      have e2 := (Array.getElem?_eq_some_iff.1 h3).1
      have e3 := (Array.getElem?_eq_some_iff.1 h4).1
      exact ⟨h1, h2, (hs.block _ e2 (.inl (by omega))).trans h3, (hs.block _ e3 (.inl (by omega))).trans h4⟩
    case round =>
      rintro m2 l2 pre S' f args W' hl hold hS' hsz - hpre ⟨_, rfl, ⟨⟨_, rfl, ⟨As, cs, rfl, -⟩⟩⟩⟩
      have hlen : pre.length < N := by
        have := hpre.length_le
        rw [List.length_append, List.length_singleton] at this
        rw [HN.out]
        omega
      have hfl : f.clitics.length ≤ 3 := (Lx.formsV_in (hpre.subset (by simp))).2.2.2.1
      have HHS := Lib.hid hS'
      clear hold hS' hpre
      gi_wp2
      refine ⟨.all ((Below.refl _ _).alloc (Nat.le_refl _) _), fun b => S' b ∨ b = W'.heap.size, fun b hb => hb.imp id (fun q => by rw [q, World.size_alloc]; omega), fun W3 h13 h03 hI3 hE3 hold3 => ?_⟩
      obtain ⟨i1, i2, i3, i4, vo, i5, i6⟩ := hI3
      have hz3 : W'.heap.size + 1 ≤ W3.heap.size := by have := h13.size; rw [World.size_alloc] at this; exact this
      have hbf : W3.heap[W'.heap.size]? = some (.cells #[.int .i64 f.entry, .int .i64 f.ending, .slice As f.clitics.length cs] 49 (0, 0)) := (h13.block _ (by rw [World.size_alloc]; omega) (by show W'.heap.size ≠ l2; omega)).trans (heap_alloc_new _ _)
      obtain ⟨v3, ev, ⟨⟨s3, e3, hr3⟩⟩⟩ := hE3
      have es : s3 = .slice As f.clitics.length cs := by
        have e4 : v3 = .agg #[.int .i64 f.entry, .int .i64 f.ending, .slice As f.clitics.length cs] := by simpa using ev.symm
        rw [e4] at e3
        simpa using e3.symm
      subst es
      obtain ⟨Ao, co, rfl⟩ := i6.form
      have o0 := cell_of_box i5
      have o1 := frozen_of_box i5
      have o2 := frozen_of_box i3
      have o3 := frozen_of_box i4
      have o4 := cell_of_box i3
      have o5 := cell_of_box i4
      have a0 : W3.cell? ⟨W'.heap.size, 0, none⟩ = some (.int .i64 f.entry) := by simp [World.cell?, hbf]
      have a1 : W3.cell? ⟨W'.heap.size, 1, none⟩ = some (.int .i64 f.ending) := by simp [World.cell?, hbf]
      have a2 : W3.cell? ⟨W'.heap.size, 2, none⟩ = some (.slice As f.clitics.length cs) := by simp [World.cell?, hbf]
      have a3 : W3.frozen? ⟨W'.heap.size, 2, none⟩ = false := by simp [World.frozen?, hbf]
      have HI2 := Lib.hid i2
      have HI3 := Lib.hid i3
      have HI4 := Lib.hid i4
      have HI5 := Lib.hid i5
      have HI6 := Lib.hid i6
      have HBF := Lib.hid hbf
      have HR3 := Lib.hid hr3
      have hxs := h03.size
      clear h13 h03 hold3 i2 i3 i4 i5 i6 hbf hr3 e3 ev
      obtain ⟨k, hk⟩ : ∃ k, k = pre.length := ⟨_, rfl⟩
      rw [← hk] at o0 i1 hlen
      have HK := Lib.hid hk
      clear hk
      by_cases hkk : k = 1000
      · subst hkk
        gi_wp2
        refine ⟨S', ⟨?_, fun b hb => .inl (.inl hb)⟩, rfl, hlen, (Below.heap_setCell _ _ _ _ (by show w.heap.size + 1 ≠ w.heap.size + 1 + 1; omega)).trans (set_box HI3.out), set_box ((Below.heap_setCell _ _ _ _ (by show w.heap.size + 1 + 1 ≠ w.heap.size + 1; omega)).trans HI4.out)⟩
        refine ((Stays.setCell W3 ⟨w.heap.size + 1, 0, none⟩ _).mono fun b _ hx => ?_).trans ((Stays.setCell _ ⟨w.heap.size + 1 + 1, 0, none⟩ _).mono fun b _ hx => ?_)
        · intro q; exact hx.1 (by rw [HTE.out]; exact .inr (.inl q))
        · intro q; exact hx.1 (by rw [HTE.out]; exact .inr (.inr q))
      · have hkI : ¬ (k : Int) = 1000 := by omega
        gi_wp2
        refine ⟨trivial, fun h => (by simp [Fence.wide] at h), (CallsIn.inRound _ (callsIn_wide.2 (cloneInt_any _ f.clitics W3 W3.heap.size HR3.out (by omega)))).mono ?_⟩
        rintro e w4 ⟨v4, rfl, hown4, hb4⟩
        obtain ⟨A4, c4, rfl⟩ := own_form hown4
        have hz4 := hb4.size
        have k5 := (hb4.block w1.heap.size (by omega)).trans HI5.out
        have k3 := (hb4.block (w.heap.size + 1) (by omega)).trans HI3.out
        have k4 := (hb4.block (w.heap.size + 1 + 1) (by omega)).trans HI4.out
        have kf := (hb4.block W'.heap.size (by omega)).trans HBF.out
        obtain ⟨w5, hw5⟩ : ∃ w5, w5 = w4.setCell ⟨W'.heap.size, 2, none⟩ (.slice A4 f.clitics.length c4) := ⟨_, rfl⟩
        have HW5 := Lib.hid hw5
        have hst5 : Stays (fun b => b ≠ W'.heap.size) w4 w5 := by rw [hw5]; exact Stays.setCell w4 ⟨W'.heap.size, 2, none⟩ _
        have hz5 : w5.heap.size = w4.heap.size := by rw [hw5]; simp [World.setCell]
        obtain ⟨w7, hw7⟩ : ∃ w7, w7 = w5.alloc (.cells #[.int .i64 f.entry, .int .i64 f.ending, .slice A4 f.clitics.length c4] 49) := ⟨_, rfl⟩
        have HW7 := Lib.hid hw7
        have hb57 : Below w5.heap.size w5 w7 := by rw [hw7]; exact (Below.refl _ _).alloc (Nat.le_refl _) _
        have hz7 : w7.heap.size = w4.heap.size + 1 := by rw [hw7, World.size_alloc, hz5]
        have hn7 : w7.heap[w4.heap.size]? = some (.cells #[.int .i64 f.entry, .int .i64 f.ending, .slice A4 f.clitics.length c4] 49 (0, 0)) := by rw [hw7, ← hz5]; exact heap_alloc_new _ _
        -- what lies as it lay from W3 to w7
        have K37 : Hid (∀ b, b < W3.heap.size → b ≠ W'.heap.size → w7.heap[b]? = W3.heap[b]?) := Lib.hid fun b hb hne => (hb57.block b (by omega)).trans ((hst5.block b (by omega) hne).trans (hb4.block b hb))
        have HO7 : Hid (OwnS w7 w3.heap.size S' (.slice Ao pre.length co) pre) := Lib.hid (HI6.out.keep fun b hb => ⟨hb, K37.out b (by have := (HHS.out b hb).2; omega) (by have := (HHS.out b hb).2; omega)⟩)
        have HN7 : Hid (RdX w7 (fun b => W3.heap.size ≤ b ∧ b < w4.heap.size) 1 encInt (.slice A4 f.clitics.length c4) f.clitics) := Lib.hid ((rdx_of_own len_int hown4).keep fun b hb => ⟨hb, (hb57.block b (by omega)).trans (hst5.block b hb.2 (by show b ≠ W'.heap.size; omega))⟩)
        have HSRC : Hid (RdS w7 w7.heap.size 3 enc3 (.slice (some ⟨w4.heap.size, 0, none⟩) 1 1) [(f.entry, f.ending, (A4, f.clitics.length, c4))]) := Lib.hid (rds_block (xs := [(f.entry, f.ending, (A4, f.clitics.length, c4))]) len_3 hn7 rfl (by omega) (Nat.le_refl 1) (by decide))
        have j0 := (K37.out w1.heap.size (by omega) (by omega)).trans HI5.out
        have j1 := (K37.out (w.heap.size + 1) (by omega) (by omega)).trans HI3.out
        have j2 := (K37.out (w.heap.size + 1 + 1) (by omega) (by omega)).trans HI4.out
        have HJ0 := Lib.hid j0
        have HJ1 := Lib.hid j1
        have HJ2 := Lib.hid j2
        have HST37 : Hid (Stays (fun b => ¬ TT b ∧ ¬ (S' b ∨ b = W'.heap.size)) W3 w7) := Lib.hid (((Stays.all hb4).trans (hst5.mono fun b _ hx q => hx.2 (.inr q))).trans (.all hb57))
        clear a0 a1 a2 a3 o0 o1 o2 o3 o4 o5
        have a3 : w4.frozen? ⟨W'.heap.size, 2, none⟩ = false := by simp [World.frozen?, kf]
        have a2 : w4.cell? ⟨W'.heap.size, 2, none⟩ = some (.slice As f.clitics.length cs) := by simp [World.cell?, kf]
        have b0 : w4.cell? ⟨W'.heap.size, 0, none⟩ = some (.int .i64 f.entry) := by simp [World.cell?, kf]
        have b1 : w4.cell? ⟨W'.heap.size, 1, none⟩ = some (.int .i64 f.ending) := by simp [World.cell?, kf]
        have b3 := cell_of_box k5
        have b4 := frozen_of_box k5
        rw [← HK.out] at b3
        have hne1 : ¬ w1.heap.size = W'.heap.size := by omega
        have hne2 : ¬ W'.heap.size = w1.heap.size := by omega
        obtain ⟨i3', hi3, hz3', hs3', hb3'⟩ := info_parts info_Form
        have hk1 : k + 1 ≤ maxLen := by simp only [maxLen]; omega
        have hk2 : (k + 1) * 40 ≤ 140737488355328 := by omega
        have hw37 : w3.heap.size ≤ w7.heap.size := by omega
        obtain ⟨cells, hcells⟩ := HO7.out
        have HCE := Lib.hid hcells
        have hown7 : w7.ownsRow w3.heap.size 49 3 (.slice Ao k co) k cells := by have e := HK.out; subst e; exact HCE.out.1
        have HOWN7 := Lib.hid hown7
        clear hb4 hst5 hown4 k3 k4 k5 kf hw5 hw7 hb57 hn7 j0 j1 j2 hcells hown7
        have HNE : Hid (∀ g, (Value.slice Ao k co).ownBlock = some g → w3.heap.size ≤ g) := Lib.hid fun g hg => (HOWN7.out.lt g hg).1
        gi_wp2_with (gi_at_builtin; rw [← HW5.out, ← HW7.out]; refine wpListIn_append_rd (enc := enc3) rfl (.tmp 26) (.tmp 28) 29 rfl w3.heap.size 49 i3' _ 3 40 len_3 one_3 Tryd.underlying29 hi3 hz3' hs3' hb3' rfl (by decide) (.slice Ao k co) k cells rfl HOWN7.out w7.heap.size (.slice (some ⟨w4.heap.size, 0, none⟩) 1 1) [(f.entry, f.ending, (A4, f.clitics.length, c4))] rfl HSRC.out hk1 hk2 hw37 ?_; intro v6 w6 hown6 hg6 hat6; obtain ⟨A6, c6, rfl⟩ := own_form hown6; have hq6 : w6.heap[w1.heap.size]? = w7.heap[w1.heap.size]? := (hg6.block _ (by omega) (fun e => by have := HNE.out _ e.symm; omega)); have y0 : w6.cell? ⟨w1.heap.size, 0, none⟩ = some (.slice Ao pre.length co) := (cell_of_box (hq6.trans HJ0.out)); have y1 : w6.frozen? ⟨w1.heap.size, 0, none⟩ = false := (frozen_of_box (hq6.trans HJ0.out)); have HO6 := Lib.hid hown6; have HG6 := Lib.hid hg6; have HAT6 := Lib.hid hat6; have HQ6 := Lib.hid hq6; clear hown6 hg6 hat6 hq6)
        have hz6 : w7.heap.size ≤ w6.heap.size := HG6.out.size
        obtain ⟨W8, hW8⟩ : ∃ W8, W8 = w6.setCell ⟨w1.heap.size, 0, none⟩ (.slice A6 (k + 1) c6) := ⟨_, rfl⟩
        have hz8 : W8.heap.size = w6.heap.size := by rw [hW8]; simp [World.setCell]
        have hst8 : Stays (fun b => b ≠ w1.heap.size) w6 W8 := by rw [hW8]; exact Stays.setCell w6 ⟨w1.heap.size, 0, none⟩ _
        have hc8 : W8.heap[w1.heap.size]? = some (.cells #[.slice A6 (k + 1) c6] 29 (0, 0)) := by rw [hW8]; exact set_box (HQ6.out.trans HJ0.out)
        show roundEnd _ _ _ _ _ _ _ _ (w6.setCell ⟨w1.heap.size, 0, none⟩ (.slice A6 (k + 1) c6))
        rw [← hW8]
        clear hW8
        have hSown : ∀ b, S' b → w3.heap.size ≤ b ∧ b < W'.heap.size := fun b hb => ⟨(HI2.out b hb).1, (HHS.out b hb).2⟩
        have k68 : ∀ b, b < w7.heap.size → b ≠ w1.heap.size → (Value.slice Ao k co).ownBlock ≠ some b → W8.heap[b]? = w7.heap[b]? := fun b hb h1 h2 => (hst8.block b (by omega) h1).trans (HG6.out.block b hb (fun e => h2 e.symm))
        have hown6' := HO6.out
        have hek := HK.out
        subst hek
        have hmore : OwnS w6 w3.heap.size (fun b => S' b ∨ (W3.heap.size ≤ b ∧ b < W8.heap.size)) (.slice A6 (pre.length + 1) c6) (pre ++ [f]) :=
          OwnS.more (N := fun b => W3.heap.size ≤ b ∧ b < w4.heap.size) HCE.out.2.1 HCE.out.2.2 (fun b hb => by have := (hSown b hb).2; omega) (cs := [.int .i64 f.entry, .int .i64 f.ending, .slice A4 f.clitics.length c4]) ⟨_, rfl, HN7.out⟩
            (fun b hb => ⟨by omega, fun h => by have := (hSown b h).2; omega⟩) hown6' HG6.out HAT6.out (fun b hb => hb.imp id fun q => ⟨q.1, by omega⟩) (fun e => .inr ⟨by omega, by have := (hown6'.lt _ e).2; omega⟩)
        refine ⟨fun b => S' b ∨ (W3.heap.size ≤ b ∧ b < W8.heap.size), ⟨?_, fun b hb => hb.imp .inl id⟩, ?_, ?_, ?_, ?_, _, hc8, ?_⟩
        · refine (HST37.out.trans ((Stays.grown HG6.out).mono fun b _ hx q => ?_)).trans (hst8.mono fun b _ hx q => ?_)
          · exact hx.2 (.inl (HCE.out.2.2 b q))
          · exact hx.1 (by rw [HTE.out]; exact .inl q)
        · rw [List.length_append, List.length_singleton]
          omega
        · intro b hb
          rcases hb with q | q
          · have := hSown b q; omega
          · omega
        · exact (k68 _ (by omega) (by omega) (fun q => by have := HNE.out _ q; omega)).trans HJ1.out
        · exact (k68 _ (by omega) (by omega) (fun q => by have := HNE.out _ q; omega)).trans HJ2.out
        · refine hmore.keep fun b hb => ⟨hb, hst8.block b ?_ ?_⟩
          · rcases hb with q | q
            · have := (hSown b q).2; omega
            · omega
          · show b ≠ w1.heap.size
            rcases hb with q | q
            · have := (hSown b q).1; omega
            · omega
    case done =>
      rintro S' W' hold hS' hsz ⟨i1, i2, i3, i4, vo, i5, i6⟩ hD
      obtain ⟨Ao, co, rfl⟩ := i6.form
      rw [← HN.out] at i1 i5 i6
      have hz1 : Lx.formsN x (i : Int) = 0 := by
        unfold Lx.formsN
        rw [if_pos HEV.out, Int.toNat_natCast, ← HN.out, if_neg (by omega)]
      have hz2 : Lx.formsR x (i : Int) = Lx.formsV x i := by
        unfold Lx.formsR
        rw [if_pos hz1, Int.toNat_natCast]
      have o0 := cell_of_box i5
      have o1 := frozen_of_box i5
      have o2 := frozen_of_box i3
      have o3 := frozen_of_box i4
      have o4 := cell_of_box i3
      have o5 := cell_of_box i4
      have HI2 := Lib.hid i2
      have HI3 := Lib.hid i3
      have HI4 := Lib.hid i4
      have HI6 := Lib.hid i6
      have HD := Lib.hid hD
      have HOLD := Lib.hid hold
      have HZ1 := Lib.hid hz1
      have HZ2 := Lib.hid hz2
      have HHS := Lib.hid hS'
      clear hold hS' i2 i3 i4 i5 i6 hD hz1 hz2
      gi_wp2
      go_wp2_with fail
      obtain ⟨W8, hW8⟩ : ∃ W8, W8 = (W'.setCell ⟨w.heap.size + 1, 0, none⟩ (.slice Ao N co)).setCell ⟨w.heap.size + 1 + 1, 0, none⟩ (.int .i64 0) := ⟨_, rfl⟩
      have hst8 : Stays (fun b => b ≠ w.heap.size + 1 ∧ b ≠ w.heap.size + 1 + 1) W' W8 := by
        rw [hW8]
        exact ((Stays.setCell W' ⟨w.heap.size + 1, 0, none⟩ _).mono fun b _ hx => hx.1).trans ((Stays.setCell _ ⟨w.heap.size + 1 + 1, 0, none⟩ _).mono fun b _ hx => hx.2)
      have hc1 : W8.heap[w.heap.size + 1]? = some (.cells #[.slice Ao N co] 29 (0, 0)) := by rw [hW8]; exact (Below.heap_setCell _ _ _ _ (by show w.heap.size + 1 ≠ w.heap.size + 1 + 1; omega)).trans (set_box HI3.out)
      have hc2 : W8.heap[w.heap.size + 1 + 1]? = some (.cells #[.int .i64 0] 30 (0, 0)) := by rw [hW8]; exact set_box ((Below.heap_setCell _ _ _ _ (by show w.heap.size + 1 + 1 ≠ w.heap.size + 1; omega)).trans HI4.out)
      have hz8 : W8.heap.size = W'.heap.size := by rw [hW8]; simp [World.setCell]
      show LeavesInM _ _ _ _ _ _ _ _ ((W'.setCell ⟨w.heap.size + 1, 0, none⟩ (.slice Ao N co)).setCell ⟨w.heap.size + 1 + 1, 0, none⟩ (.int .i64 0))
      rw [← hW8]
      clear hW8
      refine leaves_marks [w3.heap.size] W8 (by simp) (fun D hD' => by rw [List.mem_singleton.1 hD']; exact (hst8.block _ (by omega) ⟨by omega, by omega⟩).trans HD.out) (fun W5 hs5 => ?_)
      have hn5 : ∀ b, b ≠ w3.heap.size → ¬ b ∈ [w3.heap.size] := fun b h q => h (List.mem_singleton.1 q)
      refine ⟨_, results_two _ _ _ _ _ _ rfl rfl (cell_of_box ((hs5.block _ (by omega) (hn5 _ (by omega))).trans hc1)) (cell_of_box ((hs5.block _ (by omega) (hn5 _ (by omega))).trans hc2)), _, ret_vi HZ1.out.symm, ?_, ?_⟩
      · rw [HZ2.out]
        refine HI6.out.rd.keep fun b hb => ?_
        have h1 := HHS.out b hb
        have h5 := hs5.size
        exact ⟨⟨by omega, by omega⟩, (hs5.block b (by omega) (hn5 b (by omega))).trans (hst8.block b h1.2 ⟨by omega, by omega⟩)⟩
      · refine (HB1.out.trans (HB3.out.mono (by omega))).trans ((HOLD.out.below (by omega) fun b hb h => ?_).trans ((hst8.below (by omega) fun b hb => ⟨by omega, by omega⟩).trans (hs5.below (by omega) fun b hb => hn5 b (by omega))))
        have := (HTTI.out b h).1
        omega
    case stop =>
      rintro cd pre S' W' hold hS' hsz hpre ⟨rfl, i1, i3, i4⟩ hD
      have hz1 : Lx.formsN x (i : Int) = 2 := by
        unfold Lx.formsN
        rw [if_pos HEV.out, Int.toNat_natCast, ← HN.out, if_pos i1]
      have hz2 : Lx.formsR x (i : Int) = [] := by
        unfold Lx.formsR
        rw [hz1, if_neg (by decide)]
      have HI3 := Lib.hid i3
      have HI4 := Lib.hid i4
      have HD := Lib.hid hD
      have HOLD := Lib.hid hold
      have HZ1 := Lib.hid hz1
      have HZ2 := Lib.hid hz2
      clear hold hS' i3 i4 hD hz1 hz2 hpre
      gi_wp2
      refine leaves_marks [w3.heap.size] W' (by simp) (fun D hD' => by rw [List.mem_singleton.1 hD']; exact HD.out) (fun W5 hs5 => ?_)
      have hn5 : ∀ b, b ≠ w3.heap.size → ¬ b ∈ [w3.heap.size] := fun b h q => h (List.mem_singleton.1 q)
      refine ⟨_, results_two _ _ _ _ _ _ rfl rfl (cell_of_box ((hs5.block _ (by omega) (hn5 _ (by omega))).trans HI3.out)) (cell_of_box ((hs5.block _ (by omega) (hn5 _ (by omega))).trans HI4.out)), _, ret_vi HZ1.out.symm, by rw [HZ2.out]; exact RdG.nil _ _, ?_⟩
      refine (HB1.out.trans (HB3.out.mono (by omega))).trans ((HOLD.out.below (by omega) fun b hb h => ?_).trans (hs5.below (by omega) fun b hb => hn5 b (by omega)))
      have := (HTTI.out b h).1
      omega
  · have hq : (cv == 0) = false := by simp [hz]
    have hq' : (cv != 0) = true := by simp [hz]
    go_wp2_with fail
    have f1 : ((w1.setCell ⟨w.heap.size + 1, 0, none⟩ (.slice none 0 0)).setCell ⟨w.heap.size + 1 + 1, 0, none⟩ (.int .i64 cv)).heap[w.heap.size + 1]? = some (.cells #[.slice none 0 0] 29 (0, 0)) := (Below.heap_setCell _ _ _ _ (by show w.heap.size + 1 ≠ w.heap.size + 1 + 1; omega)).trans (set_box HR1B.out)
    have f2 : ((w1.setCell ⟨w.heap.size + 1, 0, none⟩ (.slice none 0 0)).setCell ⟨w.heap.size + 1 + 1, 0, none⟩ (.int .i64 cv)).heap[w.heap.size + 1 + 1]? = some (.cells #[.int .i64 cv] 30 (0, 0)) := set_box ((Below.heap_setCell _ _ _ _ (by show w.heap.size + 1 + 1 ≠ w.heap.size + 1; omega)).trans HE1B.out)
    have f3 : Lx.formsN x n = cv := by unfold Lx.formsN; rw [HV.out, if_neg hz]
    have f4 : Lx.formsR x n = [] := by unfold Lx.formsR; rw [f3, if_neg hz]
    refine ⟨_, results_two _ _ _ _ _ _ rfl rfl (cell_of_box f1) (cell_of_box f2), _, ret_vi f3.symm, by rw [f4]; exact RdG.nil _ _, (HB1.out.setCell (p := ⟨w.heap.size + 1, 0, none⟩) (by show w.heap.size ≤ w.heap.size + 1; omega) _).setCell (p := ⟨w.heap.size + 1 + 1, 0, none⟩) (by show w.heap.size ≤ w.heap.size + 1 + 1; omega) _⟩
end Go.Proofs.YtpmnpnlfgfleeaaDoor
