/- What the program's ParseGloss builds out of the words of a gloss: plain law. The closures of ParseGloss, slices.IndexFunc with the first of them. Made by gen_parseidx.py. -/
import Derived.Test.YtpmnpnlfgfleeaaGreatDoorMgClos
import Derived.Test.YtpmnpnlfgfleeaaGreatDoorMgGlossLaw
namespace Go.Proofs.YtpmnpnlfgfleeaaGreatDoor
open Go.RowKit

def Lx.pE (k : Int) (nm : ByteArray) : Lx.Ending → Bool := fun v => decide (v.kind = k) && decide (v.name = nm)
def Lx.pC (nm : ByteArray) : Lx.Clitic → Bool := fun v => decide (v.name = nm)
def Lx.progF (x : Lx.Lexicon) (i : Nat) (k : Int) (has : Bool) (nm : ByteArray) (l : List ByteArray) : Lx.Form := ⟨(i : Int), if has = true then idxOf (Lx.pE k nm) x.endings else -1, l.map fun n => idxOf (Lx.pC n) x.clitics⟩
theorem Lx.bytes_eq {a b : ByteArray} (h : a.data.toList = b.data.toList) : a = b := by
  have e : a.data = b.data := Array.toList_inj.1 h
  cases a; cases b; simp only at e; rw [e]
theorem Lx.toList_data (b : ByteArray) : b.toList = b.data.toList := by
  have h : ∀ (k i : Nat) (acc : List UInt8), b.size - i ≤ k → i ≤ b.size → ByteArray.toList.loop b i acc = acc.reverse ++ b.data.toList.drop i := by
    intro k
    induction k with
    | zero =>
      intro i acc hk hi
      rw [ByteArray.toList.loop, if_neg (by omega), List.drop_eq_nil_of_le (by show b.size ≤ i; omega), List.append_nil]
    | succ k ih =>
      intro i acc hk hi
      rw [ByteArray.toList.loop]
      by_cases hlt : i < b.size
      · have hb : i < b.data.toList.length := hlt
        have e : b.get! i = b.data.toList[i]'hb := by
          have hb' : i < b.data.size := hlt
          show b.data[i]! = _
          rw [getElem!_pos b.data i hb', Array.getElem_toList]
        rw [if_pos hlt, ih (i + 1) _ (by omega) (by omega), List.reverse_cons, List.append_assoc, List.drop_eq_getElem_cons hb, e]
        rfl
      · rw [if_neg hlt, List.drop_eq_nil_of_le (by show b.size ≤ i; omega), List.append_nil]
  have := h b.size 0 [] (by omega) (Nat.zero_le _)
  simpa [ByteArray.toList] using this
theorem Lx.toList_ne {a b : ByteArray} (h : a ≠ b) : (a.toList == b.toList) = false := by
  rw [beq_eq_false_iff_ne]
  intro e
  rw [Lx.toList_data, Lx.toList_data] at e
  exact h (Lx.bytes_eq e)
theorem Lx.idx_clit {x : Lx.Lexicon} (h : Lx.checkV x = 0) {c : Int} (hc : 0 ≤ c ∧ c < x.clitics.length) {nm : ByteArray} (hn : nm.data.toList = Lx.clitN x c) : idxOf (Lx.pC nm) x.clitics = c := by
  obtain ⟨g, hg⟩ : ∃ g, x.clitics[c.toNat]? = some g := ⟨_, List.getElem?_eq_getElem (by omega)⟩
  have e1 : Lx.clitN x c = g.name.data.toList := by unfold Lx.clitN; rw [hg]
  have := idxOf_at (p := Lx.pC nm) hg (by unfold Lx.pC; exact decide_eq_true (Lx.bytes_eq (by rw [hn, e1]))) (fun j z hj hz => by
    unfold Lx.pC
    refine decide_eq_false fun e => ?_
    have hl := (List.getElem?_eq_some_iff.1 hz).1
    have e2 : Lx.clitN x (j : Int) = z.name.data.toList := by unfold Lx.clitN; rw [Int.toNat_natCast, hz]
    have := Lx.clitN_inj h (c := (j : Int)) (d := c) ⟨by omega, by omega⟩ hc (by rw [e2, e, hn])
    omega)
  rw [this]
  omega
theorem Lx.idx_end {x : Lx.Lexicon} (h : Lx.checkV x = 0) {p : Nat} {g : Lx.Ending} (hg : x.endings[p]? = some g) {k : Int} (hk : g.kind = k) {nm : ByteArray} (hn : nm.data.toList = g.name.data.toList) : idxOf (Lx.pE k nm) x.endings = (p : Int) := by
  refine idxOf_at (p := Lx.pE k nm) hg ?_ (fun j z hj hz => ?_)
  · unfold Lx.pE
    rw [Bool.and_eq_true]
    exact ⟨decide_eq_true hk, decide_eq_true (Lx.bytes_eq hn.symm)⟩
  · unfold Lx.pE
    rw [← Bool.not_eq_true, Bool.and_eq_true]
    rintro ⟨e1, e2⟩
    have e1 := of_decide_eq_true e1
    have e2 := of_decide_eq_true e2
    have := Lx.endN_uniq h hz hg (by rw [e1, hk]) (by rw [e2, hn])
    omega
theorem Lx.map_idx {x : Lx.Lexicon} (h : Lx.checkV x = 0) : ∀ (l : List ByteArray) (cs : List Int), (∀ c ∈ cs, 0 ≤ c ∧ c < x.clitics.length) → l.map (·.data.toList) = cs.map (Lx.clitN x) → (l.map fun n => idxOf (Lx.pC n) x.clitics) = cs
  | [], [], _, _ => rfl
  | [], c :: r, _, e => by simp at e
  | n :: l, [], _, e => by simp at e
  | n :: l, c :: r, hc, e => by
    simp only [List.map_cons, List.cons.injEq] at e
    rw [List.map_cons, Lx.idx_clit h (hc c (by simp)) e.1, Lx.map_idx h l r (fun d hd => hc d (by simp [hd])) e.2]
theorem Lx.bare_valid {x : Lx.Lexicon} (h : Lx.checkV x = 0) {i : Nat} (hi : i < x.entries.length) : Lx.formV x ⟨(i : Int), -1, []⟩ = 0 :=
  Lx.formV_0 h (Lx.within_iff.2 ⟨by simp, by simp; omega⟩) (Lx.endOK_none rfl) (by simp) rfl
/-- of a gloss that is a valid form's: the words, read asq the program reads them, are this form -/
theorem Lx.progF_eq {x : Lx.Lexicon} {g : Lx.Form} {i : Nat} {e : Lx.Entry} {s : ByteArray} (hg : Lx.formV x g = 0) (hs : Lx.glossV x g = s) (hi : g.entry = (i : Int)) (he : x.entries[i]? = some e) {hd nm w0 : ByteArray} {has : Bool} {l : List ByteArray}
    (hsp : Lib.split s.data.toList [61] = w0.data.toList :: l.map (·.data.toList)) (hcut : Lib.cut w0.data.toList [45] = (hd.data.toList, nm.data.toList, has)) : hd = Lx.glossHead e ∧ Lx.progF x i e.kind has nm l = g := by
  have hv := Lx.valid_of hg
  have he' : x.entries[g.entry.toNat]? = some e := by rw [hi, Int.toNat_natCast]; exact he
  have hok := Lx.good_at (Lx.check_parts hv.chk).2.1 he
  rw [← hs, Lx.gloss_split hg he'] at hsp
  injection hsp with h1 h2
  have hc := Lx.endL_cut (Lx.headL e) (Lx.headL_not hok).2 hv.fin
  rw [h1, hcut] at hc
  have hcl := Lx.map_idx hv.chk l g.clitics (Lx.mem_at hv.cl) h2.symm
  rcases hc with ⟨p1, q1⟩ | ⟨p1, u, hu, q1⟩
  · injection q1 with q1 q2
    injection q2 with q2 q3
    refine ⟨Lx.bytes_eq q1, ?_⟩
    unfold Lx.progF
    rw [hcl, q3, ← hi, if_neg (by simp), ← p1]
  · injection q1 with q1 q2
    injection q2 with q2 q3
    refine ⟨Lx.bytes_eq q1, ?_⟩
    unfold Lx.progF
    rw [hcl, q3, ← hi, if_pos rfl, Lx.idx_end hv.chk hu (Lx.form_end hg he' p1 hu) q2, Int.toNat_of_nonneg p1]
theorem Lx.bare_gloss {x : Lx.Lexicon} {i : Nat} {e : Lx.Entry} (h : Lx.checkV x = 0) (he : x.entries[i]? = some e) : Lx.glossR x ⟨(i : Int), -1, []⟩ = Lx.glossHead e := by
  rw [Lx.glossR_ok (Lx.bare_valid h (List.getElem?_eq_some_iff.1 he).1), Lx.gloss_bare he]
end Go.Proofs.YtpmnpnlfgfleeaaGreatDoor
namespace Go.Proofs.YtpmnpnlfgfleeaaGreatDoor
open Go.RowKit

set_option maxRecDepth 100000 in
theorem ParseGloss1_any (y : Lx.Ending) (k : Int) (nm : ByteArray) (eb nb : Nat) (w : World) (heb : eb < w.heap.size) (hnb : nb < w.heap.size) (h1 : w.cell? ⟨eb, 1, none⟩ = some (.int .i64 k)) (h2 : w.cell? ⟨nb, 0, none⟩ = some (.string nm)) :
    Calls Tryz.prog 37 #[.agg #[.int .i64 y.kind, .string y.text, .string y.name, .int .i64 y.weight], .pointer (some ⟨eb, 0, none⟩), .pointer (some ⟨nb, 0, none⟩)] w (RetBB (Lx.pE k nm y) w) := by
  by_cases e1 : y.kind = k
  · by_cases e2 : y.name = nm
    · have hp : Lx.pE k nm y = true := by simp [Lx.pE, e1, e2]
      rw [hp]
      subst e1 e2
      go_enter Tryz.func37, Tryz.ntmps37
      go_wp2_with fail
      go_ret
      exact ⟨rfl, (Below.refl _ _).alloc (Nat.le_refl _) _⟩
    · have hp : Lx.pE k nm y = false := by simp [Lx.pE, e2]
      rw [hp]
      subst e1
      have e5 : ¬ y.name.toList = nm.toList := by simpa using Lx.toList_ne e2
      clear hp
      go_enter Tryz.func37, Tryz.ntmps37
      go_wp2_with fail
      go_ret
      exact ⟨by simp [e5], (Below.refl _ _).alloc (Nat.le_refl _) _⟩
  · have hp : Lx.pE k nm y = false := by simp [Lx.pE, e1]
    rw [hp]
    clear hp
    go_enter Tryz.func37, Tryz.ntmps37
    go_wp2_with fail
    go_ret
    exact ⟨rfl, (Below.refl _ _).alloc (Nat.le_refl _) _⟩
set_option maxRecDepth 100000 in
theorem ParseGloss2_any (y : Lx.Clitic) (nm : ByteArray) (nb : Nat) (w : World) (hnb : nb < w.heap.size) (h2 : w.cell? ⟨nb, 0, none⟩ = some (.string nm)) :
    Calls Tryz.prog 39 #[.agg #[.string y.text, .string y.name, .int .i64 y.weight], .pointer (some ⟨nb, 0, none⟩)] w (RetBB (Lx.pC nm y) w) := by
  by_cases e2 : y.name = nm
  · have hp : Lx.pC nm y = true := by simp [Lx.pC, e2]
    rw [hp]
    subst e2
    go_enter Tryz.func39, Tryz.ntmps39
    go_wp2_with fail
    go_ret
    exact ⟨rfl, (Below.refl _ _).alloc (Nat.le_refl _) _⟩
  · have hp : Lx.pC nm y = false := by simp [Lx.pC, e2]
    rw [hp]
    have e5 : ¬ y.name.toList = nm.toList := by simpa using Lx.toList_ne e2
    clear hp
    go_enter Tryz.func39, Tryz.ntmps39
    go_wp2_with fail
    go_ret
    exact ⟨by simp [e5], (Below.refl _ _).alloc (Nat.le_refl _) _⟩
set_option maxHeartbeats 400000 in
theorem indexEnding_PG (cap cap2 : Value) (p : Lx.Ending → Bool) (xs : List Lx.Ending) (v : Value) (w : World) (hv : RdS w w.heap.size 4 encEnding v xs)
    (hcall : ∀ (w' : World) (y : Lx.Ending), y ∈ xs → Below w.heap.size w w' → Calls Tryz.prog 37 #[.agg #[.int .i64 y.kind, .string y.text, .string y.name, .int .i64 y.weight], cap, cap2] w' (RetBB (p y) w')) :
    Calls Tryz.prog 36 #[v, .func (.func 37) #[] #[cap, cap2]] w (RetIB (idxOf p xs) w) := by
  obtain ⟨A0, c0, rfl, hl0, hm0, hc0⟩ := hv
  have hn0 : xs.length ≤ 9223372036854775807 := by omega
  have HC := Lib.hid hc0
  have HF := Lib.hid hcall
  clear hc0 hcall hm0
  go_enter Tryz.func36, Tryz.ntmps36
  go_wp2_with fail
  go_loopg [8] xs.length (fun g i wr => ∃ k : Nat, k ≤ xs.length ∧ g = xs.length - k ∧ i = .int .i64 k ∧ Below w.heap.size w wr ∧ ∀ j z, j < k → xs[j]? = some z → p z = false)
  case atStart => exact ⟨0, Nat.zero_le _, rfl, rfl, Below.refl _ _, fun j _ hj => absurd hj (Nat.not_lt_zero j)⟩
  case round =>
    obtain ⟨k, hk, rfl, rfl, hbel, hno⟩ := hrel
    have HB := Lib.hid hbel
    have HN := Lib.hid hno
    clear hbel hno
    by_cases hlt : k < xs.length
    · obtain ⟨b, off, rfl, hb, hcell⟩ := HC.out (by omega)
      obtain ⟨e, he⟩ : ∃ e, xs[k]? = some e := ⟨_, List.getElem?_eq_getElem hlt⟩
      have f0 : wr.cell? ⟨b, off + k * 4, none⟩ = some (.int .i64 e.kind) := (HB.out.cell hb).trans (hcell k e he 0 _ rfl)
      have f1 : wr.cell? ⟨b, off + k * 4 + 1, none⟩ = some (.string e.text) := (HB.out.cell hb).trans (hcell k e he 1 _ rfl)
      have f2 : wr.cell? ⟨b, off + k * 4 + 2, none⟩ = some (.string e.name) := (HB.out.cell hb).trans (hcell k e he 2 _ rfl)
      have f3 : wr.cell? ⟨b, off + k * 4 + 3, none⟩ = some (.int .i64 e.weight) := (HB.out.cell hb).trans (hcell k e he 3 _ rfl)
      have HE := Lib.hid he
      clear he hcell
      go_wp2_with fail
      refine (HF.out wr e (List.mem_of_getElem? HE.out) HB.out).mono ?_
      cases hp : p e
      · have HN2 : Hid (∀ j z, j < k + 1 → xs[j]? = some z → p z = false) := by
          refine Lib.hid (fun j z hj hz => ?_)
          by_cases hjk : j = k
          · subst hjk; rw [HE.out] at hz; cases hz; exact hp
          · exact HN.out j z (by omega) hz
        clear hp
        rintro e1 w1 ⟨rfl, hb1⟩
        have HB1 := Lib.hid hb1
        clear hb1
        go_wp2_with fail
        go_roundg (xs.length - (k + 1))
        case measure => omega
        case rel => exact ⟨k + 1, by omega, rfl, by go_num, HB.out.trans (HB1.out.mono HB.out.size), HN2.out⟩
      · have HI := Lib.hid (idxOf_at HE.out hp HN.out)
        clear hp
        rintro e1 w1 ⟨rfl, hb1⟩
        have HB1 := Lib.hid hb1
        clear hb1
        go_wp2_with fail
        go_ret
        exact ⟨ret_int HI.out.symm, HB.out.trans (HB1.out.mono HB.out.size)⟩
    · have HI := Lib.hid (idxOf_none (p := p) (xs := xs) fun j z hj hz => HN.out j z (by omega) hz)
      go_wp2_with fail
      go_ret
      exact ⟨ret_int HI.out.symm, HB.out⟩
end Go.Proofs.YtpmnpnlfgfleeaaGreatDoor
