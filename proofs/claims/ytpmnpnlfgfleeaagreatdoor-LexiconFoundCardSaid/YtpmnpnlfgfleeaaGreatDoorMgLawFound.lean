/- ostraconlaw05.LexiconFound: the walk. Made by gen_lawfound.py. -/
import Derived.Test.YtpmnpnlfgfleeaaGreatDoorMgFoundPlain
import Derived.Test.YtpmnpnlfgfleeaaGreatDoorMgLawWith
import Derived.Test.YtpmnpnlfgfleeaaGreatDoorMgParse
import Derived.Test.YtpmnpnlfgfleeaaGreatDoorMgApart
import Derived.Test.YtpmnpnlfgfleeaaGreatDoorMgRCheckForm
import Derived.Test.YtpmnpnlfgfleeaaGreatDoorMgRegion4
namespace Go.Proofs.YtpmnpnlfgfleeaaGreatDoor
open Go.RowKit

/-- whether the form is the one, or is among the first k -/
def Lx.fb (b : Bool) (f : Lx.Form) (l : List Lx.Form) (k : Nat) : Bool := b || decide (f ∈ l.take k)
theorem Lx.fb_succ {b : Bool} {f g : Lx.Form} {l : List Lx.Form} {k : Nat} (h : l[k]? = some g) : Lx.fb b f l (k + 1) = (Lx.fb b f l k || decide (g = f)) := by
  obtain ⟨hb, rfl⟩ := List.getElem?_eq_some_iff.1 h
  have e : f ∈ l.take (k + 1) ↔ (f ∈ l.take k ∨ l[k] = f) := by
    rw [List.take_succ_eq_append_getElem hb, List.mem_append, List.mem_singleton]
    exact ⟨fun h => h.imp_right Eq.symm, fun h => h.imp_right Eq.symm⟩
  unfold Lx.fb
  rw [Bool.or_assoc]
  congr 1
  rw [Bool.eq_iff_iff, Bool.or_eq_true, decide_eq_true_eq, decide_eq_true_eq, decide_eq_true_eq]
  exact e
theorem Lx.found_any {x : Lx.Lexicon} {f : Lx.Form} {s : ByteArray} (h : Lx.Found x f s) : Lx.fb (decide (Lx.withN x s = 2)) f (Lx.withR x s) (Lx.withR x s).length = true := by
  unfold Lx.fb
  rcases h.ok with q | q
  · rw [h.all q, List.take_length]
    simp [h.mem]
  · simp [q]
structure FnaR (T0 : Array Value) (W0 : World) (yv fv : Value) (by_ bf : Nat) (f : Lx.Form) (sg : ByteArray) (d : Array Bool) (t : Array Value) (wc : World) : Prop where
  bel : Below W0.heap.size W0 wc
  siz : t.size = 156
  kp : ∀ i, i ∉ ([6, 7, 35, 36, 37, 38, 39, 40, 41] : List Nat) → t[i]? = T0[i]?
  k3 : t[3]? = some (.pointer (some ⟨bf, 0, none⟩))
  k5 : t[5]? = some (.pointer (some ⟨by_, 0, none⟩))
  p0 : dn d 0 → t[36]? = some (yv)
  p1 : dn d 1 → t[37]? = some (fv)
  p2 : dn d 2 → ∃ v, t[38]? = some v ∧ RdF wc wc.heap.size v f
  p3 : dn d 3 → t[39]? = some (.tuple #[.string sg, .int .i64 0])
  p4 : dn d 4 → t[35]? = some (.tuple #[.string sg, .int .i64 0])
  p5 : dn d 5 → t[40]? = some (.string sg)
  p6 : dn d 6 → t[41]? = some (.int .i64 0)
  p7 : dn d 7 → t[6]? = some (.string sg)
  p8 : dn d 8 → t[7]? = some (.int .i64 0)
def FnaI (T0 : Array Value) (W0 : World) (yv fv : Value) (by_ bf : Nat) (f : Lx.Form) (sg : ByteArray) (d : Array Bool) (a : Act) (wc : World) : Prop := ∃ t : Array Value, a = ⟨t, []⟩ ∧ FnaR T0 W0 yv fv by_ bf f sg d t wc
structure FnbR (T0 : Array Value) (W0 : World) (yv fv : Value) (by_ bf : Nat) (f : Lx.Form) (wt : Int) (d : Array Bool) (t : Array Value) (wc : World) : Prop where
  bel : Below W0.heap.size W0 wc
  siz : t.size = 156
  kp : ∀ i, i ∉ ([8, 9, 42, 43, 44, 45, 46, 47, 48] : List Nat) → t[i]? = T0[i]?
  k3 : t[3]? = some (.pointer (some ⟨bf, 0, none⟩))
  k5 : t[5]? = some (.pointer (some ⟨by_, 0, none⟩))
  p0 : dn d 0 → t[43]? = some (yv)
  p1 : dn d 1 → t[44]? = some (fv)
  p2 : dn d 2 → ∃ v, t[45]? = some v ∧ RdF wc wc.heap.size v f
  p3 : dn d 3 → t[46]? = some (.tuple #[.int .i64 wt, .int .i64 0])
  p4 : dn d 4 → t[42]? = some (.tuple #[.int .i64 wt, .int .i64 0])
  p5 : dn d 5 → t[47]? = some (.int .i64 wt)
  p6 : dn d 6 → t[48]? = some (.int .i64 0)
  p7 : dn d 7 → t[8]? = some (.int .i64 wt)
  p8 : dn d 8 → t[9]? = some (.int .i64 0)
def FnbI (T0 : Array Value) (W0 : World) (yv fv : Value) (by_ bf : Nat) (f : Lx.Form) (wt : Int) (d : Array Bool) (a : Act) (wc : World) : Prop := ∃ t : Array Value, a = ⟨t, []⟩ ∧ FnbR T0 W0 yv fv by_ bf f wt d t wc
structure FncR (T0 : Array Value) (W0 : World) (yv fv : Value) (by_ bf : Nat) (f : Lx.Form) (tg : ByteArray) (d : Array Bool) (t : Array Value) (wc : World) : Prop where
  bel : Below W0.heap.size W0 wc
  siz : t.size = 156
  kp : ∀ i, i ∉ ([10, 11, 49, 50, 51, 52, 53, 54, 55] : List Nat) → t[i]? = T0[i]?
  k3 : t[3]? = some (.pointer (some ⟨bf, 0, none⟩))
  k5 : t[5]? = some (.pointer (some ⟨by_, 0, none⟩))
  p0 : dn d 0 → t[50]? = some (yv)
  p1 : dn d 1 → t[51]? = some (fv)
  p2 : dn d 2 → ∃ v, t[52]? = some v ∧ RdF wc wc.heap.size v f
  p3 : dn d 3 → t[53]? = some (.tuple #[.string tg, .int .i64 0])
  p4 : dn d 4 → t[49]? = some (.tuple #[.string tg, .int .i64 0])
  p5 : dn d 5 → t[54]? = some (.string tg)
  p6 : dn d 6 → t[55]? = some (.int .i64 0)
  p7 : dn d 7 → t[10]? = some (.string tg)
  p8 : dn d 8 → t[11]? = some (.int .i64 0)
def FncI (T0 : Array Value) (W0 : World) (yv fv : Value) (by_ bf : Nat) (f : Lx.Form) (tg : ByteArray) (d : Array Bool) (a : Act) (wc : World) : Prop := ∃ t : Array Value, a = ⟨t, []⟩ ∧ FncR T0 W0 yv fv by_ bf f tg d t wc
structure FntR (T0 : Array Value) (W0 : World) (bf : Nat) (Al : Option Addr) (n cl k : Nat) (d : Array Bool) (t : Array Value) (wc : World) : Prop where
  bel : Below W0.heap.size W0 wc
  siz : t.size = 156
  kp : ∀ i, i ∉ ([16, 96, 97, 98, 99, 100, 101, 102, 103, 104] : List Nat) → t[i]? = T0[i]?
  k3 : t[3]? = some (.pointer (some ⟨bf, 0, none⟩))
  k14 : t[14]? = some (.slice Al n cl)
  k17 : t[17]? = some (.int .i64 (k : Int))
  p0 : dn d 0 → t[96]? = some (.bool true)
  p1 : dn d 1 → t[97]? = some (.bool true)
  p2 : dn d 2 → t[98]? = some (undef)
  p3 : dn d 3 → t[99]? = some (undef)
  p4 : dn d 4 → t[100]? = some (undef)
  p5 : dn d 5 → t[101]? = some (undef)
  p6 : dn d 6 → t[102]? = some (undef)
  p7 : dn d 7 → t[103]? = some (undef)
  p8 : dn d 8 → t[104]? = some (.bool true)
  p9 : dn d 9 → t[16]? = some (.bool true)
  kk : ¬ dn d 0 → t[16]? = some (.bool true)
  l1 : dn d 1 → dn d 0
  l8 : dn d 8 → dn d 1
def FntI (T0 : Array Value) (W0 : World) (bf : Nat) (Al : Option Addr) (n cl k : Nat) (d : Array Bool) (a : Act) (wc : World) : Prop := ∃ t : Array Value, a = ⟨t, []⟩ ∧ FntR T0 W0 bf Al n cl k d t wc
structure FnfR (T0 : Array Value) (W0 : World) (fv : Value) (bf bl ol n cl k : Nat) (g : Lx.Form) (sg : Value) (q : Bool) (d : Array Bool) (t : Array Value) (wc : World) : Prop where
  bel : Below W0.heap.size W0 wc
  siz : t.size = 156
  kp : ∀ i, i ∉ ([16, 96, 97, 98, 99, 100, 101, 102, 103, 104] : List Nat) → t[i]? = T0[i]?
  k3 : t[3]? = some (.pointer (some ⟨bf, 0, none⟩))
  k14 : t[14]? = some (.slice (some ⟨bl, ol, none⟩) n cl)
  k17 : t[17]? = some (.int .i64 (k : Int))
  p0 : dn d 0 → t[96]? = some (.bool false)
  p1 : dn d 1 → t[97]? = some (.bool false)
  p2 : dn d 2 → t[98]? = some (.slice (some ⟨bl, ol, none⟩) n cl)
  p3 : dn d 3 → t[99]? = some (.int .i64 (k : Int))
  p4 : dn d 4 → t[100]? = some (.pointer (some ⟨bl, ol + k * 3, none⟩))
  p5 : dn d 5 → t[101]? = some (.agg #[.int .i64 g.entry, .int .i64 g.ending, sg])
  p6 : dn d 6 → t[102]? = some (fv)
  p7 : dn d 7 → t[103]? = some (.bool q)
  p8 : dn d 8 → t[104]? = some (.bool q)
  p9 : dn d 9 → t[16]? = some (.bool q)
  kk : ¬ dn d 0 → t[16]? = some (.bool false)
  l1 : dn d 1 → dn d 0
  l8 : dn d 8 → dn d 1
def FnfI (T0 : Array Value) (W0 : World) (fv : Value) (bf bl ol n cl k : Nat) (g : Lx.Form) (sg : Value) (q : Bool) (d : Array Bool) (a : Act) (wc : World) : Prop := ∃ t : Array Value, a = ⟨t, []⟩ ∧ FnfR T0 W0 fv bf bl ol n cl k g sg q d t wc

set_option maxRecDepth 100000 in
set_option maxHeartbeats 8000000 in
theorem LexiconFound_any (v vf : Value) (x : Lx.Lexicon) (f : Lx.Form) (w : World) (hr : RdL w w.heap.size v x) (hf : RdF w w.heap.size vf f) (hm0 : ∃ m : Int, w.cell? ⟨0, 0, none⟩ = some (.int .i64 m)) :
    Calls Tryz.prog 3 #[v, vf] w (RetBB true w) := by
  obtain ⟨m, hm⟩ := hm0
  have h0lt := cell_lt hm
  have HR := Lib.hid hr
  have HF := Lib.hid hf
  obtain ⟨⟨v0, v1, v2, rfl, ⟨A0, c0, rfl, -⟩, ⟨A1, c1, rfl, -⟩, ⟨A2, c2, rfl, -⟩⟩, -, -, -⟩ := hr
  obtain ⟨⟨sf, rfl, ⟨A3, c3, rfl, hl3, hm3, -⟩⟩⟩ := hf
  have hn3 : f.clitics.length ≤ 9223372036854775807 := by omega
  clear hl3 hm3
  obtain ⟨wA, hwA⟩ : ∃ wA, wA = (w.alloc (.cells #[.slice A0 x.entries.length c0, .slice A1 x.endings.length c1, .slice A2 x.clitics.length c2] 26)).alloc (.cells #[.int .i64 f.entry, .int .i64 f.ending, .slice A3 f.clitics.length c3] 29) := ⟨_, rfl⟩
  have hba : Below w.heap.size w wA := by rw [hwA]; exact ((Below.refl _ _).alloc (Nat.le_refl _) _).alloc (by simp) _
  have hsa : w.heap.size + 1 < wA.heap.size := by rw [hwA]; simp
  have hX : wA.heap[w.heap.size]? = some (.cells #[.slice A0 x.entries.length c0, .slice A1 x.endings.length c1, .slice A2 x.clitics.length c2] 26 (0, 0)) := by rw [hwA]; exact start_fst w _ _
  have hF : wA.heap[w.heap.size + 1]? = some (.cells #[.int .i64 f.entry, .int .i64 f.ending, .slice A3 f.clitics.length c3] 29 (0, 0)) := by rw [hwA]; exact start_res' w _ _
  have BXA : Hid (∀ W, Below wA.heap.size wA W → W.cell? ⟨w.heap.size, 0, none⟩ = some (.slice A0 x.entries.length c0) ∧ W.cell? ⟨w.heap.size, 1, none⟩ = some (.slice A1 x.endings.length c1) ∧ W.cell? ⟨w.heap.size, 2, none⟩ = some (.slice A2 x.clitics.length c2) ∧
      W.cell? ⟨w.heap.size + 1, 0, none⟩ = some (.int .i64 f.entry) ∧ W.cell? ⟨w.heap.size + 1, 1, none⟩ = some (.int .i64 f.ending) ∧ W.cell? ⟨w.heap.size + 1, 2, none⟩ = some (.slice A3 f.clitics.length c3)) := Lib.hid fun W hW => by
    have a := (hW.block w.heap.size (by omega)).trans hX
    have b := (hW.block (w.heap.size + 1) (by omega)).trans hF
    exact ⟨by simp [World.cell?, a], by simp [World.cell?, a], by simp [World.cell?, a], by simp [World.cell?, b], by simp [World.cell?, b], by simp [World.cell?, b]⟩
  have HBA := Lib.hid hba
  have HM : Hid (∀ W, Below wA.heap.size wA W → ∃ m : Int, W.cell? ⟨0, 0, none⟩ = some (.int .i64 m)) := Lib.hid fun W hW => ⟨m, ((hba.trans (hW.mono hba.size)).cell (p := ⟨0, 0, none⟩) h0lt).trans hm⟩
  have HGL := Lib.hid (fun (W : World) (hW : Below wA.heap.size wA W) => rdl_keep' (hba.trans (hW.mono hba.size)) HR.out)
  have HGF := Lib.hid (fun (W : World) (hW : Below wA.heap.size wA W) => rdf_keep' (hba.trans (hW.mono hba.size)) HF.out)
  have HLG := Lib.hid (fun (W : World) (hW : Below wA.heap.size wA W) => Large_any _ x W (HGL.out W hW))
  have HCK := Lib.hid (fun (W : World) (hW : Below wA.heap.size wA W) => rCheckForm_any _ _ x f W (HGL.out W hW) (HGF.out W hW))
  have HWA := Lib.hid hwA
  clear hba hX hF hm hwA
  go_enter Tryz.func3, Tryz.ntmps3
  go_wp2_with fail
  rw [← HWA.out]
  obtain ⟨g0, g1, g2, g3, g4, g5⟩ := BXA.out wA (Below.refl _ _)
  go_wp2_with fail
  refine (HLG.out wA (Below.refl _ _)).mono ?_
  rintro e1 w1 ⟨rfl, hb1⟩
  have H1 := Lib.hid hb1
  clear g0 g1 g2 g3 g4 g5
  obtain ⟨g0, g1, g2, g3, g4, g5⟩ := BXA.out w1 hb1
  clear hb1 HWA
  cases hbig : Lx.largeV x
  · obtain ⟨hs1, hs2, hs3⟩ := Lx.not_big hbig
    clear hbig
    go_wp2_with fail
    refine (HCK.out w1 H1.out).mono ?_
    rintro e2 wc ⟨rfl, hbc⟩
    have H1c := Lib.hid (H1.out.trans (hbc.mono H1.out.size))
    clear hbc g0 g1 g2 g3 g4 g5
    obtain ⟨g0, g1, g2, g3, g4, g5⟩ := BXA.out wc H1c.out
    by_cases hz : Lx.formV x f = 0
    · have HZ := Lib.hid hz
      have hval := Lx.valid_of hz
      have hfd := Lx.found hz
      have HSMF : Hid (FSmall f) := Lib.hid (by
        obtain ⟨t0, t1, t2⟩ := Lx.tooMany_no (Lx.check_parts hval.chk).1
        exact FitsC.small hval.fitsC (by omega) (by omega) (by omega) (by have := hval.fin; omega))
      have hfew := hval.few
      obtain ⟨sg, hsg⟩ : ∃ sg, sg = Lx.saidV x f := ⟨_, rfl⟩
      obtain ⟨wt, hwt⟩ : ∃ wt, wt = Lx.heavyV x f := ⟨_, rfl⟩
      obtain ⟨tg, htg⟩ : ∃ tg, tg = Lx.glossV x f := ⟨_, rfl⟩
      have HFD : Hid (Lx.Found x f sg) := Lib.hid (by rw [hsg]; exact hfd)
      have HWT := Lib.hid hwt
      have HRG : Hid (Lx.ReadG x tg f 0) := Lib.hid (Lx.read_form hz htg)
      have HTGS : Hid (tg.size ≤ 1000) := Lib.hid (by have := Lx.glossV_size hz; rw [htg]; omega)
      have HSGS : Hid (sg.size ≤ 1000) := Lib.hid (by have := (Lx.saidV_all hz).2.1; rw [hsg]; omega)
      rw [hz]
      go_wp2_with fail
      refine (rCopy_any _ x wc (HGL.out wc H1c.out) (by omega) (by omega) (by omega)).mono ?_
      rintro e2 w2 ⟨v2, rfl, hr2, hb2⟩
      obtain ⟨⟨_, _, _, rfl, ⟨B0, d0, rfl, -⟩, ⟨B1, d1, rfl, -⟩, ⟨B2, d2, rfl, -⟩⟩, -, -, -⟩ := id hr2
      have hb2A := H1c.out.trans (hb2.mono H1c.out.size)
      obtain ⟨w3, hw3⟩ : ∃ w3, w3 = w2.alloc (.cells #[.slice B0 x.entries.length d0, .slice B1 x.endings.length d1, .slice B2 x.clitics.length d2] 26) := ⟨_, rfl⟩
      have hb23 : Below w2.heap.size w2 w3 := by rw [hw3]; exact (Below.refl _ _).alloc (Nat.le_refl _) _
      have hs3w : w3.heap.size = w2.heap.size + 1 := by rw [hw3]; simp
      have hX3 : w3.heap[w2.heap.size]? = some (.cells #[.slice B0 x.entries.length d0, .slice B1 x.endings.length d1, .slice B2 x.clitics.length d2] 26 (0, 0)) := by rw [hw3]; exact heap_alloc_new _ _
      have HR3 : Hid (∀ W, Below w3.heap.size w3 W → RdL W W.heap.size (.agg #[.slice B0 x.entries.length d0, .slice B1 x.endings.length d1, .slice B2 x.clitics.length d2]) x) := Lib.hid fun W hW => rdl_keep' (hb23.trans (hW.mono hb23.size)) hr2
      have HA3 : Hid (Below wA.heap.size wA w3) := Lib.hid (hb2A.trans (hb23.mono hb2A.size))
      have H3 : Hid (Below w3.heap.size w3 w3) := Lib.hid (Below.refl _ _)
      have HM3 : Hid (∀ W, Below w3.heap.size w3 W → ∃ m : Int, W.cell? ⟨0, 0, none⟩ = some (.int .i64 m)) := Lib.hid fun W hW => HM.out W (HA3.out.trans (hW.mono HA3.out.size))
      have HF3 : Hid (∀ W, Below w3.heap.size w3 W → RdF W W.heap.size (.agg #[.int .i64 f.entry, .int .i64 f.ending, .slice A3 f.clitics.length c3]) f) := Lib.hid fun W hW => HGF.out W (HA3.out.trans (hW.mono HA3.out.size))
      have CEL : Hid (∀ W, Below w3.heap.size w3 W → W.cell? ⟨w2.heap.size, 0, none⟩ = some (.slice B0 x.entries.length d0) ∧ W.cell? ⟨w2.heap.size, 1, none⟩ = some (.slice B1 x.endings.length d1) ∧ W.cell? ⟨w2.heap.size, 2, none⟩ = some (.slice B2 x.clitics.length d2) ∧
          W.cell? ⟨w.heap.size + 1, 0, none⟩ = some (.int .i64 f.entry) ∧ W.cell? ⟨w.heap.size + 1, 1, none⟩ = some (.int .i64 f.ending) ∧ W.cell? ⟨w.heap.size + 1, 2, none⟩ = some (.slice A3 f.clitics.length c3)) := Lib.hid fun W hW => by
        have a := (hW.block w2.heap.size (by omega)).trans hX3
        obtain ⟨-, -, -, q0, q1, q2⟩ := BXA.out W (HA3.out.trans (hW.mono HA3.out.size))
        exact ⟨by simp [World.cell?, a], by simp [World.cell?, a], by simp [World.cell?, a], q0, q1, q2⟩
      have HCOP : Hid (∀ W, Below w3.heap.size w3 W → Calls Tryz.prog 11 #[.agg #[.int .i64 f.entry, .int .i64 f.ending, .slice A3 f.clitics.length c3]] W (fun e w' => ∃ v', e = .returned v' ∧ RdF w' w'.heap.size v' f ∧ Below W.heap.size W w')) := Lib.hid fun W hW => copied_any _ f W (HF3.out W hW) (by omega)
      have HSND : Hid (∀ W, Below w3.heap.size w3 W → ∀ v, RdF W W.heap.size v f → Calls Tryz.prog 10 #[.agg #[.slice B0 x.entries.length d0, .slice B1 x.endings.length d1, .slice B2 x.clitics.length d2], v] W (RetSI sg 0 W)) := Lib.hid fun W hW v hv => by
        have := Sounds_any _ v x f W (HR3.out W hW) hv
        rw [show Lx.soundsR x f = sg by unfold Lx.soundsR; rw [if_pos HZ.out, hsg], HZ.out] at this
        exact this
      have HWGT : Hid (∀ W, Below w3.heap.size w3 W → ∀ v, RdF W W.heap.size v f → Calls Tryz.prog 12 #[.agg #[.slice B0 x.entries.length d0, .slice B1 x.endings.length d1, .slice B2 x.clitics.length d2], v] W (RetII wt 0 W)) := Lib.hid fun W hW v hv => by
        have := Weight_any _ v x f W (HR3.out W hW) hv
        rw [show Lx.weightR x f = wt by unfold Lx.weightR; rw [if_pos HZ.out, HWT.out], HZ.out] at this
        exact this
      have HGLS : Hid (∀ W, Below w3.heap.size w3 W → ∀ v, RdF W W.heap.size v f → Calls Tryz.prog 13 #[.agg #[.slice B0 x.entries.length d0, .slice B1 x.endings.length d1, .slice B2 x.clitics.length d2], v] W (RetSI tg 0 W)) := Lib.hid fun W hW v hv => by
        have := Gloss_any _ v x f W (HR3.out W hW) hv
        rw [Lx.glossR_ok HZ.out, ← htg, HZ.out] at this
        exact this
      have HW3 := Lib.hid hw3
      clear hb2 hb2A hr2 hw3 hb23 hs3w hX3 g0 g1 g2 g3 g4 g5 hz hval hfd hsg hwt htg hfew
      go_upto_region 4 with fail
      rw [← HW3.out]
      refine wp_region_inv2T (fun T0 => FnaI T0 w3 (.agg #[.slice B0 x.entries.length d0, .slice B1 x.endings.length d1, .slice B2 x.clitics.length d2]) (.agg #[.int .i64 f.entry, .int .i64 f.ending, .slice A3 f.clitics.length c3]) w2.heap.size (w.heap.size + 1) f sg) (by kernel_rfl) (by kernel_rfl) ?g0a ?gstepa ?genda
      case g0a =>
        have hno : ∀ j, ¬ dn (Array.replicate 9 false) j := by
          intro j; unfold dn; by_cases hj : j < 9 <;> simp [Array.getD, hj]
        have na : ∀ {j : Nat} {Z : Prop}, dn (Array.replicate 9 false) j → Z := fun hj => absurd hj (hno _)
        exact ⟨_, rfl, { bel := (Below.refl _ _).drew, siz := rfl, kp := fun _ _ => rfl, k3 := rfl, k5 := rfl, p0 := na, p1 := na, p2 := fun hj => absurd hj (hno _), p3 := na, p4 := na, p5 := na, p6 := na, p7 := na, p8 := na }⟩
      case gstepa =>
        intro T0 d a wc i hd hI hi
        obtain ⟨hlt, hnd, hpre⟩ := mem_ready hi
        have hd' : d.size = 9 := hd
        have hin : i < 9 := hlt
        clear hi hd hlt
        obtain ⟨t, rfl, h⟩ := hI
        have hcs : i = 0 ∨ i = 1 ∨ i = 2 ∨ i = 3 ∨ i = 4 ∨ i = 5 ∨ i = 6 ∨ i = 7 ∨ i = 8 := by omega
        rcases hcs with rfl | rfl | rfl | rfl | rfl | rfl | rfl | rfl | rfl
        · have hi : 0 < d.size := by omega
          have q5 := h.k5
          obtain ⟨m0, m1, m2, m3, m4, m5⟩ := CEL.out wc (H3.out.trans (h.bel.mono H3.out.size))
          refine wpOp_plain rfl rfl ?_
          go_simp
          exact ⟨_, rfl, { bel := h.bel, siz := (by simpa using h.siz), kp := rk h.kp, k3 := rs h.k3, k5 := rs h.k5, p0 := fun _ => set_same (by have := h.siz; omega), p1 := rp hi h.p1, p2 := rc hi h.p2 (fun v h2 => rdf_keep' (Below.refl _ _) h2), p3 := rp hi h.p3, p4 := rp hi h.p4, p5 := rp hi h.p5, p6 := rp hi h.p6, p7 := rp hi h.p7, p8 := rp hi h.p8 }⟩
        · have hi : 1 < d.size := by omega
          have q3 := h.k3
          obtain ⟨m0, m1, m2, m3, m4, m5⟩ := CEL.out wc (H3.out.trans (h.bel.mono H3.out.size))
          refine wpOp_plain rfl rfl ?_
          go_simp
          exact ⟨_, rfl, { bel := h.bel, siz := (by simpa using h.siz), kp := rk h.kp, k3 := rs h.k3, k5 := rs h.k5, p0 := rp hi h.p0, p1 := fun _ => set_same (by have := h.siz; omega), p2 := rc hi h.p2 (fun v h2 => rdf_keep' (Below.refl _ _) h2), p3 := rp hi h.p3, p4 := rp hi h.p4, p5 := rp hi h.p5, p6 := rp hi h.p6, p7 := rp hi h.p7, p8 := rp hi h.p8 }⟩
        · have hi : 2 < d.size := by omega
          have e1 := h.p1 (hpre _ rfl ⟨1, .data⟩ (by simp) rfl)
          refine wpOp_plain rfl rfl ?_
          go_simp
          refine (HCOP.out wc (H3.out.trans (h.bel.mono H3.out.size))).mono ?_
          rintro e1 w1 ⟨v1, rfl, hr1, hb⟩
          exact ⟨_, rfl, { bel := h.bel.trans (hb.mono h.bel.size), siz := (by simpa using h.siz), kp := rk h.kp, k3 := rs h.k3, k5 := rs h.k5, p0 := rp hi h.p0, p1 := rp hi h.p1, p2 := fun _ => ⟨v1, set_same (by have := h.siz; omega), hr1⟩, p3 := rp hi h.p3, p4 := rp hi h.p4, p5 := rp hi h.p5, p6 := rp hi h.p6, p7 := rp hi h.p7, p8 := rp hi h.p8 }⟩
        · have hi : 3 < d.size := by omega
          have e0 := h.p0 (hpre _ rfl ⟨0, .data⟩ (by simp) rfl)
          obtain ⟨v2, e2, r2⟩ := h.p2 (hpre _ rfl ⟨2, .data⟩ (by simp) rfl)
          refine wpOp_plain rfl rfl ?_
          go_simp
          refine (HSND.out wc (H3.out.trans (h.bel.mono H3.out.size)) v2 r2).mono ?_
          rintro e1 w1 ⟨rfl, hb⟩
          exact ⟨_, rfl, { bel := h.bel.trans (hb.mono h.bel.size), siz := (by simpa using h.siz), kp := rk h.kp, k3 := rs h.k3, k5 := rs h.k5, p0 := rp hi h.p0, p1 := rp hi h.p1, p2 := rc hi h.p2 (fun v h2 => rdf_keep' hb h2), p3 := fun _ => set_same (by have := h.siz; omega), p4 := rp hi h.p4, p5 := rp hi h.p5, p6 := rp hi h.p6, p7 := rp hi h.p7, p8 := rp hi h.p8 }⟩
        · have hi : 4 < d.size := by omega
          have e3 := h.p3 (hpre _ rfl ⟨3, .data⟩ (by simp) rfl)
          refine wpOp_plain rfl rfl ?_
          go_simp
          exact ⟨_, rfl, { bel := h.bel, siz := (by simpa using h.siz), kp := rk h.kp, k3 := rs h.k3, k5 := rs h.k5, p0 := rp hi h.p0, p1 := rp hi h.p1, p2 := rc hi h.p2 (fun v h2 => rdf_keep' (Below.refl _ _) h2), p3 := rp hi h.p3, p4 := fun _ => set_same (by have := h.siz; omega), p5 := rp hi h.p5, p6 := rp hi h.p6, p7 := rp hi h.p7, p8 := rp hi h.p8 }⟩
        · have hi : 5 < d.size := by omega
          have e4 := h.p4 (hpre _ rfl ⟨4, .data⟩ (by simp) rfl)
          refine wpOp_plain rfl rfl ?_
          go_simp
          exact ⟨_, rfl, { bel := h.bel, siz := (by simpa using h.siz), kp := rk h.kp, k3 := rs h.k3, k5 := rs h.k5, p0 := rp hi h.p0, p1 := rp hi h.p1, p2 := rc hi h.p2 (fun v h2 => rdf_keep' (Below.refl _ _) h2), p3 := rp hi h.p3, p4 := rp hi h.p4, p5 := fun _ => set_same (by have := h.siz; omega), p6 := rp hi h.p6, p7 := rp hi h.p7, p8 := rp hi h.p8 }⟩
        · have hi : 6 < d.size := by omega
          have e4 := h.p4 (hpre _ rfl ⟨4, .data⟩ (by simp) rfl)
          refine wpOp_plain rfl rfl ?_
          go_simp
          exact ⟨_, rfl, { bel := h.bel, siz := (by simpa using h.siz), kp := rk h.kp, k3 := rs h.k3, k5 := rs h.k5, p0 := rp hi h.p0, p1 := rp hi h.p1, p2 := rc hi h.p2 (fun v h2 => rdf_keep' (Below.refl _ _) h2), p3 := rp hi h.p3, p4 := rp hi h.p4, p5 := rp hi h.p5, p6 := fun _ => set_same (by have := h.siz; omega), p7 := rp hi h.p7, p8 := rp hi h.p8 }⟩
        · have hi : 7 < d.size := by omega
          have e5 := h.p5 (hpre _ rfl ⟨5, .data⟩ (by simp) rfl)
          refine wpOp_plain rfl rfl ?_
          go_simp
          exact ⟨_, rfl, { bel := h.bel, siz := (by simpa using h.siz), kp := rk h.kp, k3 := rs h.k3, k5 := rs h.k5, p0 := rp hi h.p0, p1 := rp hi h.p1, p2 := rc hi h.p2 (fun v h2 => rdf_keep' (Below.refl _ _) h2), p3 := rp hi h.p3, p4 := rp hi h.p4, p5 := rp hi h.p5, p6 := rp hi h.p6, p7 := fun _ => set_same (by have := h.siz; omega), p8 := rp hi h.p8 }⟩
        · have hi : 8 < d.size := by omega
          have e6 := h.p6 (hpre _ rfl ⟨6, .data⟩ (by simp) rfl)
          refine wpOp_plain rfl rfl ?_
          go_simp
          exact ⟨_, rfl, { bel := h.bel, siz := (by simpa using h.siz), kp := rk h.kp, k3 := rs h.k3, k5 := rs h.k5, p0 := rp hi h.p0, p1 := rp hi h.p1, p2 := rc hi h.p2 (fun v h2 => rdf_keep' (Below.refl _ _) h2), p3 := rp hi h.p3, p4 := rp hi h.p4, p5 := rp hi h.p5, p6 := rp hi h.p6, p7 := rp hi h.p7, p8 := fun _ => set_same (by have := h.siz; omega) }⟩
      case genda =>
        intro d a wc hd hI hall
        obtain ⟨t, rfl, h⟩ := hI
        have hdn : ∀ j, j < 9 → dn d j := fun j hj => dn_all hd hall hj
        have hd : ∀ j, (_ : j < 9 := by decide) → dn d j := fun j hj => hdn j hj
        obtain ⟨v2, e2, r2⟩ := h.p2 (hd 2)
        have hfe := frame_eq [(6, _), (7, _), (35, _), (36, _), (37, _), (38, v2), (39, _), (40, _), (41, _)] (h.siz.trans rfl) h.kp rfl ⟨h.p7 (hd 7), h.p8 (hd 8), h.p4 (hd 4), h.p0 (hd 0), h.p1 (hd 1), e2, h.p3 (hd 3), h.p5 (hd 5), h.p6 (hd 6), trivial⟩
        simp only [List.foldl_cons, List.foldl_nil, List.setIfInBounds_toArray, List.set_cons_succ, List.set_cons_zero] at hfe
        have hbc := h.bel
        subst hfe
        clear h hdn hd hall
        have H4 := Lib.hid (H3.out.trans (hbc.mono H3.out.size))
        clear hbc
        rename World => w4
        go_upto_region 5 with fail
        refine wp_region_inv2T (fun T0 => FnbI T0 w4 (.agg #[.slice B0 x.entries.length d0, .slice B1 x.endings.length d1, .slice B2 x.clitics.length d2]) (.agg #[.int .i64 f.entry, .int .i64 f.ending, .slice A3 f.clitics.length c3]) w2.heap.size (w.heap.size + 1) f wt) (by kernel_rfl) (by kernel_rfl) ?g0b ?gstepb ?gendb
        case g0b =>
          have hno : ∀ j, ¬ dn (Array.replicate 9 false) j := by
            intro j; unfold dn; by_cases hj : j < 9 <;> simp [Array.getD, hj]
          have na : ∀ {j : Nat} {Z : Prop}, dn (Array.replicate 9 false) j → Z := fun hj => absurd hj (hno _)
          exact ⟨_, rfl, { bel := (Below.refl _ _).drew, siz := rfl, kp := fun _ _ => rfl, k3 := rfl, k5 := rfl, p0 := na, p1 := na, p2 := fun hj => absurd hj (hno _), p3 := na, p4 := na, p5 := na, p6 := na, p7 := na, p8 := na }⟩
        case gstepb =>
          intro T0 d a wc i hd hI hi
          obtain ⟨hlt, hnd, hpre⟩ := mem_ready hi
          have hd' : d.size = 9 := hd
          have hin : i < 9 := hlt
          clear hi hd hlt
          obtain ⟨t, rfl, h⟩ := hI
          have hcs : i = 0 ∨ i = 1 ∨ i = 2 ∨ i = 3 ∨ i = 4 ∨ i = 5 ∨ i = 6 ∨ i = 7 ∨ i = 8 := by omega
          rcases hcs with rfl | rfl | rfl | rfl | rfl | rfl | rfl | rfl | rfl
          · have hi : 0 < d.size := by omega
            have q5 := h.k5
            obtain ⟨m0, m1, m2, m3, m4, m5⟩ := CEL.out wc (H4.out.trans (h.bel.mono H4.out.size))
            refine wpOp_plain rfl rfl ?_
            go_simp
            exact ⟨_, rfl, { bel := h.bel, siz := (by simpa using h.siz), kp := rk h.kp, k3 := rs h.k3, k5 := rs h.k5, p0 := fun _ => set_same (by have := h.siz; omega), p1 := rp hi h.p1, p2 := rc hi h.p2 (fun v h2 => rdf_keep' (Below.refl _ _) h2), p3 := rp hi h.p3, p4 := rp hi h.p4, p5 := rp hi h.p5, p6 := rp hi h.p6, p7 := rp hi h.p7, p8 := rp hi h.p8 }⟩
          · have hi : 1 < d.size := by omega
            have q3 := h.k3
            obtain ⟨m0, m1, m2, m3, m4, m5⟩ := CEL.out wc (H4.out.trans (h.bel.mono H4.out.size))
            refine wpOp_plain rfl rfl ?_
            go_simp
            exact ⟨_, rfl, { bel := h.bel, siz := (by simpa using h.siz), kp := rk h.kp, k3 := rs h.k3, k5 := rs h.k5, p0 := rp hi h.p0, p1 := fun _ => set_same (by have := h.siz; omega), p2 := rc hi h.p2 (fun v h2 => rdf_keep' (Below.refl _ _) h2), p3 := rp hi h.p3, p4 := rp hi h.p4, p5 := rp hi h.p5, p6 := rp hi h.p6, p7 := rp hi h.p7, p8 := rp hi h.p8 }⟩
          · have hi : 2 < d.size := by omega
            have e1 := h.p1 (hpre _ rfl ⟨1, .data⟩ (by simp) rfl)
            refine wpOp_plain rfl rfl ?_
            go_simp
            refine (HCOP.out wc (H4.out.trans (h.bel.mono H4.out.size))).mono ?_
            rintro e1 w1 ⟨v1, rfl, hr1, hb⟩
            exact ⟨_, rfl, { bel := h.bel.trans (hb.mono h.bel.size), siz := (by simpa using h.siz), kp := rk h.kp, k3 := rs h.k3, k5 := rs h.k5, p0 := rp hi h.p0, p1 := rp hi h.p1, p2 := fun _ => ⟨v1, set_same (by have := h.siz; omega), hr1⟩, p3 := rp hi h.p3, p4 := rp hi h.p4, p5 := rp hi h.p5, p6 := rp hi h.p6, p7 := rp hi h.p7, p8 := rp hi h.p8 }⟩
          · have hi : 3 < d.size := by omega
            have e0 := h.p0 (hpre _ rfl ⟨0, .data⟩ (by simp) rfl)
            obtain ⟨v2, e2, r2⟩ := h.p2 (hpre _ rfl ⟨2, .data⟩ (by simp) rfl)
            refine wpOp_plain rfl rfl ?_
            go_simp
            refine (HWGT.out wc (H4.out.trans (h.bel.mono H4.out.size)) v2 r2).mono ?_
            rintro e1 w1 ⟨rfl, hb⟩
            exact ⟨_, rfl, { bel := h.bel.trans (hb.mono h.bel.size), siz := (by simpa using h.siz), kp := rk h.kp, k3 := rs h.k3, k5 := rs h.k5, p0 := rp hi h.p0, p1 := rp hi h.p1, p2 := rc hi h.p2 (fun v h2 => rdf_keep' hb h2), p3 := fun _ => set_same (by have := h.siz; omega), p4 := rp hi h.p4, p5 := rp hi h.p5, p6 := rp hi h.p6, p7 := rp hi h.p7, p8 := rp hi h.p8 }⟩
          · have hi : 4 < d.size := by omega
            have e3 := h.p3 (hpre _ rfl ⟨3, .data⟩ (by simp) rfl)
            refine wpOp_plain rfl rfl ?_
            go_simp
            exact ⟨_, rfl, { bel := h.bel, siz := (by simpa using h.siz), kp := rk h.kp, k3 := rs h.k3, k5 := rs h.k5, p0 := rp hi h.p0, p1 := rp hi h.p1, p2 := rc hi h.p2 (fun v h2 => rdf_keep' (Below.refl _ _) h2), p3 := rp hi h.p3, p4 := fun _ => set_same (by have := h.siz; omega), p5 := rp hi h.p5, p6 := rp hi h.p6, p7 := rp hi h.p7, p8 := rp hi h.p8 }⟩
          · have hi : 5 < d.size := by omega
            have e4 := h.p4 (hpre _ rfl ⟨4, .data⟩ (by simp) rfl)
            refine wpOp_plain rfl rfl ?_
            go_simp
            exact ⟨_, rfl, { bel := h.bel, siz := (by simpa using h.siz), kp := rk h.kp, k3 := rs h.k3, k5 := rs h.k5, p0 := rp hi h.p0, p1 := rp hi h.p1, p2 := rc hi h.p2 (fun v h2 => rdf_keep' (Below.refl _ _) h2), p3 := rp hi h.p3, p4 := rp hi h.p4, p5 := fun _ => set_same (by have := h.siz; omega), p6 := rp hi h.p6, p7 := rp hi h.p7, p8 := rp hi h.p8 }⟩
          · have hi : 6 < d.size := by omega
            have e4 := h.p4 (hpre _ rfl ⟨4, .data⟩ (by simp) rfl)
            refine wpOp_plain rfl rfl ?_
            go_simp
            exact ⟨_, rfl, { bel := h.bel, siz := (by simpa using h.siz), kp := rk h.kp, k3 := rs h.k3, k5 := rs h.k5, p0 := rp hi h.p0, p1 := rp hi h.p1, p2 := rc hi h.p2 (fun v h2 => rdf_keep' (Below.refl _ _) h2), p3 := rp hi h.p3, p4 := rp hi h.p4, p5 := rp hi h.p5, p6 := fun _ => set_same (by have := h.siz; omega), p7 := rp hi h.p7, p8 := rp hi h.p8 }⟩
          · have hi : 7 < d.size := by omega
            have e5 := h.p5 (hpre _ rfl ⟨5, .data⟩ (by simp) rfl)
            refine wpOp_plain rfl rfl ?_
            go_simp
            exact ⟨_, rfl, { bel := h.bel, siz := (by simpa using h.siz), kp := rk h.kp, k3 := rs h.k3, k5 := rs h.k5, p0 := rp hi h.p0, p1 := rp hi h.p1, p2 := rc hi h.p2 (fun v h2 => rdf_keep' (Below.refl _ _) h2), p3 := rp hi h.p3, p4 := rp hi h.p4, p5 := rp hi h.p5, p6 := rp hi h.p6, p7 := fun _ => set_same (by have := h.siz; omega), p8 := rp hi h.p8 }⟩
          · have hi : 8 < d.size := by omega
            have e6 := h.p6 (hpre _ rfl ⟨6, .data⟩ (by simp) rfl)
            refine wpOp_plain rfl rfl ?_
            go_simp
            exact ⟨_, rfl, { bel := h.bel, siz := (by simpa using h.siz), kp := rk h.kp, k3 := rs h.k3, k5 := rs h.k5, p0 := rp hi h.p0, p1 := rp hi h.p1, p2 := rc hi h.p2 (fun v h2 => rdf_keep' (Below.refl _ _) h2), p3 := rp hi h.p3, p4 := rp hi h.p4, p5 := rp hi h.p5, p6 := rp hi h.p6, p7 := rp hi h.p7, p8 := fun _ => set_same (by have := h.siz; omega) }⟩
        case gendb =>
          intro d a wc hd hI hall
          obtain ⟨t, rfl, h⟩ := hI
          have hdn : ∀ j, j < 9 → dn d j := fun j hj => dn_all hd hall hj
          have hd : ∀ j, (_ : j < 9 := by decide) → dn d j := fun j hj => hdn j hj
          obtain ⟨v2, e2, r2⟩ := h.p2 (hd 2)
          have hfe := frame_eq [(8, _), (9, _), (42, _), (43, _), (44, _), (45, v2), (46, _), (47, _), (48, _)] (h.siz.trans rfl) h.kp rfl ⟨h.p7 (hd 7), h.p8 (hd 8), h.p4 (hd 4), h.p0 (hd 0), h.p1 (hd 1), e2, h.p3 (hd 3), h.p5 (hd 5), h.p6 (hd 6), trivial⟩
          simp only [List.foldl_cons, List.foldl_nil, List.setIfInBounds_toArray, List.set_cons_succ, List.set_cons_zero] at hfe
          have hbc := h.bel
          subst hfe
          clear h hdn hd hall
          have H5 := Lib.hid (H4.out.trans (hbc.mono H4.out.size))
          clear hbc
          rename World => w5
          go_upto_region 6 with fail
          refine wp_region_inv2T (fun T0 => FncI T0 w5 (.agg #[.slice B0 x.entries.length d0, .slice B1 x.endings.length d1, .slice B2 x.clitics.length d2]) (.agg #[.int .i64 f.entry, .int .i64 f.ending, .slice A3 f.clitics.length c3]) w2.heap.size (w.heap.size + 1) f tg) (by kernel_rfl) (by kernel_rfl) ?g0c ?gstepc ?gendc
          case g0c =>
            have hno : ∀ j, ¬ dn (Array.replicate 9 false) j := by
              intro j; unfold dn; by_cases hj : j < 9 <;> simp [Array.getD, hj]
            have na : ∀ {j : Nat} {Z : Prop}, dn (Array.replicate 9 false) j → Z := fun hj => absurd hj (hno _)
            exact ⟨_, rfl, { bel := (Below.refl _ _).drew, siz := rfl, kp := fun _ _ => rfl, k3 := rfl, k5 := rfl, p0 := na, p1 := na, p2 := fun hj => absurd hj (hno _), p3 := na, p4 := na, p5 := na, p6 := na, p7 := na, p8 := na }⟩
          case gstepc =>
            intro T0 d a wc i hd hI hi
            obtain ⟨hlt, hnd, hpre⟩ := mem_ready hi
            have hd' : d.size = 9 := hd
            have hin : i < 9 := hlt
            clear hi hd hlt
            obtain ⟨t, rfl, h⟩ := hI
            have hcs : i = 0 ∨ i = 1 ∨ i = 2 ∨ i = 3 ∨ i = 4 ∨ i = 5 ∨ i = 6 ∨ i = 7 ∨ i = 8 := by omega
            rcases hcs with rfl | rfl | rfl | rfl | rfl | rfl | rfl | rfl | rfl
            · have hi : 0 < d.size := by omega
              have q5 := h.k5
              obtain ⟨m0, m1, m2, m3, m4, m5⟩ := CEL.out wc (H5.out.trans (h.bel.mono H5.out.size))
              refine wpOp_plain rfl rfl ?_
              go_simp
              exact ⟨_, rfl, { bel := h.bel, siz := (by simpa using h.siz), kp := rk h.kp, k3 := rs h.k3, k5 := rs h.k5, p0 := fun _ => set_same (by have := h.siz; omega), p1 := rp hi h.p1, p2 := rc hi h.p2 (fun v h2 => rdf_keep' (Below.refl _ _) h2), p3 := rp hi h.p3, p4 := rp hi h.p4, p5 := rp hi h.p5, p6 := rp hi h.p6, p7 := rp hi h.p7, p8 := rp hi h.p8 }⟩
            · have hi : 1 < d.size := by omega
              have q3 := h.k3
              obtain ⟨m0, m1, m2, m3, m4, m5⟩ := CEL.out wc (H5.out.trans (h.bel.mono H5.out.size))
              refine wpOp_plain rfl rfl ?_
              go_simp
              exact ⟨_, rfl, { bel := h.bel, siz := (by simpa using h.siz), kp := rk h.kp, k3 := rs h.k3, k5 := rs h.k5, p0 := rp hi h.p0, p1 := fun _ => set_same (by have := h.siz; omega), p2 := rc hi h.p2 (fun v h2 => rdf_keep' (Below.refl _ _) h2), p3 := rp hi h.p3, p4 := rp hi h.p4, p5 := rp hi h.p5, p6 := rp hi h.p6, p7 := rp hi h.p7, p8 := rp hi h.p8 }⟩
            · have hi : 2 < d.size := by omega
              have e1 := h.p1 (hpre _ rfl ⟨1, .data⟩ (by simp) rfl)
              refine wpOp_plain rfl rfl ?_
              go_simp
              refine (HCOP.out wc (H5.out.trans (h.bel.mono H5.out.size))).mono ?_
              rintro e1 w1 ⟨v1, rfl, hr1, hb⟩
              exact ⟨_, rfl, { bel := h.bel.trans (hb.mono h.bel.size), siz := (by simpa using h.siz), kp := rk h.kp, k3 := rs h.k3, k5 := rs h.k5, p0 := rp hi h.p0, p1 := rp hi h.p1, p2 := fun _ => ⟨v1, set_same (by have := h.siz; omega), hr1⟩, p3 := rp hi h.p3, p4 := rp hi h.p4, p5 := rp hi h.p5, p6 := rp hi h.p6, p7 := rp hi h.p7, p8 := rp hi h.p8 }⟩
            · have hi : 3 < d.size := by omega
              have e0 := h.p0 (hpre _ rfl ⟨0, .data⟩ (by simp) rfl)
              obtain ⟨v2, e2, r2⟩ := h.p2 (hpre _ rfl ⟨2, .data⟩ (by simp) rfl)
              refine wpOp_plain rfl rfl ?_
              go_simp
              refine (HGLS.out wc (H5.out.trans (h.bel.mono H5.out.size)) v2 r2).mono ?_
              rintro e1 w1 ⟨rfl, hb⟩
              exact ⟨_, rfl, { bel := h.bel.trans (hb.mono h.bel.size), siz := (by simpa using h.siz), kp := rk h.kp, k3 := rs h.k3, k5 := rs h.k5, p0 := rp hi h.p0, p1 := rp hi h.p1, p2 := rc hi h.p2 (fun v h2 => rdf_keep' hb h2), p3 := fun _ => set_same (by have := h.siz; omega), p4 := rp hi h.p4, p5 := rp hi h.p5, p6 := rp hi h.p6, p7 := rp hi h.p7, p8 := rp hi h.p8 }⟩
            · have hi : 4 < d.size := by omega
              have e3 := h.p3 (hpre _ rfl ⟨3, .data⟩ (by simp) rfl)
              refine wpOp_plain rfl rfl ?_
              go_simp
              exact ⟨_, rfl, { bel := h.bel, siz := (by simpa using h.siz), kp := rk h.kp, k3 := rs h.k3, k5 := rs h.k5, p0 := rp hi h.p0, p1 := rp hi h.p1, p2 := rc hi h.p2 (fun v h2 => rdf_keep' (Below.refl _ _) h2), p3 := rp hi h.p3, p4 := fun _ => set_same (by have := h.siz; omega), p5 := rp hi h.p5, p6 := rp hi h.p6, p7 := rp hi h.p7, p8 := rp hi h.p8 }⟩
            · have hi : 5 < d.size := by omega
              have e4 := h.p4 (hpre _ rfl ⟨4, .data⟩ (by simp) rfl)
              refine wpOp_plain rfl rfl ?_
              go_simp
              exact ⟨_, rfl, { bel := h.bel, siz := (by simpa using h.siz), kp := rk h.kp, k3 := rs h.k3, k5 := rs h.k5, p0 := rp hi h.p0, p1 := rp hi h.p1, p2 := rc hi h.p2 (fun v h2 => rdf_keep' (Below.refl _ _) h2), p3 := rp hi h.p3, p4 := rp hi h.p4, p5 := fun _ => set_same (by have := h.siz; omega), p6 := rp hi h.p6, p7 := rp hi h.p7, p8 := rp hi h.p8 }⟩
            · have hi : 6 < d.size := by omega
              have e4 := h.p4 (hpre _ rfl ⟨4, .data⟩ (by simp) rfl)
              refine wpOp_plain rfl rfl ?_
              go_simp
              exact ⟨_, rfl, { bel := h.bel, siz := (by simpa using h.siz), kp := rk h.kp, k3 := rs h.k3, k5 := rs h.k5, p0 := rp hi h.p0, p1 := rp hi h.p1, p2 := rc hi h.p2 (fun v h2 => rdf_keep' (Below.refl _ _) h2), p3 := rp hi h.p3, p4 := rp hi h.p4, p5 := rp hi h.p5, p6 := fun _ => set_same (by have := h.siz; omega), p7 := rp hi h.p7, p8 := rp hi h.p8 }⟩
            · have hi : 7 < d.size := by omega
              have e5 := h.p5 (hpre _ rfl ⟨5, .data⟩ (by simp) rfl)
              refine wpOp_plain rfl rfl ?_
              go_simp
              exact ⟨_, rfl, { bel := h.bel, siz := (by simpa using h.siz), kp := rk h.kp, k3 := rs h.k3, k5 := rs h.k5, p0 := rp hi h.p0, p1 := rp hi h.p1, p2 := rc hi h.p2 (fun v h2 => rdf_keep' (Below.refl _ _) h2), p3 := rp hi h.p3, p4 := rp hi h.p4, p5 := rp hi h.p5, p6 := rp hi h.p6, p7 := fun _ => set_same (by have := h.siz; omega), p8 := rp hi h.p8 }⟩
            · have hi : 8 < d.size := by omega
              have e6 := h.p6 (hpre _ rfl ⟨6, .data⟩ (by simp) rfl)
              refine wpOp_plain rfl rfl ?_
              go_simp
              exact ⟨_, rfl, { bel := h.bel, siz := (by simpa using h.siz), kp := rk h.kp, k3 := rs h.k3, k5 := rs h.k5, p0 := rp hi h.p0, p1 := rp hi h.p1, p2 := rc hi h.p2 (fun v h2 => rdf_keep' (Below.refl _ _) h2), p3 := rp hi h.p3, p4 := rp hi h.p4, p5 := rp hi h.p5, p6 := rp hi h.p6, p7 := rp hi h.p7, p8 := fun _ => set_same (by have := h.siz; omega) }⟩
          case gendc =>
            intro d a wc hd hI hall
            obtain ⟨t, rfl, h⟩ := hI
            have hdn : ∀ j, j < 9 → dn d j := fun j hj => dn_all hd hall hj
            have hd : ∀ j, (_ : j < 9 := by decide) → dn d j := fun j hj => hdn j hj
            obtain ⟨v2, e2, r2⟩ := h.p2 (hd 2)
            have hfe := frame_eq [(10, _), (11, _), (49, _), (50, _), (51, _), (52, v2), (53, _), (54, _), (55, _)] (h.siz.trans rfl) h.kp rfl ⟨h.p7 (hd 7), h.p8 (hd 8), h.p4 (hd 4), h.p0 (hd 0), h.p1 (hd 1), e2, h.p3 (hd 3), h.p5 (hd 5), h.p6 (hd 6), trivial⟩
            simp only [List.foldl_cons, List.foldl_nil, List.setIfInBounds_toArray, List.set_cons_succ, List.set_cons_zero] at hfe
            have hbc := h.bel
            subst hfe
            clear h hdn hd hall
            have H6 := Lib.hid (H5.out.trans (hbc.mono H5.out.size))
            clear hbc
            rename World => w6
            obtain ⟨j0, j1, j2, g3, g4, g5⟩ := CEL.out w6 H6.out
            go_wp2_with fail
            refine (ParseGloss_any _ x tg w6 (HR3.out w6 H6.out) HTGS.out (HM3.out w6 H6.out)).mono ?_
            rintro e7 w7 ⟨_, f1, n1, rfl, hg1, ⟨s1, rfl, hx1⟩, hb7⟩
            obtain ⟨rfl, rfl⟩ := Lx.readG_uniq hg1 HRG.out
            obtain ⟨S1, k1, rfl, -⟩ := id hx1
            obtain ⟨W7, hW7⟩ : ∃ W7, W7 = w7.alloc (.cells #[.int .i64 f1.entry, .int .i64 f1.ending, .slice S1 f1.clitics.length k1] 29) := ⟨_, rfl⟩
            have hb77 : Below w7.heap.size w7 W7 := by rw [hW7]; exact (Below.refl _ _).alloc (Nat.le_refl _) _
            have h77 : w7.heap.size < W7.heap.size := by rw [hW7]; simp
            have hh7 : W7.heap[w7.heap.size]? = some (.cells #[.int .i64 f1.entry, .int .i64 f1.ending, .slice S1 f1.clitics.length k1] 29 (0, 0)) := by rw [hW7]; exact heap_alloc_new _ _
            have H7 := Lib.hid (H6.out.trans ((hb7.trans (hb77.mono hb7.size)).mono H6.out.size))
            have HSF : Hid (Calls Tryz.prog 15 #[.agg #[.int .i64 f1.entry, .int .i64 f1.ending, .slice S1 f1.clitics.length k1], .agg #[.int .i64 f1.entry, .int .i64 f1.ending, .slice A3 f1.clitics.length c3]] W7 (RetBB true W7)) := Lib.hid (by
              have := SameForm_any _ _ f1 f1 W7 ⟨⟨_, rfl, (hx1.keep (w' := W7) (ok' := fun b => b < W7.heap.size) fun b hb => ⟨by omega, hb77.block b hb.1⟩).to fun b hb => hb⟩⟩ (HF3.out W7 H7.out) HSMF.out HSMF.out
              simpa using this)
            have HW7 := Lib.hid hW7
            clear g3 g4 g5 j0 j1 j2 hb7 hb77 hW7 hg1 hx1
            go_upto_region 8 with fail
            rw [← HW7.out]
            obtain ⟨j0, j1, j2, g3, g4, g5⟩ := CEL.out W7 H7.out
            obtain ⟨a0, a1, a2, -, -, -⟩ := form_cells hh7
            go_wp2_with fail
            refine HSF.out.mono ?_
            rintro e8 w8 ⟨rfl, hb8⟩
            have H8 := Lib.hid (H7.out.trans (hb8.mono H7.out.size))
            clear hb8 a0 a1 a2 hh7 j0 j1 j2 g3 g4 g5 HW7
            obtain ⟨j0, j1, j2, g3, g4, g5⟩ := CEL.out w8 H8.out
            go_wp2_with fail
            refine (With_any _ x sg w8 (HR3.out w8 H8.out) HSGS.out).mono ?_
            rintro e9 w9 ⟨v9, rfl, hf9, hb9⟩
            obtain ⟨Al, cl, rfl⟩ := RdG.form hf9
            obtain ⟨jn, hjn⟩ : ∃ jn, jn = Lx.withN x sg := ⟨_, rfl⟩
            obtain ⟨l, hl⟩ : ∃ l, l = Lx.withR x sg := ⟨_, rfl⟩
            have HFR : Hid (Lx.fb (decide (jn = 2)) f1 l l.length = true) := Lib.hid (by rw [hjn, hl]; exact Lx.found_any HFD.out)
            have HJN : Hid (jn = 0 ∨ jn = 2) := Lib.hid (by rw [hjn]; exact HFD.out.ok)
            have HLS : Hid (∀ g ∈ l, FSmall g) := Lib.hid (by rw [hl]; exact Lx.withR_small)
            rw [← hl] at hf9
            rw [← hjn, ← hl]
            obtain ⟨n, hn⟩ : ∃ n, n = l.length := ⟨_, rfl⟩
            have HN := Lib.hid hn
            rw [← hn] at hf9 ⊢
            have hnb : n ≤ 9223372036854775807 := by
              obtain ⟨_, _, q, h1, h2, _⟩ := hf9
              cases q
              omega
            have HF9 := Lib.hid hf9
            have H9 := Lib.hid (H8.out.trans (hb9.mono H8.out.size))
            clear hb9 hf9 hjn hl hn j0 j1 j2 g3 g4 g5
            go_upto_region 11 with fail
            go_cut [16] (fun t wc => t = .bool (Lx.fb (decide (jn = 2)) f1 l 0) ∧ wc = w9)
            case first =>
              rcases HJN.out with rfl | rfl
              · go_wp2_with fail
                go_meet
                go_light
                exact ⟨by simp [Lx.fb], rfl⟩
              · go_wp2_with fail
                go_meet
                go_light
                exact ⟨by simp [Lx.fb], rfl⟩
            case rest =>
              obtain ⟨rfl, hwc⟩ := hcut
              have hwc' := hwc.symm
              subst hwc'
              go_wp2_with fail
              go_loopg [16, 17] n (fun g fv kv wy => ∃ k : Nat, k ≤ n ∧ g = n - k ∧ fv = .bool (Lx.fb (decide (jn = 2)) f1 l k) ∧ kv = .int .i64 k ∧ Below w9.heap.size w9 wy)
              case atStart => exact ⟨0, Nat.zero_le _, rfl, rfl, rfl, Below.refl _ _⟩
              case round =>
                rename World => wy
                obtain ⟨k, hk, rfl, rfl, rfl, hby⟩ := hrel
                have HBY := Lib.hid hby
                by_cases hlk : k < n
                · have hlkI : (k : Int) < (n : Int) := by omega
                  obtain ⟨g, hg⟩ : ∃ g, l[k]? = some g := ⟨_, List.getElem?_eq_getElem (by rw [← HN.out]; exact hlk)⟩
                  have HG := Lib.hid hg
                  cases hfb : Lx.fb (decide (jn = 2)) f1 l k
                  · obtain ⟨bl, ol, hAl, hbl, hcl⟩ := HF9.out.at (by rw [← HN.out]; omega)
                    subst hAl
                    obtain ⟨cs, ⟨sg, rfl, hsv⟩, hcs⟩ := hcl k g hg
                    obtain ⟨Ag, cg, rfl, -⟩ := id hsv
                    have HSM : Hid (∀ W, Below w9.heap.size w9 W → Calls Tryz.prog 15 #[.agg #[.int .i64 g.entry, .int .i64 g.ending, .slice Ag g.clitics.length cg], .agg #[.int .i64 f1.entry, .int .i64 f1.ending, .slice A3 f1.clitics.length c3]] W (RetBB (decide (g = f1)) W)) := Lib.hid fun W hW =>
                      SameForm_any _ _ g f1 W ⟨⟨_, rfl, (hsv.keep (w' := W) (ok' := fun b => b < W.heap.size) fun b hb => ⟨by have := hW.size; omega, hW.block b hb.1⟩).to fun b hb => hb⟩⟩ (HF3.out W (H9.out.trans (hW.mono H9.out.size))) (HLS.out g (List.mem_of_getElem? hg)) HSMF.out
                    have CLK : Hid (∀ W : World, Below w9.heap.size w9 W → W.cell? ⟨w.heap.size + 1, 0, none⟩ = some (.int .i64 f1.entry) ∧ W.cell? ⟨w.heap.size + 1, 1, none⟩ = some (.int .i64 f1.ending) ∧ W.cell? ⟨w.heap.size + 1, 2, none⟩ = some (.slice A3 f1.clitics.length c3) ∧
                        W.cell? ⟨bl, ol + k * 3, none⟩ = some (.int .i64 g.entry) ∧ W.cell? ⟨bl, ol + k * 3 + 1, none⟩ = some (.int .i64 g.ending) ∧ W.cell? ⟨bl, ol + k * 3 + 2, none⟩ = some (.slice Ag g.clitics.length cg)) := Lib.hid fun W hW => by
                      obtain ⟨-, -, -, q0, q1, q2⟩ := CEL.out W (H9.out.trans (hW.mono H9.out.size))
                      exact ⟨q0, q1, q2, (hW.cell (p := ⟨bl, _, none⟩) hbl.1).trans (hcs 0 _ rfl), (hW.cell (p := ⟨bl, _, none⟩) hbl.1).trans (hcs 1 _ rfl), (hW.cell (p := ⟨bl, _, none⟩) hbl.1).trans (hcs 2 _ rfl)⟩
                    clear hby hcl hcs hsv hg
                    go_upto_region 15 with fail
                    refine wp_region_inv2T (fun T0 => FnfI T0 wy (.agg #[.int .i64 f1.entry, .int .i64 f1.ending, .slice A3 f1.clitics.length c3]) (w.heap.size + 1) bl ol n cl k g (.slice Ag g.clitics.length cg) (decide (g = f1))) (by kernel_rfl) (by kernel_rfl) ?g0f ?gstepf ?gendf
                    case g0f =>
                      have hno : ∀ j, ¬ dn (Array.replicate 10 false) j := by
                        intro j; unfold dn; by_cases hj : j < 10 <;> simp [Array.getD, hj]
                      have na : ∀ {j : Nat} {Z : Prop}, dn (Array.replicate 10 false) j → Z := fun hj => absurd hj (hno _)
                      exact ⟨_, rfl, { bel := (Below.refl _ _).drew, siz := rfl, kp := fun _ _ => rfl, k3 := rfl, k14 := rfl, k17 := rfl, p0 := na, p1 := na, p2 := na, p3 := na, p4 := na, p5 := na, p6 := na, p7 := na, p8 := na, p9 := na, kk := fun _ => rfl, l1 := fun hj => absurd hj (hno _), l8 := fun hj => absurd hj (hno _) }⟩
                    case gstepf =>
                      intro T0 d a wc i hd hI hi
                      obtain ⟨hlt, hnd, hpre⟩ := mem_ready hi
                      have hd' : d.size = 10 := hd
                      have hin : i < 10 := hlt
                      clear hi hd hlt
                      obtain ⟨t, rfl, h⟩ := hI
                      have hcs : i = 0 ∨ i = 1 ∨ i = 2 ∨ i = 3 ∨ i = 4 ∨ i = 5 ∨ i = 6 ∨ i = 7 ∨ i = 8 ∨ i = 9 := by omega
                      rcases hcs with rfl | rfl | rfl | rfl | rfl | rfl | rfl | rfl | rfl | rfl
                      · have hi : 0 < d.size := by omega
                        have hnd' := not_dn hi hnd
                        have q16 := h.kk hnd'
                        refine wpOp_plain rfl rfl ?_
                        go_simp
                        exact ⟨_, rfl, { bel := h.bel, siz := (by simpa using h.siz), kp := rk h.kp, k3 := rs h.k3, k14 := rs h.k14, k17 := rs h.k17, kk := fun hk => absurd (dn_self hi) hk, l1 := fun hj => dn_up (h.l1 (dn_of hi hj (by decide))), l8 := fun hj => dn_up (h.l8 (dn_of hi hj (by decide))), p0 := fun _ => set_same (by have := h.siz; omega), p1 := rp hi h.p1, p2 := rp hi h.p2, p3 := rp hi h.p3, p4 := rp hi h.p4, p5 := rp hi h.p5, p6 := rp hi h.p6, p7 := rp hi h.p7, p8 := rp hi h.p8, p9 := rp hi h.p9 }⟩
                      · have hi : 1 < d.size := by omega
                        have d0 : dn d 0 := hpre _ rfl ⟨0, .data⟩ (by simp) rfl
                        have e0 := h.p0 d0
                        refine wpOp_plain rfl rfl ?_
                        go_simp
                        exact ⟨_, rfl, { bel := h.bel, siz := (by simpa using h.siz), kp := rk h.kp, k3 := rs h.k3, k14 := rs h.k14, k17 := rs h.k17, kk := fun hk => (set_other (by decide)).trans (h.kk (fun q => hk (dn_up q))), l1 := fun _ => dn_up d0, l8 := fun hj => dn_up (h.l8 (dn_of hi hj (by decide))), p0 := rp hi h.p0, p1 := fun _ => set_same (by have := h.siz; omega), p2 := rp hi h.p2, p3 := rp hi h.p3, p4 := rp hi h.p4, p5 := rp hi h.p5, p6 := rp hi h.p6, p7 := rp hi h.p7, p8 := rp hi h.p8, p9 := rp hi h.p9 }⟩
                      · have hi : 2 < d.size := by omega
                        have q14 := h.k14
                        refine wpOp_guard rfl (wanted_of (d := 97) rfl rfl (h.p1 (hpre _ rfl ⟨1, .guard⟩ (by simp) rfl))) ?_
                        go_simp
                        exact ⟨_, rfl, { bel := h.bel, siz := (by simpa using h.siz), kp := rk h.kp, k3 := rs h.k3, k14 := rs h.k14, k17 := rs h.k17, kk := fun hk => (set_other (by decide)).trans (h.kk (fun q => hk (dn_up q))), l1 := fun hj => dn_up (h.l1 (dn_of hi hj (by decide))), l8 := fun hj => dn_up (h.l8 (dn_of hi hj (by decide))), p0 := rp hi h.p0, p1 := rp hi h.p1, p2 := fun _ => set_same (by have := h.siz; omega), p3 := rp hi h.p3, p4 := rp hi h.p4, p5 := rp hi h.p5, p6 := rp hi h.p6, p7 := rp hi h.p7, p8 := rp hi h.p8, p9 := rp hi h.p9 }⟩
                      · have hi : 3 < d.size := by omega
                        have q17 := h.k17
                        refine wpOp_guard rfl (wanted_of (d := 97) rfl rfl (h.p1 (hpre _ rfl ⟨1, .guard⟩ (by simp) rfl))) ?_
                        go_simp
                        exact ⟨_, rfl, { bel := h.bel, siz := (by simpa using h.siz), kp := rk h.kp, k3 := rs h.k3, k14 := rs h.k14, k17 := rs h.k17, kk := fun hk => (set_other (by decide)).trans (h.kk (fun q => hk (dn_up q))), l1 := fun hj => dn_up (h.l1 (dn_of hi hj (by decide))), l8 := fun hj => dn_up (h.l8 (dn_of hi hj (by decide))), p0 := rp hi h.p0, p1 := rp hi h.p1, p2 := rp hi h.p2, p3 := fun _ => set_same (by have := h.siz; omega), p4 := rp hi h.p4, p5 := rp hi h.p5, p6 := rp hi h.p6, p7 := rp hi h.p7, p8 := rp hi h.p8, p9 := rp hi h.p9 }⟩
                      · have hi : 4 < d.size := by omega
                        have e2 := h.p2 (hpre _ rfl ⟨2, .data⟩ (by simp) rfl)
                        have e3 := h.p3 (hpre _ rfl ⟨3, .data⟩ (by simp) rfl)
                        have hx1 : (k : Int) < (n : Int) := by omega
                        refine wpOp_guard rfl (wanted_of (d := 97) rfl rfl (h.p1 (hpre _ rfl ⟨1, .guard⟩ (by simp) rfl))) ?_
                        go_simp
                        exact ⟨_, rfl, { bel := h.bel, siz := (by simpa using h.siz), kp := rk h.kp, k3 := rs h.k3, k14 := rs h.k14, k17 := rs h.k17, kk := fun hk => (set_other (by decide)).trans (h.kk (fun q => hk (dn_up q))), l1 := fun hj => dn_up (h.l1 (dn_of hi hj (by decide))), l8 := fun hj => dn_up (h.l8 (dn_of hi hj (by decide))), p0 := rp hi h.p0, p1 := rp hi h.p1, p2 := rp hi h.p2, p3 := rp hi h.p3, p4 := fun _ => set_same (by have := h.siz; omega), p5 := rp hi h.p5, p6 := rp hi h.p6, p7 := rp hi h.p7, p8 := rp hi h.p8, p9 := rp hi h.p9 }⟩
                      · have hi : 5 < d.size := by omega
                        have e4 := h.p4 (hpre _ rfl ⟨4, .data⟩ (by simp) rfl)
                        obtain ⟨m3, m4, m5, l0, l1, l2⟩ := CLK.out wc (HBY.out.trans (h.bel.mono HBY.out.size))
                        refine wpOp_guard rfl (wanted_of (d := 97) rfl rfl (h.p1 (hpre _ rfl ⟨1, .guard⟩ (by simp) rfl))) ?_
                        go_simp
                        exact ⟨_, rfl, { bel := h.bel, siz := (by simpa using h.siz), kp := rk h.kp, k3 := rs h.k3, k14 := rs h.k14, k17 := rs h.k17, kk := fun hk => (set_other (by decide)).trans (h.kk (fun q => hk (dn_up q))), l1 := fun hj => dn_up (h.l1 (dn_of hi hj (by decide))), l8 := fun hj => dn_up (h.l8 (dn_of hi hj (by decide))), p0 := rp hi h.p0, p1 := rp hi h.p1, p2 := rp hi h.p2, p3 := rp hi h.p3, p4 := rp hi h.p4, p5 := fun _ => set_same (by have := h.siz; omega), p6 := rp hi h.p6, p7 := rp hi h.p7, p8 := rp hi h.p8, p9 := rp hi h.p9 }⟩
                      · have hi : 6 < d.size := by omega
                        have q3 := h.k3
                        obtain ⟨m3, m4, m5, l0, l1, l2⟩ := CLK.out wc (HBY.out.trans (h.bel.mono HBY.out.size))
                        refine wpOp_guard rfl (wanted_of (d := 97) rfl rfl (h.p1 (hpre _ rfl ⟨1, .guard⟩ (by simp) rfl))) ?_
                        go_simp
                        exact ⟨_, rfl, { bel := h.bel, siz := (by simpa using h.siz), kp := rk h.kp, k3 := rs h.k3, k14 := rs h.k14, k17 := rs h.k17, kk := fun hk => (set_other (by decide)).trans (h.kk (fun q => hk (dn_up q))), l1 := fun hj => dn_up (h.l1 (dn_of hi hj (by decide))), l8 := fun hj => dn_up (h.l8 (dn_of hi hj (by decide))), p0 := rp hi h.p0, p1 := rp hi h.p1, p2 := rp hi h.p2, p3 := rp hi h.p3, p4 := rp hi h.p4, p5 := rp hi h.p5, p6 := fun _ => set_same (by have := h.siz; omega), p7 := rp hi h.p7, p8 := rp hi h.p8, p9 := rp hi h.p9 }⟩
                      · have hi : 7 < d.size := by omega
                        have e5 := h.p5 (hpre _ rfl ⟨5, .data⟩ (by simp) rfl)
                        have e6 := h.p6 (hpre _ rfl ⟨6, .data⟩ (by simp) rfl)
                        refine wpOp_guard rfl (wanted_of (d := 97) rfl rfl (h.p1 (hpre _ rfl ⟨1, .guard⟩ (by simp) rfl))) ?_
                        go_simp
                        refine (HSM.out wc (HBY.out.trans (h.bel.mono HBY.out.size))).mono ?_
                        rintro e1 w1 ⟨rfl, hb⟩
                        exact ⟨_, rfl, { bel := h.bel.trans (hb.mono h.bel.size), siz := (by simpa using h.siz), kp := rk h.kp, k3 := rs h.k3, k14 := rs h.k14, k17 := rs h.k17, kk := fun hk => (set_other (by decide)).trans (h.kk (fun q => hk (dn_up q))), l1 := fun hj => dn_up (h.l1 (dn_of hi hj (by decide))), l8 := fun hj => dn_up (h.l8 (dn_of hi hj (by decide))), p0 := rp hi h.p0, p1 := rp hi h.p1, p2 := rp hi h.p2, p3 := rp hi h.p3, p4 := rp hi h.p4, p5 := rp hi h.p5, p6 := rp hi h.p6, p7 := fun _ => set_same (by have := h.siz; omega), p8 := rp hi h.p8, p9 := rp hi h.p9 }⟩
                      · have hi : 8 < d.size := by omega
                        have d1 : dn d 1 := hpre _ rfl ⟨1, .data⟩ (by simp) rfl
                        have d7 : dn d 7 := hpre _ rfl ⟨7, .data⟩ (by simp) rfl
                        have e1 := h.p1 d1
                        have e7 := h.p7 d7
                        refine wpOp_plain rfl rfl ?_
                        go_simp
                        exact ⟨_, rfl, { bel := h.bel, siz := (by simpa using h.siz), kp := rk h.kp, k3 := rs h.k3, k14 := rs h.k14, k17 := rs h.k17, kk := fun hk => (set_other (by decide)).trans (h.kk (fun q => hk (dn_up q))), l1 := fun hj => dn_up (h.l1 (dn_of hi hj (by decide))), l8 := fun _ => dn_up d1, p0 := rp hi h.p0, p1 := rp hi h.p1, p2 := rp hi h.p2, p3 := rp hi h.p3, p4 := rp hi h.p4, p5 := rp hi h.p5, p6 := rp hi h.p6, p7 := rp hi h.p7, p8 := fun _ => set_same (by have := h.siz; omega), p9 := rp hi h.p9 }⟩
                      · have hi : 9 < d.size := by omega
                        have d8 : dn d 8 := hpre _ rfl ⟨8, .data⟩ (by simp) rfl
                        have e8 := h.p8 d8
                        refine wpOp_plain rfl rfl ?_
                        go_simp
                        exact ⟨_, rfl, { bel := h.bel, siz := (by simpa using h.siz), kp := rk h.kp, k3 := rs h.k3, k14 := rs h.k14, k17 := rs h.k17, kk := fun hk => absurd (dn_up (h.l1 (h.l8 d8))) hk, l1 := fun hj => dn_up (h.l1 (dn_of hi hj (by decide))), l8 := fun hj => dn_up (h.l8 (dn_of hi hj (by decide))), p0 := rp hi h.p0, p1 := rp hi h.p1, p2 := rp hi h.p2, p3 := rp hi h.p3, p4 := rp hi h.p4, p5 := rp hi h.p5, p6 := rp hi h.p6, p7 := rp hi h.p7, p8 := rp hi h.p8, p9 := fun _ => set_same (by have := h.siz; omega) }⟩
                    case gendf =>
                      intro d a wc hd hI hall
                      obtain ⟨t, rfl, h⟩ := hI
                      have hdn : ∀ j, j < 10 → dn d j := fun j hj => dn_all hd hall hj
                      have hd : ∀ j, (_ : j < 10 := by decide) → dn d j := fun j hj => hdn j hj
                      have hfe := frame_eq [(16, _), (96, _), (97, _), (98, _), (99, _), (100, _), (101, _), (102, _), (103, _), (104, _)] (h.siz.trans rfl) h.kp rfl ⟨h.p9 (hd 9), h.p0 (hd 0), h.p1 (hd 1), h.p2 (hd 2), h.p3 (hd 3), h.p4 (hd 4), h.p5 (hd 5), h.p6 (hd 6), h.p7 (hd 7), h.p8 (hd 8), trivial⟩
                      simp only [List.foldl_cons, List.foldl_nil, List.setIfInBounds_toArray, List.set_cons_succ, List.set_cons_zero] at hfe
                      have hbc := h.bel
                      subst hfe
                      clear h hdn hd hall
                      replace HBY := Lib.hid (HBY.out.trans (hbc.mono HBY.out.size))
                      clear hbc
                      go_wp2_with fail
                      go_roundg (n - (k + 1))
                      case measure => omega
                      case rel => exact ⟨k + 1, by omega, rfl, by rw [Lx.fb_succ HG.out, hfb, Bool.false_or], by go_num, HBY.out⟩
                  · clear hby hg
                    go_upto_region 15 with fail
                    refine wp_region_inv2T (fun T0 => FntI T0 wy (w.heap.size + 1) Al n cl k) (by kernel_rfl) (by kernel_rfl) ?g0t ?gstept ?gendt
                    case g0t =>
                      have hno : ∀ j, ¬ dn (Array.replicate 10 false) j := by
                        intro j; unfold dn; by_cases hj : j < 10 <;> simp [Array.getD, hj]
                      have na : ∀ {j : Nat} {Z : Prop}, dn (Array.replicate 10 false) j → Z := fun hj => absurd hj (hno _)
                      exact ⟨_, rfl, { bel := (Below.refl _ _).drew, siz := rfl, kp := fun _ _ => rfl, k3 := rfl, k14 := rfl, k17 := rfl, p0 := na, p1 := na, p2 := na, p3 := na, p4 := na, p5 := na, p6 := na, p7 := na, p8 := na, p9 := na, kk := fun _ => rfl, l1 := fun hj => absurd hj (hno _), l8 := fun hj => absurd hj (hno _) }⟩
                    case gstept =>
                      intro T0 d a wc i hd hI hi
                      obtain ⟨hlt, hnd, hpre⟩ := mem_ready hi
                      have hd' : d.size = 10 := hd
                      have hin : i < 10 := hlt
                      clear hi hd hlt
                      obtain ⟨t, rfl, h⟩ := hI
                      have hcs : i = 0 ∨ i = 1 ∨ i = 2 ∨ i = 3 ∨ i = 4 ∨ i = 5 ∨ i = 6 ∨ i = 7 ∨ i = 8 ∨ i = 9 := by omega
                      rcases hcs with rfl | rfl | rfl | rfl | rfl | rfl | rfl | rfl | rfl | rfl
                      · have hi : 0 < d.size := by omega
                        have hnd' := not_dn hi hnd
                        have q16 := h.kk hnd'
                        refine wpOp_plain rfl rfl ?_
                        go_simp
                        exact ⟨_, rfl, { bel := h.bel, siz := (by simpa using h.siz), kp := rk h.kp, k3 := rs h.k3, k14 := rs h.k14, k17 := rs h.k17, kk := fun hk => absurd (dn_self hi) hk, l1 := fun hj => dn_up (h.l1 (dn_of hi hj (by decide))), l8 := fun hj => dn_up (h.l8 (dn_of hi hj (by decide))), p0 := fun _ => set_same (by have := h.siz; omega), p1 := rp hi h.p1, p2 := rp hi h.p2, p3 := rp hi h.p3, p4 := rp hi h.p4, p5 := rp hi h.p5, p6 := rp hi h.p6, p7 := rp hi h.p7, p8 := rp hi h.p8, p9 := rp hi h.p9 }⟩
                      · have hi : 1 < d.size := by omega
                        have d0 : dn d 0 := hpre _ rfl ⟨0, .data⟩ (by simp) rfl
                        have e0 := h.p0 d0
                        refine wpOp_plain rfl rfl ?_
                        go_simp
                        exact ⟨_, rfl, { bel := h.bel, siz := (by simpa using h.siz), kp := rk h.kp, k3 := rs h.k3, k14 := rs h.k14, k17 := rs h.k17, kk := fun hk => (set_other (by decide)).trans (h.kk (fun q => hk (dn_up q))), l1 := fun _ => dn_up d0, l8 := fun hj => dn_up (h.l8 (dn_of hi hj (by decide))), p0 := rp hi h.p0, p1 := fun _ => set_same (by have := h.siz; omega), p2 := rp hi h.p2, p3 := rp hi h.p3, p4 := rp hi h.p4, p5 := rp hi h.p5, p6 := rp hi h.p6, p7 := rp hi h.p7, p8 := rp hi h.p8, p9 := rp hi h.p9 }⟩
                      · have hi : 2 < d.size := by omega
                        refine wpOp_idle rfl (unwanted_of (d := 97) rfl rfl (h.p1 (hpre _ rfl ⟨1, .guard⟩ (by simp) rfl)) (by decide)) ?_
                        exact ⟨_, rfl, { bel := h.bel, siz := (by simpa using h.siz), kp := rk h.kp, k3 := rs h.k3, k14 := rs h.k14, k17 := rs h.k17, kk := fun hk => (set_other (by decide)).trans (h.kk (fun q => hk (dn_up q))), l1 := fun hj => dn_up (h.l1 (dn_of hi hj (by decide))), l8 := fun hj => dn_up (h.l8 (dn_of hi hj (by decide))), p0 := rp hi h.p0, p1 := rp hi h.p1, p2 := fun _ => set_same (by have := h.siz; show _ < t.size; omega), p3 := rp hi h.p3, p4 := rp hi h.p4, p5 := rp hi h.p5, p6 := rp hi h.p6, p7 := rp hi h.p7, p8 := rp hi h.p8, p9 := rp hi h.p9 }⟩
                      · have hi : 3 < d.size := by omega
                        refine wpOp_idle rfl (unwanted_of (d := 97) rfl rfl (h.p1 (hpre _ rfl ⟨1, .guard⟩ (by simp) rfl)) (by decide)) ?_
                        exact ⟨_, rfl, { bel := h.bel, siz := (by simpa using h.siz), kp := rk h.kp, k3 := rs h.k3, k14 := rs h.k14, k17 := rs h.k17, kk := fun hk => (set_other (by decide)).trans (h.kk (fun q => hk (dn_up q))), l1 := fun hj => dn_up (h.l1 (dn_of hi hj (by decide))), l8 := fun hj => dn_up (h.l8 (dn_of hi hj (by decide))), p0 := rp hi h.p0, p1 := rp hi h.p1, p2 := rp hi h.p2, p3 := fun _ => set_same (by have := h.siz; show _ < t.size; omega), p4 := rp hi h.p4, p5 := rp hi h.p5, p6 := rp hi h.p6, p7 := rp hi h.p7, p8 := rp hi h.p8, p9 := rp hi h.p9 }⟩
                      · have hi : 4 < d.size := by omega
                        refine wpOp_idle rfl (unwanted_of (d := 97) rfl rfl (h.p1 (hpre _ rfl ⟨1, .guard⟩ (by simp) rfl)) (by decide)) ?_
                        exact ⟨_, rfl, { bel := h.bel, siz := (by simpa using h.siz), kp := rk h.kp, k3 := rs h.k3, k14 := rs h.k14, k17 := rs h.k17, kk := fun hk => (set_other (by decide)).trans (h.kk (fun q => hk (dn_up q))), l1 := fun hj => dn_up (h.l1 (dn_of hi hj (by decide))), l8 := fun hj => dn_up (h.l8 (dn_of hi hj (by decide))), p0 := rp hi h.p0, p1 := rp hi h.p1, p2 := rp hi h.p2, p3 := rp hi h.p3, p4 := fun _ => set_same (by have := h.siz; show _ < t.size; omega), p5 := rp hi h.p5, p6 := rp hi h.p6, p7 := rp hi h.p7, p8 := rp hi h.p8, p9 := rp hi h.p9 }⟩
                      · have hi : 5 < d.size := by omega
                        refine wpOp_idle rfl (unwanted_of (d := 97) rfl rfl (h.p1 (hpre _ rfl ⟨1, .guard⟩ (by simp) rfl)) (by decide)) ?_
                        exact ⟨_, rfl, { bel := h.bel, siz := (by simpa using h.siz), kp := rk h.kp, k3 := rs h.k3, k14 := rs h.k14, k17 := rs h.k17, kk := fun hk => (set_other (by decide)).trans (h.kk (fun q => hk (dn_up q))), l1 := fun hj => dn_up (h.l1 (dn_of hi hj (by decide))), l8 := fun hj => dn_up (h.l8 (dn_of hi hj (by decide))), p0 := rp hi h.p0, p1 := rp hi h.p1, p2 := rp hi h.p2, p3 := rp hi h.p3, p4 := rp hi h.p4, p5 := fun _ => set_same (by have := h.siz; show _ < t.size; omega), p6 := rp hi h.p6, p7 := rp hi h.p7, p8 := rp hi h.p8, p9 := rp hi h.p9 }⟩
                      · have hi : 6 < d.size := by omega
                        refine wpOp_idle rfl (unwanted_of (d := 97) rfl rfl (h.p1 (hpre _ rfl ⟨1, .guard⟩ (by simp) rfl)) (by decide)) ?_
                        exact ⟨_, rfl, { bel := h.bel, siz := (by simpa using h.siz), kp := rk h.kp, k3 := rs h.k3, k14 := rs h.k14, k17 := rs h.k17, kk := fun hk => (set_other (by decide)).trans (h.kk (fun q => hk (dn_up q))), l1 := fun hj => dn_up (h.l1 (dn_of hi hj (by decide))), l8 := fun hj => dn_up (h.l8 (dn_of hi hj (by decide))), p0 := rp hi h.p0, p1 := rp hi h.p1, p2 := rp hi h.p2, p3 := rp hi h.p3, p4 := rp hi h.p4, p5 := rp hi h.p5, p6 := fun _ => set_same (by have := h.siz; show _ < t.size; omega), p7 := rp hi h.p7, p8 := rp hi h.p8, p9 := rp hi h.p9 }⟩
                      · have hi : 7 < d.size := by omega
                        refine wpOp_idle rfl (unwanted_of (d := 97) rfl rfl (h.p1 (hpre _ rfl ⟨1, .guard⟩ (by simp) rfl)) (by decide)) ?_
                        exact ⟨_, rfl, { bel := h.bel, siz := (by simpa using h.siz), kp := rk h.kp, k3 := rs h.k3, k14 := rs h.k14, k17 := rs h.k17, kk := fun hk => (set_other (by decide)).trans (h.kk (fun q => hk (dn_up q))), l1 := fun hj => dn_up (h.l1 (dn_of hi hj (by decide))), l8 := fun hj => dn_up (h.l8 (dn_of hi hj (by decide))), p0 := rp hi h.p0, p1 := rp hi h.p1, p2 := rp hi h.p2, p3 := rp hi h.p3, p4 := rp hi h.p4, p5 := rp hi h.p5, p6 := rp hi h.p6, p7 := fun _ => set_same (by have := h.siz; show _ < t.size; omega), p8 := rp hi h.p8, p9 := rp hi h.p9 }⟩
                      · have hi : 8 < d.size := by omega
                        have d1 : dn d 1 := hpre _ rfl ⟨1, .data⟩ (by simp) rfl
                        have d7 : dn d 7 := hpre _ rfl ⟨7, .data⟩ (by simp) rfl
                        have e1 := h.p1 d1
                        have e7 := h.p7 d7
                        refine wpOp_plain rfl rfl ?_
                        go_simp
                        exact ⟨_, rfl, { bel := h.bel, siz := (by simpa using h.siz), kp := rk h.kp, k3 := rs h.k3, k14 := rs h.k14, k17 := rs h.k17, kk := fun hk => (set_other (by decide)).trans (h.kk (fun q => hk (dn_up q))), l1 := fun hj => dn_up (h.l1 (dn_of hi hj (by decide))), l8 := fun _ => dn_up d1, p0 := rp hi h.p0, p1 := rp hi h.p1, p2 := rp hi h.p2, p3 := rp hi h.p3, p4 := rp hi h.p4, p5 := rp hi h.p5, p6 := rp hi h.p6, p7 := rp hi h.p7, p8 := fun _ => set_same (by have := h.siz; omega), p9 := rp hi h.p9 }⟩
                      · have hi : 9 < d.size := by omega
                        have d8 : dn d 8 := hpre _ rfl ⟨8, .data⟩ (by simp) rfl
                        have e8 := h.p8 d8
                        refine wpOp_plain rfl rfl ?_
                        go_simp
                        exact ⟨_, rfl, { bel := h.bel, siz := (by simpa using h.siz), kp := rk h.kp, k3 := rs h.k3, k14 := rs h.k14, k17 := rs h.k17, kk := fun hk => absurd (dn_up (h.l1 (h.l8 d8))) hk, l1 := fun hj => dn_up (h.l1 (dn_of hi hj (by decide))), l8 := fun hj => dn_up (h.l8 (dn_of hi hj (by decide))), p0 := rp hi h.p0, p1 := rp hi h.p1, p2 := rp hi h.p2, p3 := rp hi h.p3, p4 := rp hi h.p4, p5 := rp hi h.p5, p6 := rp hi h.p6, p7 := rp hi h.p7, p8 := rp hi h.p8, p9 := fun _ => set_same (by have := h.siz; omega) }⟩
                    case gendt =>
                      intro d a wc hd hI hall
                      obtain ⟨t, rfl, h⟩ := hI
                      have hdn : ∀ j, j < 10 → dn d j := fun j hj => dn_all hd hall hj
                      have hd : ∀ j, (_ : j < 10 := by decide) → dn d j := fun j hj => hdn j hj
                      have hfe := frame_eq [(16, _), (96, _), (97, _), (98, _), (99, _), (100, _), (101, _), (102, _), (103, _), (104, _)] (h.siz.trans rfl) h.kp rfl ⟨h.p9 (hd 9), h.p0 (hd 0), h.p1 (hd 1), h.p2 (hd 2), h.p3 (hd 3), h.p4 (hd 4), h.p5 (hd 5), h.p6 (hd 6), h.p7 (hd 7), h.p8 (hd 8), trivial⟩
                      simp only [List.foldl_cons, List.foldl_nil, List.setIfInBounds_toArray, List.set_cons_succ, List.set_cons_zero] at hfe
                      have hbc := h.bel
                      subst hfe
                      clear h hdn hd hall
                      replace HBY := Lib.hid (HBY.out.trans (hbc.mono HBY.out.size))
                      clear hbc
                      go_wp2_with fail
                      go_roundg (n - (k + 1))
                      case measure => omega
                      case rel => exact ⟨k + 1, by omega, rfl, by rw [Lx.fb_succ HG.out, hfb, Bool.true_or], by go_num, HBY.out⟩
                · have hltI : ¬ (k : Int) < (n : Int) := by omega
                  have hkn : k = n := by omega
                  subst hkn
                  have hfr : Lx.fb (decide (jn = 2)) f1 l k = true := by rw [HN.out]; exact HFR.out
                  rw [hfr]
                  clear hby hlk hfr
                  have H10 := Lib.hid (H9.out.trans (HBY.out.mono H9.out.size))
                  obtain ⟨j0, j1, j2, g3, g4, g5⟩ := CEL.out wy H10.out
                  go_wp2_with fail
                  refine (Least_any _ x sg wy (HR3.out wy H10.out) HSGS.out).mono ?_
                  rintro e11 w11 ⟨v11, rfl, ⟨s2, rfl, hx2⟩, hb11⟩
                  obtain ⟨f2, hf2⟩ : ∃ f2, f2 = Lx.leastR x sg := ⟨_, rfl⟩
                  have HF2 : Hid (Lx.formV x f2 = 0 ∧ Lx.heavyV x f2 ≤ wt) := Lib.hid (by rw [hf2, HWT.out]; exact ⟨HFD.out.valid, HFD.out.light⟩)
                  rw [← hf2] at hx2
                  rw [← hf2, HFD.out.least]
                  obtain ⟨S2, k2, rfl, -⟩ := id hx2
                  obtain ⟨W11, hW11⟩ : ∃ W11, W11 = w11.alloc (.cells #[.int .i64 f2.entry, .int .i64 f2.ending, .slice S2 f2.clitics.length k2] 29) := ⟨_, rfl⟩
                  have hb1111 : Below w11.heap.size w11 W11 := by rw [hW11]; exact (Below.refl _ _).alloc (Nat.le_refl _) _
                  have hs1111 : w11.heap.size < W11.heap.size := by rw [hW11]; simp
                  have hh11 : W11.heap[w11.heap.size]? = some (.cells #[.int .i64 f2.entry, .int .i64 f2.ending, .slice S2 f2.clitics.length k2] 29 (0, 0)) := by rw [hW11]; exact heap_alloc_new _ _
                  have H11 := Lib.hid (H10.out.trans ((hb11.trans (hb1111.mono hb11.size)).mono H10.out.size))
                  have HW2 : Hid (Calls Tryz.prog 12 #[.agg #[.slice B0 x.entries.length d0, .slice B1 x.endings.length d1, .slice B2 x.clitics.length d2], .agg #[.int .i64 f2.entry, .int .i64 f2.ending, .slice S2 f2.clitics.length k2]] W11 (RetII (Lx.heavyV x f2) 0 W11)) := Lib.hid (by
                    have := Weight_any _ _ x f2 W11 (HR3.out W11 H11.out) ⟨⟨_, rfl, (hx2.keep (w' := W11) (ok' := fun b => b < W11.heap.size) fun b hb => ⟨by omega, hb1111.block b hb.1⟩).to fun b hb => hb⟩⟩
                    rw [show Lx.weightR x f2 = Lx.heavyV x f2 by unfold Lx.weightR; rw [if_pos HF2.out.1], HF2.out.1] at this
                    exact this)
                  have HW11 := Lib.hid hW11
                  clear hb11 hb1111 hW11 hx2 hf2 j0 j1 j2 g3 g4 g5
                  go_upto_region 17 with fail
                  rw [← HW11.out]
                  obtain ⟨j0, j1, j2, g3, g4, g5⟩ := CEL.out W11 H11.out
                  obtain ⟨a0, a1, a2, -, -, -⟩ := form_cells hh11
                  go_wp2_with fail
                  refine HW2.out.mono ?_
                  rintro e12 w12 ⟨rfl, hb12⟩
                  have H12 := Lib.hid (H11.out.trans (hb12.mono H11.out.size))
                  obtain ⟨wt2, hwt2⟩ : ∃ wt2, wt2 = Lx.heavyV x f2 := ⟨_, rfl⟩
                  rw [← hwt2]
                  have hle2 : wt2 ≤ wt := by rw [hwt2]; exact HF2.out.2
                  clear hb12 a0 a1 a2 hh11 j0 j1 j2 g3 g4 g5 HW11 hwt2
                  obtain ⟨j0, j1, j2, g3, g4, g5⟩ := CEL.out w12 H12.out
                  go_wp2_with fail
                  refine (Ways_any x sg _ w12 (HR3.out w12 H12.out) HSGS.out).mono ?_
                  rintro e13 w13 ⟨rfl, hb13⟩
                  have H13 := Lib.hid (H12.out.trans (hb13.mono H12.out.size))
                  obtain ⟨wn, hwn⟩ : ∃ wn, wn = Lx.wayT (Lx.ats x sg) sg.size sg.size 0 := ⟨_, rfl⟩
                  rw [show Lx.waysV x sg = ((wn : Nat) : Int) by unfold Lx.waysV; rw [if_pos HFD.out.sp, hwn], HFD.out.sp]
                  have hwn1 : (1 : Int) ≤ (wn : Int) := by have := HFD.out.ways; rw [← hwn] at this; omega
                  clear hb13 hwn j0 j1 j2 g3 g4 g5
                  rcases HJN.out with rfl | rfl
                  · go_wp2_with (go_at_call 8; refine (works_any _).mono ?_; rintro e14 w14 ⟨rfl, hb14⟩)
                    go_ret
                    exact ⟨rfl, HBA.out.trans ((HA3.out.trans ((H13.out.trans (hb14.mono H13.out.size)).mono HA3.out.size)).mono HBA.out.size)⟩
                  · go_wp2_with (go_at_call 8; refine (works_any _).mono ?_; rintro e14 w14 ⟨rfl, hb14⟩)
                    go_ret
                    exact ⟨rfl, HBA.out.trans ((HA3.out.trans ((H13.out.trans (hb14.mono H13.out.size)).mono HA3.out.size)).mono HBA.out.size)⟩
    · generalize hcn : Lx.formV x f = cn at *
      have hq : (cn == 0) = false := by simp [hz]
      have hq' : (cn != 0) = true := by simp [hz]
      clear hcn
      go_wp2_with (go_at_call 8; refine (works_any _).mono ?_; rintro e9 w9 ⟨rfl, hb9⟩)
      go_ret
      exact ⟨rfl, HBA.out.trans ((H1c.out.trans (hb9.mono H1c.out.size)).mono HBA.out.size)⟩
  · clear hbig
    go_wp2_with (go_at_call 8; refine (works_any _).mono ?_; rintro e2 w2 ⟨rfl, hb2⟩)
    go_ret
    exact ⟨rfl, HBA.out.trans ((H1.out.trans (hb2.mono H1.out.size)).mono HBA.out.size)⟩
end Go.Proofs.YtpmnpnlfgfleeaaGreatDoor
