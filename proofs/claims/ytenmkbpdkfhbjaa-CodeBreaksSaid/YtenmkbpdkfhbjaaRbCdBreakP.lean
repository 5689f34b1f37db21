/- code.written, code.Write: a text in a code.; ostraconlaw03.works: a look at an example.; What Read says of its errors; what is read can be written: plain law.; Where a string breaks that is no text: plain law over Read. -/
import Derived.Test.YtenmkbpdkfhbjaaRbCdRWord
import Derived.Test.YtenmkbpdkfhbjaaRbCLacks
import Derived.Test.YtenmkbpdkfhbjaaRbCdSize
import Derived.Test.YtenmkbpdkfhbjaaRbCdLocal
import Derived.Test.YtenmkbpdkfhbjaaRbCdWrP
namespace Go.Proofs.Ytenmkbpdkfhbjaa
open Go Go.RowKit

/-- code.written, for a valid text -/
theorem written_any (kind : Int) (hk : kind = 1 ∨ kind = 2) (L : Sg.SList) (ns : List Tx.Node) (vl : Value) (w : World) (A : Option Addr) (c : Nat) (hl : RdSL w w.heap.size vl L) (h : RdN w w.heap.size (.slice A ns.length c) ns) (hv : Cd.Valid L ns) (hn : ns.length ≤ 1000) :
    Calls Try.prog 18 #[coderV kind, vl, .agg #[.slice A ns.length c]] w (RetSt (Cd.writeV kind L ns) w) := by
  have hLc := codes_fine hv.list
  rcases hk with rfl | rfl
  · exact written_go 1 58 55 (fun _ => by kernel_rfl) (enters_of Try.func55 (by kernel_rfl) rfl) L ns vl w A c hl h hv hn fun B b d xs A c W q1 q2 q3 q4 q5 q6 => by
      have := lc_write_any L vl B b d hLc xs A c [] W q1 q2 q3 q4 q5 (by unfold WrOf at q6; rw [if_pos rfl] at q6; simpa using q6)
      unfold WrOf
      rw [if_pos rfl]
      exact this
  · exact written_go 2 59 94 (fun _ => by kernel_rfl) (enters_of Try.func94 (by kernel_rfl) rfl) L ns vl w A c hl h hv hn fun B b d xs A c W q1 q2 q3 q4 q5 q6 => by
      have := tw_any L vl B b hLc d xs A c [] W q1 q2 q3 q4 q5 (by unfold WrOf at q6; rw [if_neg (by decide)] at q6; simpa using q6)
      unfold WrOf
      rw [if_neg (by decide)]
      exact this
/-- what Write answers -/
def Cd.writeQ (kind : Int) (l : Sg.SList) (ns : List Tx.Node) : List UInt8 × Int := if Cd.lacksE kind l ns ≠ 0 then ([], Cd.lacksE kind l ns) else if Cd.lacksV kind ns ≠ [] then ([], 30) else (Cd.writeV kind l ns, 0)
def RetWt (q : List UInt8 × Int) (w : World) (e : Ending) (w' : World) : Prop := e = .returned (.tuple #[.string (Cd.bs q.1), .int .i64 q.2]) ∧ Below w.heap.size w w'
set_option maxRecDepth 100000 in
set_option maxHeartbeats 16000000 in
/-- code.Write -/
theorem Write_any (kind : Int) (l : Sg.SList) (ns : List Tx.Node) (vl : Value) (w : World) (A : Option Addr) (c : Nat) (hl : RdSL w w.heap.size vl l) (h : RdN w w.heap.size (.slice A ns.length c) ns) :
    Calls Try.prog 9 #[.int .i64 kind, vl, .agg #[.slice A ns.length c]] w (RetWt (Cd.writeQ kind l ns) w) := by
  have HL := Lib.hid hl
  have HR := Lib.hid h
  obtain ⟨⟨us, rfl, hsg⟩, -⟩ := hl
  obtain ⟨As, cs, rfl, -⟩ := id hsg
  obtain ⟨Z, hZ⟩ : ∃ Z, Z = w.heap.size := ⟨_, rfl⟩
  have HZ := Lib.hid hZ
  clear hsg h hZ
  go_enter Try.func9, Try.ntmps9
  go_wp2_with fail
  rw [← HZ.out]
  refine at_worldF ?_
  intro WL hWL
  have hbl : Below Z w WL := by rw [hWL, HZ.out]; exact ((Below.refl _ _).alloc (Nat.le_refl _) _).alloc (by simp) _
  have hsz : WL.heap.size = Z + 2 := by rw [hWL, HZ.out]; simp
  have b0 : WL.heap[Z]? = some (.cells #[.int .i64 l.periods, .slice As l.signs.length cs] 24 (0, 0)) := by rw [hWL, HZ.out]; exact heap_alloc2_old _ _ _
  have b1 : WL.heap[Z + 1]? = some (.cells #[.slice A ns.length c] 32 (0, 0)) := by rw [hWL, HZ.out]; exact heap_alloc2_new _ _ _
  have HBL := Lib.hid hbl
  have HB0 := Lib.hid b0
  have HB1 := Lib.hid b1
  have hbw : Below w.heap.size w WL := by rw [← HZ.out]; exact hbl
  have HLK := Lib.hid (Lacks_any kind l ns _ WL A c (HL.out.keep hbw.size hbw) ((HR.out.below hbw).more hbw.size))
  have HSZ := Lib.hid hsz
  clear hWL hbl hsz b0 b1 hbw
  refine HLK.out.mono ?_
  rintro e w1 ⟨A1, c1, rfl, hb1, ho1⟩
  have hz1 : Z + 2 ≤ w1.heap.size := by have := hb1.size; have := HSZ.out; omega
  have HBW := Lib.hid (HBL.out.trans (hb1.mono (by have := HSZ.out; omega)))
  have x0 := (hb1.block Z (by have := HSZ.out; omega)).trans HB0.out
  have x1 := (hb1.block (Z + 1) (by have := HSZ.out; omega)).trans HB1.out
  have HX0 := Lib.hid x0
  have HX1 := Lib.hid x1
  clear hb1 ho1 x0 x1 HLK
  by_cases h0 : Cd.lacksE kind l ns = 0
  case neg =>
    have HQ : Hid (Cd.writeQ kind l ns = ([], Cd.lacksE kind l ns)) := Lib.hid (by unfold Cd.writeQ; rw [if_pos h0])
    have hq : Cd.lacksQ kind l ns = ([], Cd.lacksE kind l ns) := by unfold Cd.lacksQ; rw [if_pos h0]
    obtain ⟨ev, hev⟩ : ∃ ev, ev = Cd.lacksE kind l ns := ⟨_, rfl⟩
    rw [hq]
    rw [← hev] at h0 HQ ⊢
    have t0 : (ev == 0) = false := by simp [h0]
    have t0' : (ev != 0) = true := by simp [h0]
    have HRES : Hid (RetWt (Cd.writeQ kind l ns) w (.returned (.tuple #[.string ⟨#[]⟩, .int .i64 ev])) w1) := Lib.hid ⟨by rw [HQ.out]; rfl, by rw [← HZ.out]; exact HBW.out⟩
    clear h0 hq hev
    go_wp2_with fail
    refine bodyPost_ret (results_tmp2 rfl _ _ _) rfl ?_
    exact HRES.out
  have hq : Cd.lacksQ kind l ns = (Cd.lacksV kind ns, 0) := by unfold Cd.lacksQ; rw [if_neg (by simpa using h0)]
  rw [hq]
  obtain ⟨ls, hls⟩ : ∃ ls, ls = Cd.lacksV kind ns := ⟨_, rfl⟩
  rw [← hls]
  by_cases h1 : ls = []
  case neg =>
    have HQ : Hid (Cd.writeQ kind l ns = ([], 30)) := Lib.hid (by unfold Cd.writeQ; rw [if_neg (by simpa using h0), if_pos (by rw [← hls]; exact h1)])
    have hln : (0 : Int) < (ls.length : Int) := by have := List.length_pos_iff.2 h1; omega
    have HRES : Hid (RetWt (Cd.writeQ kind l ns) w (.returned (.tuple #[.string ⟨#[]⟩, .int .i64 30])) w1) := Lib.hid ⟨by rw [HQ.out]; rfl, by rw [← HZ.out]; exact HBW.out⟩
    clear h0 hq hls h1
    go_wp2_with fail
    refine bodyPost_ret (results_tmp2 rfl _ _ _) rfl ?_
    exact HRES.out
  have hk : kind = 1 ∨ kind = 2 := by
    unfold Cd.lacksE at h0
    by_cases hk : kind ≠ 1 ∧ kind ≠ 2
    · rw [if_pos hk] at h0
      exact absurd h0 (by decide)
    · omega
  have hc : Tx.checkT l ns = 0 := by
    unfold Cd.lacksE at h0
    rwa [if_neg (by omega)] at h0
  have HQ : Hid (Cd.writeQ kind l ns = (Cd.writeV kind l ns, 0)) := Lib.hid (by unfold Cd.writeQ; rw [if_neg (by simpa using h0), if_neg (by rw [← hls]; simpa using h1)])
  have HV := Lib.hid (Cd.valid_of hc)
  have HCO : Hid (∀ W, Calls Try.prog 10 #[.int .i64 kind] W (fun e w' => e = .returned (.tuple #[coderV kind, .int .i64 0]) ∧ w' = W)) := Lib.hid fun W => by
    have := coderOf_any kind W
    rwa [show coderE kind = 0 from if_pos hk] at this
  have hbz := HBW.out
  have HWT : Hid (Calls Try.prog 18 #[coderV kind, .agg #[.int .i64 l.periods, .slice As l.signs.length cs], .agg #[.slice A ns.length c]] w1 (RetSt (Cd.writeV kind l ns) w1)) := Lib.hid (by
    rw [HZ.out] at hbz
    exact written_any kind hk l ns _ w1 A c (HL.out.keep hbz.size hbz) ((HR.out.below hbz).more hbz.size) HV.out.1 (by have := HV.out.2; omega))
  have HRES : Hid (∀ W', Below w1.heap.size w1 W' → RetWt (Cd.writeQ kind l ns) w (.returned (.tuple #[.string (Cd.bs (Cd.writeV kind l ns)), .int .i64 0])) W') := Lib.hid fun W' q => ⟨by rw [HQ.out], by rw [← HZ.out]; exact HBW.out.trans (q.mono (by omega))⟩
  obtain ⟨t, ht⟩ : ∃ t, t = Cd.writeV kind l ns := ⟨_, rfl⟩
  rw [← ht] at HWT HRES
  obtain ⟨cv, hcv⟩ : ∃ cv, cv = coderV kind := ⟨_, rfl⟩
  rw [← hcv] at HCO HWT
  subst h1
  obtain ⟨y0, y1⟩ := box2_cells HX0.out
  have y2 := bx_cell HX1.out
  clear h0 hq hls hc hk hbz ht hcv
  simp only [List.length_nil]
  go_wp2_with fail
  refine (HCO.out _).mono ?_
  rintro e w2 ⟨rfl, rfl⟩
  go_wp2_with fail
  refine HWT.out.mono ?_
  rintro e w3 ⟨rfl, hb3⟩
  have HB3 := Lib.hid hb3
  clear hb3
  go_wp2_with fail
  refine bodyPost_ret (results_tmp2 rfl _ _ _) rfl ?_
  exact HRES.out w3 HB3.out
end Go.Proofs.Ytenmkbpdkfhbjaa
namespace Cd
def exL : Sg.SList := ⟨1, [⟨⟨#[65, 49]⟩, 1, 1, false, []⟩, ⟨⟨#[66, 50]⟩, 1, 1, false, []⟩, ⟨⟨#[67, 51]⟩, 1, 1, false, []⟩]⟩
def exS : ByteArray := ⟨#[65, 49, 42, 40, 66, 50, 58, 67, 51, 41]⟩
def exN : List Tx.Node := [⟨2, 0, 0, 0, false, 0, 0, 0⟩, ⟨1, 1, 0, 0, false, 0, 0, 0⟩, ⟨3, 1, 0, 0, false, 0, 0, 0⟩, ⟨1, 2, 1, 0, false, 0, 0, 0⟩, ⟨1, 2, 2, 0, false, 0, 0, 0⟩]
theorem ex_read : readV 1 exL exS.data.toList = (exN, 0, 0) := by kernel_rfl
end Cd
namespace Go.Proofs.Ytenmkbpdkfhbjaa
open Go Go.RowKit

theorem ex_write : Cd.writeQ 2 Cd.exL Cd.exN = ([40, 98, 101, 115, 105, 100, 101, 32, 65, 49, 32, 40, 97, 98, 111, 118, 101, 32, 66, 50, 32, 67, 51, 41, 41], 0) := by kernel_rfl
set_option maxRecDepth 100000 in
set_option maxHeartbeats 8000000 in
theorem works3_any (w : World) : Calls Try.prog 5 #[] w (RetBB true w) := by
  obtain ⟨Z, hZ⟩ : ∃ Z, Z = w.heap.size := ⟨_, rfl⟩
  have HZ := Lib.hid hZ
  obtain ⟨W2, hW2⟩ : ∃ W2, W2 = (w.alloc (.cells #[.string ⟨#[65, 49]⟩, .int .i64 1, .int .i64 1, .bool false, .slice none 0 0, .string ⟨#[66, 50]⟩, .int .i64 1, .int .i64 1, .bool false, .slice none 0 0, .string ⟨#[67, 51]⟩, .int .i64 1, .int .i64 1, .bool false, .slice none 0 0] 39)).alloc (.cells #[.int .i64 1, .slice (some ⟨Z, 0, none⟩) 3 3] 24) := ⟨_, rfl⟩
  have hbl : Below Z w W2 := by rw [hW2, hZ]; exact ((Below.refl _ _).alloc (Nat.le_refl _) _).alloc (by simp) _
  have hsz : W2.heap.size = Z + 2 := by rw [hW2, hZ]; simp
  have b0 : W2.heap[Z]? = some (.cells #[.string ⟨#[65, 49]⟩, .int .i64 1, .int .i64 1, .bool false, .slice none 0 0, .string ⟨#[66, 50]⟩, .int .i64 1, .int .i64 1, .bool false, .slice none 0 0, .string ⟨#[67, 51]⟩, .int .i64 1, .int .i64 1, .bool false, .slice none 0 0] 39 (0, 0)) := by rw [hW2, hZ]; exact heap_alloc2_old _ _ _
  have b1 : W2.heap[Z + 1]? = some (.cells #[.int .i64 1, .slice (some ⟨Z, 0, none⟩) 3 3] 24 (0, 0)) := by rw [hW2, hZ]; exact heap_alloc2_new _ _ _
  have hrl : RdSL W2 W2.heap.size (.agg #[.int .i64 1, .slice (some ⟨Z, 0, none⟩) 3 3]) Cd.exL := by
    refine ⟨⟨_, rfl, ⟨some ⟨Z, 0, none⟩, 3, rfl, Nat.le_refl _, by decide, fun _ => ⟨Z, 0, rfl, by omega, fun i a hi => ?_⟩⟩⟩, ?_⟩
    · have hnil : ∀ ok : Nat → Prop, RdX W2 ok 4 encValue (.slice none 0 0) ([] : List Sg.Value) := fun ok => ⟨none, 0, rfl, by simp, by omega, fun h => absurd h (by simp)⟩
      match i, hi with
      | 0, hi =>
        cases hi
        exact ⟨_, ⟨.slice none 0 0, rfl, hnil _⟩, fun j u hj => by
          match j, hj with
          | 0, hj => cases hj; simp [World.cell?, b0, KSign]
          | 1, hj => cases hj; simp [World.cell?, b0, KSign]
          | 2, hj => cases hj; simp [World.cell?, b0, KSign]
          | 3, hj => cases hj; simp [World.cell?, b0, KSign]
          | 4, hj => cases hj; simp [World.cell?, b0, KSign]
          | j + 5, hj => simp at hj⟩
      | 1, hi =>
        cases hi
        exact ⟨_, ⟨.slice none 0 0, rfl, hnil _⟩, fun j u hj => by
          match j, hj with
          | 0, hj => cases hj; simp [World.cell?, b0, KSign]
          | 1, hj => cases hj; simp [World.cell?, b0, KSign]
          | 2, hj => cases hj; simp [World.cell?, b0, KSign]
          | 3, hj => cases hj; simp [World.cell?, b0, KSign]
          | 4, hj => cases hj; simp [World.cell?, b0, KSign]
          | j + 5, hj => simp at hj⟩
      | 2, hi =>
        cases hi
        exact ⟨_, ⟨.slice none 0 0, rfl, hnil _⟩, fun j u hj => by
          match j, hj with
          | 0, hj => cases hj; simp [World.cell?, b0, KSign]
          | 1, hj => cases hj; simp [World.cell?, b0, KSign]
          | 2, hj => cases hj; simp [World.cell?, b0, KSign]
          | 3, hj => cases hj; simp [World.cell?, b0, KSign]
          | 4, hj => cases hj; simp [World.cell?, b0, KSign]
          | j + 5, hj => simp at hj⟩
      | i + 3, hi => simp [Cd.exL] at hi
    · intro s hs
      simp [Cd.exL] at hs
      rcases hs with rfl | rfl | rfl <;> exact ⟨by decide, fun v hv => by cases hv⟩
  have HRL := Lib.hid hrl
  have HRD : Hid (Calls Try.prog 7 #[.int .i64 1, .agg #[.int .i64 1, .slice (some ⟨Z, 0, none⟩) 3 3], .string ⟨#[65, 49, 42, 40, 66, 50, 58, 67, 51, 41]⟩] W2 (RetRead (Cd.exN, 0, 0) W2)) := Lib.hid (by
    have := Read_any 1 Cd.exL (.agg #[.int .i64 1, .slice (some ⟨Z, 0, none⟩) 3 3]) Cd.exS (by decide) W2 hrl
    rw [Cd.ex_read] at this
    exact this)
  have HW2 := Lib.hid hW2
  have HBL := Lib.hid hbl
  have HB1 := Lib.hid b1
  have HSZ := Lib.hid hsz
  obtain ⟨x0, x1⟩ := box2_cells b1
  clear hW2 hbl hsz b0 b1 hrl hZ
  go_enter Try.func5, Try.ntmps5
  go_upto_region 2 with fail
  rw [← HZ.out, ← HW2.out]
  go_wp2_with fail
  refine HRD.out.mono ?_
  rintro e w3 ⟨A3, c3, rfl, hb3, ho3⟩
  have hz3 : Z + 2 ≤ w3.heap.size := by have := hb3.size; have := HSZ.out; omega
  have HB3 := Lib.hid (HBL.out.trans (hb3.mono (by have := HSZ.out; omega)))
  have c1 := (hb3.block (Z + 1) (by have := HSZ.out; omega)).trans HB1.out
  have HC1 := Lib.hid c1
  have HR3 := Lib.hid (rds_of_own len_node ho3)
  have HL3 := Lib.hid (HRL.out.keep hb3.size hb3)
  have e5 : Cd.exN.length = 5 := rfl
  simp only [e5] at HR3 ⊢
  clear x0 x1 hb3 ho3 c1 HRD e5
  go_upto_region 3 with fail
  obtain ⟨W4, hW4⟩ : ∃ W4, W4 = w3.alloc (.cells #[.slice A3 5 c3] 32) := ⟨_, rfl⟩
  rw [← hW4]
  have hb4 : Below w3.heap.size w3 W4 := by rw [hW4]; exact (Below.refl _ _).alloc (Nat.le_refl _) _
  have b4 : W4.heap[w3.heap.size]? = some (.cells #[.slice A3 5 c3] 32 (0, 0)) := by rw [hW4]; exact heap_alloc_new _ _
  have HB4 := Lib.hid (HB3.out.trans (hb4.mono (by omega)))
  obtain ⟨x0, x1⟩ := box2_cells ((hb4.block (Z + 1) (by omega)).trans HC1.out)
  have x2 := bx_cell b4
  obtain ⟨S, hS⟩ : ∃ S : ByteArray, S = Cd.bs [40, 98, 101, 115, 105, 100, 101, 32, 65, 49, 32, 40, 97, 98, 111, 118, 101, 32, 66, 50, 32, 67, 51, 41, 41] := ⟨_, rfl⟩
  have HS := Lib.hid hS
  have hSE : (S.toList == [40, 98, 101, 115, 105, 100, 101, 32, 65, 49, 32, 40, 97, 98, 111, 118, 101, 32, 66, 50, 32, 67, 51, 41, 41]) = true := by rw [hS, Lib.toList_data]; rfl
  clear hS
  have HWR : Hid (Calls Try.prog 9 #[.int .i64 2, .agg #[.int .i64 1, .slice (some ⟨Z, 0, none⟩) 3 3], .agg #[.slice A3 5 c3]] W4 (fun e w' => e = .returned (.tuple #[.string S, .int .i64 0]) ∧ Below W4.heap.size W4 w')) := Lib.hid (by
    rw [HS.out]
    have := Write_any 2 Cd.exL Cd.exN _ W4 A3 c3 (HL3.out.keep hb4.size hb4) ((HR3.out.below hb4).more hb4.size)
    rw [ex_write] at this
    exact this)
  clear hW4 hb4 b4
  go_wp2_with fail
  refine HWR.out.mono ?_
  rintro e w5 ⟨rfl, hb5⟩
  have HB5 := Lib.hid (HB4.out.trans (hb5.mono (by have := HB4.out.size; have := HZ.out; omega)))
  clear hb5 x0 x1 x2
  go_wp2_with fail
  go_ret
  exact ⟨rfl, by rw [← HZ.out]; exact HB5.out⟩
end Go.Proofs.Ytenmkbpdkfhbjaa
namespace Cd
open Go
section
variable {s : List UInt8}
end
section
variable {s : List UInt8}
end
end Cd
namespace Cd
open Go
theorem first_ne {f : Nat → Int} {n : Nat} {c : Int} (hc : c ≠ 0) (h : ∀ j, f j ≠ c) : Sg.firstE f n ≠ c := by
  unfold Sg.firstE
  cases (List.range n).find? (fun j => !decide (f j = 0)) with
  | none => exact fun e => hc e.symm
  | some j => exact h j
theorem own_ne {l : Sg.SList} {b : Option Tx.Node} {n : Tx.Node} : Tx.ownV l b n ≠ 4 := by
  unfold Tx.ownV
  split
  · decide
  · split
    · decide
    · split
      · split
        · decide
        · split
          · decide
          · split <;> decide
      · split
        · split
          · decide
          · split <;> decide
        · split <;> decide
theorem check_ne {l : Sg.SList} {ns : List Tx.Node} (h : Sg.checkV l = 0) : Tx.checkT l ns ≠ 4 := by
  unfold Tx.checkT
  rw [if_neg (by simpa using h)]
  split
  · decide
  · split
    · exact first_ne (by decide) fun j => own_ne
    · split <;> decide
/-- Read, where the code and the list are right and the string is not too long -/
theorem read_form {kind : Int} {l : Sg.SList} {s : List UInt8} (c1 : ¬ (kind ≠ 1 ∧ kind ≠ 2)) (c2 : ¬ Sg.checkV l ≠ 0) (c3 : ¬ 65536 < s.length) : ((readV kind l s).2.2 = 4 → ∃ k : Nat, parseG s kind = .bad k ∧ (readV kind l s).2.1 = k) ∧ (∀ k, parseG s kind = .bad k → (readV kind l s).2.2 = 4 ∧ (readV kind l s).2.1 = k) := by
  unfold readV
  rw [if_neg c1, if_neg c2, if_neg c3]
  cases hp : parseG s kind with
  | bad k => exact ⟨fun _ => ⟨k, rfl, rfl⟩, fun j e => by cases e; exact ⟨rfl, rfl⟩⟩
  | ok xs j =>
    refine ⟨fun h => ?_, fun k e => by cases e⟩
    simp only at h
    cases hu : unknownV l (codesL xs) with
    | some q =>
      rw [hu] at h
      exact absurd (show (23 : Int) = 4 from h) (by decide)
    | none =>
      rw [hu] at h
      simp only at h
      split at h
      · exact absurd h (check_ne (by simpa using c2))
      · exact absurd (show (0 : Int) = 4 from h) (by decide)
theorem read_breaks {kind : Int} {l : Sg.SList} {s : List UInt8} {k : Int} (h : (readV kind l s).2.2 = 4) (hk : (readV kind l s).2.1 = k) :
    0 ≤ k ∧ k ≤ (s.length : Int) ∧ ((readV kind l (s.take k.toNat)).2.2 = 4 → (readV kind l (s.take k.toNat)).2.1 = k) ∧ (k < (s.length : Int) → (readV kind l (s.take (k.toNat + 1))).2.2 = 4 ∧ (readV kind l (s.take (k.toNat + 1))).2.1 = k) := by
  by_cases c1 : kind ≠ 1 ∧ kind ≠ 2
  · unfold readV at h
    rw [if_pos c1] at h
    exact absurd h (by decide)
  by_cases c2 : Sg.checkV l ≠ 0
  · have key : ∀ t : List UInt8, readV kind l t = ([], 0, Sg.checkV l) := fun t => by
      unfold readV
      rw [if_neg c1, if_pos c2]
    rw [key] at h hk
    simp only at h hk
    subst hk
    refine ⟨Int.le_refl _, Int.natCast_nonneg _, fun _ => by rw [key], fun _ => ?_⟩
    rw [key]
    exact ⟨h, rfl⟩
  by_cases c3 : 65536 < s.length
  · unfold readV at h
    rw [if_neg c1, if_neg c2, if_pos c3] at h
    exact absurd h (by decide)
  obtain ⟨j, hp, hj⟩ := (read_form c1 c2 c3).1 h
  obtain rfl : k = (j : Int) := by rw [← hk, hj]
  obtain ⟨h1, h2, h3⟩ := parse_bad hp
  have t1 : ¬ 65536 < (s.take j).length := by rw [List.length_take]; omega
  have t2 : ¬ 65536 < (s.take (j + 1)).length := by rw [List.length_take]; omega
  rw [Int.toNat_natCast]
  refine ⟨by omega, by omega, fun q => ?_, fun q => ?_⟩
  · obtain ⟨i, hi, he⟩ := (read_form c1 c2 t1).1 q
    rw [he, h2 i hi]
  · exact (read_form c1 c2 t2).2 j (h3 (by omega))
end Cd
