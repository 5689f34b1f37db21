/- code.written: a text in a code, whichever it is.; code.written, code.Write: a text in a code.; ostraconlaw03.works: a look at an example.; What Read says of its errors; what is read can be written: plain law.; CodeOneWay: a string that is read is what is written of the text: the walk. -/
import Derived.Test.YtenmkbpdkfhbjaaGreatRcCTree
import Derived.Test.YtenmkbpdkfhbjaaGreatRcSgCopy
import Derived.Test.YtenmkbpdkfhbjaaGreatRcCdSize
import Derived.Test.YtenmkbpdkfhbjaaGreatRcCdLocal
import Derived.Test.YtenmkbpdkfhbjaaGreatRcRDec
import Derived.Test.YtenmkbpdkfhbjaaGreatRcC3Same
import Derived.Test.YtenmkbpdkfhbjaaGreatRcT2Check
namespace Go.Proofs.YtenmkbpdkfhbjaaGreat
open Go Go.RowKit

theorem lc_write_any (L : Sg.SList) (vl : Value) (B b d : Nat) (hLc : ∀ s ∈ L.signs, s.code.size ≤ 100) (xs : List Cd.Item) (A : Option Addr) (c : Nat) (acc : List UInt8) (W : World)
  (hb : Lib.IsBuilder 124 5 B b (Lib.byteCells acc) W) (hB : B ≤ W.heap.size) (hl : RdSL W B vl L) (hk : RdH (KGd d) 114 W (okW b W) (.slice A xs.length c) xs) (hok : Cd.OkL L xs) (hlen : acc.length + (Cd.unL 45 false (Cd.nameL L xs)).length ≤ 10000000) :
  Calls Tryz.prog 140 #[.agg #[], .pointer (some ⟨b, 0, none⟩), vl, .slice A xs.length c] W (RetWr B b (acc ++ Cd.unL 45 false (Cd.nameL L xs)) W) := by
 have HALL := Lib.hid (ll_any L vl B b hLc d)
 have HL := Lib.hid hl
 have HB := Lib.hid hB
 have HK := Lib.hid hk
 have HOK := Lib.hid hok
 have HLEN := Lib.hid hlen
 have HIB := Lib.hid hb
 obtain ⟨⟨us, rfl, hsg⟩, -⟩ := hl
 obtain ⟨As, cs, rfl, -⟩ := id hsg
 have HCALL : Hid (∀ (W1 : World), Below W.heap.size W W1 → Calls Tryz.prog 143 #[.agg #[], .pointer (some ⟨b, 0, none⟩), .agg #[.int .i64 L.periods, .slice As L.signs.length cs], .slice A xs.length c, .string ⟨#[45]⟩, .int .i64 0] W1 (RetWr B b (acc ++ Cd.unL 45 false (Cd.nameL L xs)) W1)) := Lib.hid fun W1 q => by
  have := HALL.out xs A c 45 0 acc W1 (isB_below HIB.out q) (Nat.le_trans HB.out q.size) (HL.out.keep (Nat.le_refl _) (q.mono HB.out)) (its_side HK.out (Side.of q)) HOK.out HLEN.out
  exact this
 have HRES : Hid (∀ W1 W', Below W.heap.size W W1 → RetWr B b (acc ++ Cd.unL 45 false (Cd.nameL L xs)) W1 (.returned (.tuple #[])) W' → RetWr B b (acc ++ Cd.unL 45 false (Cd.nameL L xs)) W (.returned (.tuple #[])) W') := Lib.hid fun W1 W' q1 q2 => ⟨rfl, q2.2.1, (q1.mono HB.out).trans q2.2.2.1, (Side.of q1).trans q2.2.2.2⟩
 clear hsg hb hB hk hok hlen HALL
 go_enter Tryz.func140, Tryz.ntmps140
 go_wp2_with fail
 refine at_worldF ?_
 intro WL hWL
 have hbl : Below W.heap.size W WL := by rw [hWL]; exact ((Below.refl _ _).alloc (Nat.le_refl _) _).alloc (by simp) _
 have HBL := Lib.hid hbl
 clear hWL hbl
 refine (HCALL.out WL HBL.out).mono ?_
 intro e w1 hr
 obtain ⟨rfl, -⟩ := id hr
 have HR := Lib.hid (HRES.out WL w1 HBL.out hr)
 clear hr
 go_wp2_with fail
 go_end0
 exact HR.out
def WrOf (kind : Int) (L : Sg.SList) (xs : List Cd.Item) : List UInt8 := if kind = 1 then Cd.unL 45 false (Cd.nameL L xs) else Cd.utL (Cd.nameL L xs)
theorem wrOf_grown (kind : Int) (L : Sg.SList) (ns : List Tx.Node) : WrOf kind L (Cd.growT 0 ns).1 = Cd.writeV kind L ns := by
 unfold WrOf Cd.writeV
 rw [Cd.growT_of (by omega)]
theorem codes_fine {L : Sg.SList} (h : Sg.checkV L = 0) : ∀ s ∈ L.signs, s.code.size ≤ 100 := fun s hs => by
 have := (Cd.code_ok ((Sg.fineS h).2.2 s hs).c).len
 have h2 : s.code.data.toList.length = s.code.size := by simp
 omega
theorem write_bound {kind : Int} {L : Sg.SList} {ns : List Tx.Node} (hv : Cd.Valid L ns) (hn : ns.length ≤ 1000) : (WrOf kind L (Cd.growT 0 ns).1).length ≤ 400000 := by
 have hd : Tx.Deep ns := Tx.deep_of hv.own
 have hc := codes_fine hv.list
 have hs : Cd.sizeL (Cd.growT 0 ns).1 = ns.length := by
  rw [← Cd.growT_of (f := ns.length + 1) (by omega)]
  exact Cd.grow_size hd
 unfold WrOf
 split
 ·have := Cd.un_shortL hc 45 false _ (Cd.ok_grown hv)
  omega
 ·have := Cd.ut_shortL hc _ (Cd.ok_grown hv)
  omega
set_option maxRecDepth 100000 in
set_option maxHeartbeats 16000000 in
theorem written_go (kind : Int) (T : TypeId) (g : FuncId) (hme : ∀ W : World, (method 335 T (.agg #[]) "ostracon/code.write").run Tryz.prog W = .ok (g, .agg #[]) W) (heg : ∀ (args : Array Value) (W : World), (callFunc g args).run Tryz.prog W = .ok (.enter g args) W)
  (L : Sg.SList) (ns : List Tx.Node) (vl : Value) (w : World) (A : Option Addr) (c : Nat) (hl : RdSL w w.heap.size vl L) (h : RdN w w.heap.size (.slice A ns.length c) ns) (hv : Cd.Valid L ns) (hn : ns.length ≤ 1000)
  (hwr : ∀ (B b d : Nat) (xs : List Cd.Item) (A : Option Addr) (c : Nat) (W : World), Lib.IsBuilder 124 5 B b (Lib.byteCells []) W → B ≤ W.heap.size → RdSL W B vl L → RdH (KGd d) 114 W (okW b W) (.slice A xs.length c) xs → Cd.OkL L xs → (WrOf kind L xs).length ≤ 10000000 → Calls Tryz.prog g #[.agg #[], .pointer (some ⟨b, 0, none⟩), vl, .slice A xs.length c] W (RetWr B b (WrOf kind L xs) W)) :
  Calls Tryz.prog 45 #[.iface T (.agg #[]), vl, .agg #[.slice A ns.length c]] w (RetSt (Cd.writeV kind L ns) w) := by
 have HL := Lib.hid hl
 have HR := Lib.hid h
 have HV := Lib.hid hv
 have HN := Lib.hid hn
 obtain ⟨⟨us, rfl, hsg⟩, -⟩ := hl
 obtain ⟨As, cs, rfl, -⟩ := id hsg
 have HWR := Lib.hid hwr
 obtain ⟨Z, hZ⟩ : ∃ Z, Z = w.heap.size := ⟨_, rfl⟩
 have HZ := Lib.hid hZ
 have HG : Hid (∀ W1, Below Z w W1 → Calls Tryz.prog 69 #[.slice A ns.length c, .int .i64 0] W1 (RetGr 0 ns Z W1)) := Lib.hid fun W1 q => by
  have := grow_any (ns.length + 1) ns 0 A c W1 Z (by omega) (by rw [HZ.out] at q ⊢; exact HR.out.below q) (by have := q.size; have := HZ.out; omega) (by have := HN.out; omega)
  exact this
 have HOKL := Lib.hid (Cd.ok_grown hv)
 have HLEN : Hid ((WrOf kind L (Cd.growT 0 ns).1).length ≤ 10000000) := Lib.hid (by have := write_bound (kind := kind) hv hn; omega)
 have HRES : Hid (∀ W', Below Z w W' → RetSt (Cd.writeV kind L ns) w (.returned (.string (Cd.bs (WrOf kind L (Cd.growT 0 ns).1)))) W') := Lib.hid fun W' q => ⟨by rw [wrOf_grown], by rw [← HZ.out]; exact q⟩
 obtain ⟨xs, hxs⟩ : ∃ xs, xs = (Cd.growT 0 ns).1 := ⟨_, rfl⟩
 obtain ⟨rs, hrs⟩ : ∃ rs, rs = (Cd.growT 0 ns).2 := ⟨_, rfl⟩
 have HG2 : Hid (∀ W1, Below Z w W1 → Calls Tryz.prog 69 #[.slice A ns.length c, .int .i64 0] W1 (fun e w' => ∃ A1 c1 A2 c2, e = .returned (.tuple #[.slice A1 xs.length c1, .slice A2 rs.length c2]) ∧ Below W1.heap.size W1 w' ∧ OwnG KG 114 w' W1.heap.size (.slice A1 xs.length c1) xs)) := Lib.hid fun W1 q => by
  refine (HG.out W1 q).mono ?_
  rintro e w' ⟨A1, c1, A2, c2, q1, q2, q3, -⟩
  rw [hxs, hrs]
  exact ⟨A1, c1, A2, c2, q1, q2, q3⟩
 rw [← hxs] at HOKL HLEN HRES
 clear hsg h hv hn hwr hZ HG hxs hrs
 go_enter Tryz.func45, Tryz.ntmps45
 go_wp2_with fail
 simp only [Nat.add_assoc, Nat.reduceAdd]
 rw [← HZ.out]
 refine at_worldF ?_
 intro WL hWL
 obtain ⟨hsz, hbl, b0, b1, b2⟩ := alloc3 _ _ _ _ _ hWL
 have hfb : Lib.IsBuilder 124 5 (Z + 2) (Z + 2) (Lib.byteCells []) WL := by
  have := Lib.fresh_isBuilder 124 5 ((w.alloc (.cells #[.int .i64 L.periods, .slice As L.signs.length cs] 24)).alloc (.cells #[.slice A ns.length c] 27))
  rw [hWL]
  have e2 : ((w.alloc (.cells #[.int .i64 L.periods, .slice As L.signs.length cs] 24)).alloc (.cells #[.slice A ns.length c] 27)).heap.size = Z + 2 := by rw [HZ.out]; simp
  rw [e2] at this
  exact this
 rw [← HZ.out] at hsz hbl b0 b1 b2
 have HBL := Lib.hid hbl
 have HB0 := Lib.hid b0
 have HFB := Lib.hid hfb
 have HSZ := Lib.hid hsz
 clear hWL hbl b0 b1 b2 hfb hsz
 refine (HG2.out WL HBL.out).mono ?_
 rintro e w1 ⟨A1, c1, A2, c2, rfl, hb1, ho1⟩
 have HB1 := Lib.hid hb1
 have hb1z : Below (Z + 2) WL w1 := hb1.mono (by have := HSZ.out; omega)
 have hz1 : Z + 2 ≤ w1.heap.size := by have := hb1.size; have := HSZ.out; omega
 have HI1 := Lib.hid (isB_below HFB.out hb1)
 have HBZ := Lib.hid (HBL.out.trans (hb1z.mono (by omega)))
 have c0 := (hb1.block Z (by have := HSZ.out; omega)).trans HB0.out
 obtain ⟨x0, x1⟩ := box2_cells c0
 have hh := ho1.head
 obtain ⟨d, hd⟩ := hh.deepG
 have HD := Lib.hid (its_typed (b := Z + 2) (fun q hq => by have := hq.2; have := HSZ.out; omega) d _ _ hd)
 have HCALL : Hid (Calls Tryz.prog g #[.agg #[], .pointer (some ⟨Z + 2, 0, none⟩), .agg #[.int .i64 L.periods, .slice As L.signs.length cs], .slice A1 xs.length c1] w1 (RetWr (Z + 2) (Z + 2) (WrOf kind L xs) w1)) := Lib.hid (HWR.out (Z + 2) (Z + 2) d xs A1 c1 w1 HI1.out hz1 (HL.out.keep (by have := HZ.out; omega) (by rw [← HZ.out]; exact HBZ.out)) HD.out HOKL.out HLEN.out)
 clear hb1 ho1 hb1z c0 hh hd
 go_wp2_with fail
 refine HCALL.out.mono ?_
 rintro e w2 ⟨rfl, hi2, hb2, hs2⟩
 have HI2 := Lib.hid hi2
 have HB2 := Lib.hid (HBZ.out.trans (hb2.mono (by omega)))
 have hz2 : Z + 2 ≤ w2.heap.size := Nat.le_trans hz1 hb2.size
 clear hi2 hb2 hs2 x0 x1 HCALL
 go_wp2_with fail
 refine (Tryz.Builder_String_any (Z + 2) (Z + 2) _ w2 HI2.out hz2).mono ?_
 rintro e w3 ⟨rfl, hb3⟩
 have HB3 := Lib.hid (HB2.out.trans (hb3.mono (by omega)))
 clear hb3
 go_wp2_with fail
 go_ret
 exact HRES.out w3 HB3.out
end Go.Proofs.YtenmkbpdkfhbjaaGreat
namespace Go.Proofs.YtenmkbpdkfhbjaaGreat
open Go Go.RowKit

theorem written_any (kind : Int) (hk : kind = 1 ∨ kind = 2) (L : Sg.SList) (ns : List Tx.Node) (vl : Value) (w : World) (A : Option Addr) (c : Nat) (hl : RdSL w w.heap.size vl L) (h : RdN w w.heap.size (.slice A ns.length c) ns) (hv : Cd.Valid L ns) (hn : ns.length ≤ 1000) :
  Calls Tryz.prog 45 #[coderV kind, vl, .agg #[.slice A ns.length c]] w (RetSt (Cd.writeV kind L ns) w) := by
 have hLc := codes_fine hv.list
 rcases hk with rfl | rfl
 ·exact written_go 1 96 140 (fun _ => by kernel_rfl) (enters_of Tryz.func140 (by kernel_rfl) rfl) L ns vl w A c hl h hv hn fun B b d xs A c W q1 q2 q3 q4 q5 q6 => by
   have := lc_write_any L vl B b d hLc xs A c [] W q1 q2 q3 q4 q5 (by unfold WrOf at q6; rw [if_pos rfl] at q6; simpa using q6)
   unfold WrOf
   rw [if_pos rfl]
   exact this
 ·exact written_go 2 97 179 (fun _ => by kernel_rfl) (enters_of Tryz.func179 (by kernel_rfl) rfl) L ns vl w A c hl h hv hn fun B b d xs A c W q1 q2 q3 q4 q5 q6 => by
   have := tw_any L vl B b hLc d xs A c [] W q1 q2 q3 q4 q5 (by unfold WrOf at q6; rw [if_neg (by decide)] at q6; simpa using q6)
   unfold WrOf
   rw [if_neg (by decide)]
   exact this
def Cd.writeQ (kind : Int) (l : Sg.SList) (ns : List Tx.Node) : List UInt8 × Int := if Cd.lacksE kind l ns ≠ 0 then ([], Cd.lacksE kind l ns) else if Cd.lacksV kind ns ≠ [] then ([], 30) else (Cd.writeV kind l ns, 0)
def RetWt (q : List UInt8 × Int) (w : World) (e : Ending) (w' : World) : Prop := e = .returned (.tuple #[.string (Cd.bs q.1), .int .i64 q.2]) ∧ Below w.heap.size w w'
set_option maxRecDepth 100000 in
set_option maxHeartbeats 16000000 in
theorem Write_any (kind : Int) (l : Sg.SList) (ns : List Tx.Node) (vl : Value) (w : World) (A : Option Addr) (c : Nat) (hl : RdSL w w.heap.size vl l) (h : RdN w w.heap.size (.slice A ns.length c) ns) :
  Calls Tryz.prog 22 #[.int .i64 kind, vl, .agg #[.slice A ns.length c]] w (RetWt (Cd.writeQ kind l ns) w) := by
 have HL := Lib.hid hl
 have HR := Lib.hid h
 obtain ⟨⟨us, rfl, hsg⟩, -⟩ := hl
 obtain ⟨As, cs, rfl, -⟩ := id hsg
 obtain ⟨Z, hZ⟩ : ∃ Z, Z = w.heap.size := ⟨_, rfl⟩
 have HZ := Lib.hid hZ
 clear hsg h hZ
 go_enter Tryz.func22, Tryz.ntmps22
 go_wp2_with fail
 rw [← HZ.out]
 refine at_worldF ?_
 intro WL hWL
 have hbl : Below Z w WL := by rw [hWL, HZ.out]; exact ((Below.refl _ _).alloc (Nat.le_refl _) _).alloc (by simp) _
 have hsz : WL.heap.size = Z + 2 := by rw [hWL, HZ.out]; simp
 have b0 : WL.heap[Z]? = some (.cells #[.int .i64 l.periods, .slice As l.signs.length cs] 24 (0, 0)) := by rw [hWL, HZ.out]; exact heap_alloc2_old _ _ _
 have b1 : WL.heap[Z + 1]? = some (.cells #[.slice A ns.length c] 27 (0, 0)) := by rw [hWL, HZ.out]; exact heap_alloc2_new _ _ _
 have HBL := Lib.hid hbl
 have HB0 := Lib.hid b0
 have HB1 := Lib.hid b1
 have hbw : Below w.heap.size w WL := by rw [← HZ.out]; exact hbl
 have HLK := Lib.hid (Lacks_any kind l ns _ WL A c (HL.out.keep hbw.size hbw) ((HR.out.below hbw).more hbw.size))
 have HSZ := Lib.hid hsz
 clear hWL hbl hsz b0 b1 hbw
 refine HLK.out.mono ?_
 rintro e w1 ⟨A1, c1, rfl, hb1, ho1⟩
 have hz1 : Z + 2 ≤ w1.heap.size := by have := hb1.size; have := HSZ.out; omega
 have HBW := Lib.hid (HBL.out.trans (hb1.mono (by have := HSZ.out; omega)))
 have x0 := (hb1.block Z (by have := HSZ.out; omega)).trans HB0.out
 have x1 := (hb1.block (Z + 1) (by have := HSZ.out; omega)).trans HB1.out
 have HX0 := Lib.hid x0
 have HX1 := Lib.hid x1
 clear hb1 ho1 x0 x1 HLK
 by_cases h0 : Cd.lacksE kind l ns = 0
 case neg =>
  have HQ : Hid (Cd.writeQ kind l ns = ([], Cd.lacksE kind l ns)) := Lib.hid (by unfold Cd.writeQ; rw [if_pos h0])
  have hq : Cd.lacksQ kind l ns = ([], Cd.lacksE kind l ns) := by unfold Cd.lacksQ; rw [if_pos h0]
  obtain ⟨ev, hev⟩ : ∃ ev, ev = Cd.lacksE kind l ns := ⟨_, rfl⟩
  rw [hq]
  rw [← hev] at h0 HQ ⊢
  have t0 : (ev == 0) = false := by simp [h0]
  have t0' : (ev != 0) = true := by simp [h0]
  have HRES : Hid (RetWt (Cd.writeQ kind l ns) w (.returned (.tuple #[.string ⟨#[]⟩, .int .i64 ev])) w1) := Lib.hid ⟨by rw [HQ.out]; rfl, by rw [← HZ.out]; exact HBW.out⟩
  clear h0 hq hev
  go_wp2_with fail
  refine bodyPost_ret (results_tmp2 rfl _ _ _) rfl ?_
  exact HRES.out
 have hq : Cd.lacksQ kind l ns = (Cd.lacksV kind ns, 0) := by unfold Cd.lacksQ; rw [if_neg (by simpa using h0)]
 rw [hq]
 obtain ⟨ls, hls⟩ : ∃ ls, ls = Cd.lacksV kind ns := ⟨_, rfl⟩
 rw [← hls]
 by_cases h1 : ls = []
 case neg =>
  have HQ : Hid (Cd.writeQ kind l ns = ([], 30)) := Lib.hid (by unfold Cd.writeQ; rw [if_neg (by simpa using h0), if_pos (by rw [← hls]; exact h1)])
  have hln : (0 : Int) < (ls.length : Int) := by have := List.length_pos_iff.2 h1; omega
  have HRES : Hid (RetWt (Cd.writeQ kind l ns) w (.returned (.tuple #[.string ⟨#[]⟩, .int .i64 30])) w1) := Lib.hid ⟨by rw [HQ.out]; rfl, by rw [← HZ.out]; exact HBW.out⟩
  clear h0 hq hls h1
  go_wp2_with fail
  refine bodyPost_ret (results_tmp2 rfl _ _ _) rfl ?_
  exact HRES.out
 have hk : kind = 1 ∨ kind = 2 := by
  unfold Cd.lacksE at h0
  by_cases hk : kind ≠ 1 ∧ kind ≠ 2
  ·rw [if_pos hk] at h0
   exact absurd h0 (by decide)
  ·omega
 have hc : Tx.checkT l ns = 0 := by
  unfold Cd.lacksE at h0
  rwa [if_neg (by omega)] at h0
 have HQ : Hid (Cd.writeQ kind l ns = (Cd.writeV kind l ns, 0)) := Lib.hid (by unfold Cd.writeQ; rw [if_neg (by simpa using h0), if_neg (by rw [← hls]; simpa using h1)])
 have HV := Lib.hid (Cd.valid_of hc)
 have HCO : Hid (∀ W, Calls Tryz.prog 35 #[.int .i64 kind] W (fun e w' => e = .returned (.tuple #[coderV kind, .int .i64 0]) ∧ w' = W)) := Lib.hid fun W => by
  have := coderOf_any kind W
  rwa [show coderE kind = 0 from if_pos hk] at this
 have hbz := HBW.out
 have HWT : Hid (Calls Tryz.prog 45 #[coderV kind, .agg #[.int .i64 l.periods, .slice As l.signs.length cs], .agg #[.slice A ns.length c]] w1 (RetSt (Cd.writeV kind l ns) w1)) := Lib.hid (by
  rw [HZ.out] at hbz
  exact written_any kind hk l ns _ w1 A c (HL.out.keep hbz.size hbz) ((HR.out.below hbz).more hbz.size) HV.out.1 (by have := HV.out.2; omega))
 have HRES : Hid (∀ W', Below w1.heap.size w1 W' → RetWt (Cd.writeQ kind l ns) w (.returned (.tuple #[.string (Cd.bs (Cd.writeV kind l ns)), .int .i64 0])) W') := Lib.hid fun W' q => ⟨by rw [HQ.out], by rw [← HZ.out]; exact HBW.out.trans (q.mono (by omega))⟩
 obtain ⟨t, ht⟩ : ∃ t, t = Cd.writeV kind l ns := ⟨_, rfl⟩
 rw [← ht] at HWT HRES
 obtain ⟨cv, hcv⟩ : ∃ cv, cv = coderV kind := ⟨_, rfl⟩
 rw [← hcv] at HCO HWT
 subst h1
 obtain ⟨y0, y1⟩ := box2_cells HX0.out
 have y2 := bx_cell HX1.out
 clear h0 hq hls hc hk hbz ht hcv
 simp only [List.length_nil]
 go_wp2_with fail
 refine (HCO.out _).mono ?_
 rintro e w2 ⟨rfl, rfl⟩
 go_wp2_with fail
 refine HWT.out.mono ?_
 rintro e w3 ⟨rfl, hb3⟩
 have HB3 := Lib.hid hb3
 clear hb3
 go_wp2_with fail
 refine bodyPost_ret (results_tmp2 rfl _ _ _) rfl ?_
 exact HRES.out w3 HB3.out
end Go.Proofs.YtenmkbpdkfhbjaaGreat
namespace Cd
def exL : Sg.SList := ⟨1, [⟨⟨#[65, 49]⟩, 1, 1, false, []⟩, ⟨⟨#[66, 50]⟩, 1, 1, false, []⟩, ⟨⟨#[67, 51]⟩, 1, 1, false, []⟩]⟩
def exS : ByteArray := ⟨#[65, 49, 42, 40, 66, 50, 58, 67, 51, 41]⟩
def exN : List Tx.Node := [⟨2, 0, 0, 0, false, 0, 0, 0⟩, ⟨1, 1, 0, 0, false, 0, 0, 0⟩, ⟨3, 1, 0, 0, false, 0, 0, 0⟩, ⟨1, 2, 1, 0, false, 0, 0, 0⟩, ⟨1, 2, 2, 0, false, 0, 0, 0⟩]
theorem ex_read : readV 1 exL exS.data.toList = (exN, 0, 0) := by kernel_rfl
end Cd
namespace Go.Proofs.YtenmkbpdkfhbjaaGreat
open Go Go.RowKit

theorem ex_write : Cd.writeQ 2 Cd.exL Cd.exN = ([40, 98, 101, 115, 105, 100, 101, 32, 65, 49, 32, 40, 97, 98, 111, 118, 101, 32, 66, 50, 32, 67, 51, 41, 41], 0) := by kernel_rfl
set_option maxRecDepth 100000 in
set_option maxHeartbeats 8000000 in
theorem works3_any (w : World) : Calls Tryz.prog 12 #[] w (RetBB true w) := by
 obtain ⟨Z, hZ⟩ : ∃ Z, Z = w.heap.size := ⟨_, rfl⟩
 have HZ := Lib.hid hZ
 obtain ⟨W2, hW2⟩ : ∃ W2, W2 = (w.alloc (.cells #[.string ⟨#[65, 49]⟩, .int .i64 1, .int .i64 1, .bool false, .slice none 0 0, .string ⟨#[66, 50]⟩, .int .i64 1, .int .i64 1, .bool false, .slice none 0 0, .string ⟨#[67, 51]⟩, .int .i64 1, .int .i64 1, .bool false, .slice none 0 0] 66)).alloc (.cells #[.int .i64 1, .slice (some ⟨Z, 0, none⟩) 3 3] 24) := ⟨_, rfl⟩
 have hbl : Below Z w W2 := by rw [hW2, hZ]; exact ((Below.refl _ _).alloc (Nat.le_refl _) _).alloc (by simp) _
 have hsz : W2.heap.size = Z + 2 := by rw [hW2, hZ]; simp
 have b0 : W2.heap[Z]? = some (.cells #[.string ⟨#[65, 49]⟩, .int .i64 1, .int .i64 1, .bool false, .slice none 0 0, .string ⟨#[66, 50]⟩, .int .i64 1, .int .i64 1, .bool false, .slice none 0 0, .string ⟨#[67, 51]⟩, .int .i64 1, .int .i64 1, .bool false, .slice none 0 0] 66 (0, 0)) := by rw [hW2, hZ]; exact heap_alloc2_old _ _ _
 have b1 : W2.heap[Z + 1]? = some (.cells #[.int .i64 1, .slice (some ⟨Z, 0, none⟩) 3 3] 24 (0, 0)) := by rw [hW2, hZ]; exact heap_alloc2_new _ _ _
 have hrl : RdSL W2 W2.heap.size (.agg #[.int .i64 1, .slice (some ⟨Z, 0, none⟩) 3 3]) Cd.exL := by
  refine ⟨⟨_, rfl, ⟨some ⟨Z, 0, none⟩, 3, rfl, Nat.le_refl _, by decide, fun _ => ⟨Z, 0, rfl, by omega, fun i a hi => ?_⟩⟩⟩, ?_⟩
  ·have hnil : ∀ ok : Nat → Prop, RdX W2 ok 4 encValue (.slice none 0 0) ([] : List Sg.Value) := fun ok => ⟨none, 0, rfl, by simp, by omega, fun h => absurd h (by simp)⟩
   match i, hi with
   | 0, hi =>
    cases hi
    exact ⟨_, ⟨.slice none 0 0, rfl, hnil _⟩, fun j u hj => by
     match j, hj with
     | 0, hj => cases hj; simp [World.cell?, b0, KSign]
     | 1, hj => cases hj; simp [World.cell?, b0, KSign]
     | 2, hj => cases hj; simp [World.cell?, b0, KSign]
     | 3, hj => cases hj; simp [World.cell?, b0, KSign]
     | 4, hj => cases hj; simp [World.cell?, b0, KSign]
     | j + 5, hj => simp at hj⟩
   | 1, hi =>
    cases hi
    exact ⟨_, ⟨.slice none 0 0, rfl, hnil _⟩, fun j u hj => by
     match j, hj with
     | 0, hj => cases hj; simp [World.cell?, b0, KSign]
     | 1, hj => cases hj; simp [World.cell?, b0, KSign]
     | 2, hj => cases hj; simp [World.cell?, b0, KSign]
     | 3, hj => cases hj; simp [World.cell?, b0, KSign]
     | 4, hj => cases hj; simp [World.cell?, b0, KSign]
     | j + 5, hj => simp at hj⟩
   | 2, hi =>
    cases hi
    exact ⟨_, ⟨.slice none 0 0, rfl, hnil _⟩, fun j u hj => by
     match j, hj with
     | 0, hj => cases hj; simp [World.cell?, b0, KSign]
     | 1, hj => cases hj; simp [World.cell?, b0, KSign]
     | 2, hj => cases hj; simp [World.cell?, b0, KSign]
     | 3, hj => cases hj; simp [World.cell?, b0, KSign]
     | 4, hj => cases hj; simp [World.cell?, b0, KSign]
     | j + 5, hj => simp at hj⟩
   | i + 3, hi => simp [Cd.exL] at hi
  ·intro s hs
   simp [Cd.exL] at hs
   rcases hs with rfl | rfl | rfl <;> exact ⟨by decide, fun v hv => by cases hv⟩
 have HRL := Lib.hid hrl
 have HRD : Hid (Calls Tryz.prog 19 #[.int .i64 1, .agg #[.int .i64 1, .slice (some ⟨Z, 0, none⟩) 3 3], .string ⟨#[65, 49, 42, 40, 66, 50, 58, 67, 51, 41]⟩] W2 (RetRead (Cd.exN, 0, 0) W2)) := Lib.hid (by
  have := Read_any 1 Cd.exL (.agg #[.int .i64 1, .slice (some ⟨Z, 0, none⟩) 3 3]) Cd.exS (by decide) W2 hrl
  rw [Cd.ex_read] at this
  exact this)
 have HW2 := Lib.hid hW2
 have HBL := Lib.hid hbl
 have HB1 := Lib.hid b1
 have HSZ := Lib.hid hsz
 obtain ⟨x0, x1⟩ := box2_cells b1
 clear hW2 hbl hsz b0 b1 hrl hZ
 go_enter Tryz.func12, Tryz.ntmps12
 go_upto_region 2 with fail
 rw [← HZ.out, ← HW2.out]
 go_wp2_with fail
 refine HRD.out.mono ?_
 rintro e w3 ⟨A3, c3, rfl, hb3, ho3⟩
 have hz3 : Z + 2 ≤ w3.heap.size := by have := hb3.size; have := HSZ.out; omega
 have HB3 := Lib.hid (HBL.out.trans (hb3.mono (by have := HSZ.out; omega)))
 have c1 := (hb3.block (Z + 1) (by have := HSZ.out; omega)).trans HB1.out
 have HC1 := Lib.hid c1
 have HR3 := Lib.hid (rds_of_own len_node ho3)
 have HL3 := Lib.hid (HRL.out.keep hb3.size hb3)
 have e5 : Cd.exN.length = 5 := rfl
 simp only [e5] at HR3 ⊢
 clear x0 x1 hb3 ho3 c1 HRD e5
 go_upto_region 3 with fail
 obtain ⟨W4, hW4⟩ : ∃ W4, W4 = w3.alloc (.cells #[.slice A3 5 c3] 27) := ⟨_, rfl⟩
 rw [← hW4]
 have hb4 : Below w3.heap.size w3 W4 := by rw [hW4]; exact (Below.refl _ _).alloc (Nat.le_refl _) _
 have b4 : W4.heap[w3.heap.size]? = some (.cells #[.slice A3 5 c3] 27 (0, 0)) := by rw [hW4]; exact heap_alloc_new _ _
 have HB4 := Lib.hid (HB3.out.trans (hb4.mono (by omega)))
 obtain ⟨x0, x1⟩ := box2_cells ((hb4.block (Z + 1) (by omega)).trans HC1.out)
 have x2 := bx_cell b4
 obtain ⟨S, hS⟩ : ∃ S : ByteArray, S = Cd.bs [40, 98, 101, 115, 105, 100, 101, 32, 65, 49, 32, 40, 97, 98, 111, 118, 101, 32, 66, 50, 32, 67, 51, 41, 41] := ⟨_, rfl⟩
 have HS := Lib.hid hS
 have hSE : (S.toList == [40, 98, 101, 115, 105, 100, 101, 32, 65, 49, 32, 40, 97, 98, 111, 118, 101, 32, 66, 50, 32, 67, 51, 41, 41]) = true := by rw [hS, Lib.toList_data]; rfl
 clear hS
 have HWR : Hid (Calls Tryz.prog 22 #[.int .i64 2, .agg #[.int .i64 1, .slice (some ⟨Z, 0, none⟩) 3 3], .agg #[.slice A3 5 c3]] W4 (fun e w' => e = .returned (.tuple #[.string S, .int .i64 0]) ∧ Below W4.heap.size W4 w')) := Lib.hid (by
  rw [HS.out]
  have := Write_any 2 Cd.exL Cd.exN _ W4 A3 c3 (HL3.out.keep hb4.size hb4) ((HR3.out.below hb4).more hb4.size)
  rw [ex_write] at this
  exact this)
 clear hW4 hb4 b4
 go_wp2_with fail
 refine HWR.out.mono ?_
 rintro e w5 ⟨rfl, hb5⟩
 have HB5 := Lib.hid (HB4.out.trans (hb5.mono (by have := HB4.out.size; have := HZ.out; omega)))
 clear hb5 x0 x1 x2
 go_wp2_with fail
 go_ret
 exact ⟨rfl, by rw [← HZ.out]; exact HB5.out⟩
end Go.Proofs.YtenmkbpdkfhbjaaGreat
namespace Cd
open Go
def Pz (s : List UInt8) : R Item → Prop
 | .bad _ => True
 | .ok x _ => ∀ q ∈ codesI x, q.2 < s.length
def PzL (s : List UInt8) : R (List Item) → Prop
 | .bad _ => True
 | .ok xs _ => ∀ q ∈ codesL xs, q.2 < s.length
def PzO (s : List UInt8) : R (Item × Bool) → Prop
 | .bad _ => True
 | .ok x _ => ∀ q ∈ codesI x.1, q.2 < s.length
section
variable {s : List UInt8}
theorem pz_glyph (line : Bool) (k : Nat) : Pz s (glyphG s line k) := by
 rw [glyph_eq]
 cases hsk : s[k]? with
 | none => trivial
 | some c =>
  have hlt := (List.getElem?_eq_some_iff.1 hsk).1
  simp only
  split
  ·unfold glyphE
   have key : ∀ (mi : Bool) (e1 : Nat), Pz s ((turnG s e1).bind fun tn e2 => .ok (.mk (glyphN tn mi (if line = true then stateOf s[e2]? else 0)) ((s.drop k).take (codeEnd s k - k)) k []) (if (if line = true then stateOf s[e2]? else 0) = 0 then e2 else e2 + 1)) := fun mi e1 => by
    cases ht : turnG s e1 with
    | bad j => trivial
    | ok tn e2 =>
     intro q hq
     rw [codesI, codesL, List.append_nil, if_pos (show (glyphN tn mi (if line = true then stateOf s[e2]? else 0)).kind = 1 from rfl), List.mem_singleton] at hq
     subst hq
     exact hlt
   cases sees s (codeEnd s k) 92 with
   | true => exact key _ _
   | false => exact key _ _
  ·trivial
theorem pz_leaf (k : Nat) : Pz s (leafG s k) := by
 unfold leafG
 split
 ·cases h1 : digitG s 48 57 (k + 1) with
  | bad j => trivial
  | ok a k1 =>
   simp only [R.bind]
   cases h2 : must s k1 45 with
   | bad j => trivial
   | ok u k2 =>
    dsimp only
    cases h3 : digitG s 48 57 k2 with
    | bad j => trivial
    | ok b k3 =>
     dsimp only
     cases h4 : must s k3 125 with
     | bad j => trivial
     | ok u2 k4 =>
      intro q hq
      rw [codes_mk (show (gapN _ _).kind ≠ 1 from (by decide : (6 : Int) ≠ 1)), codesL] at hq
      cases hq
 ·exact pz_glyph true k
theorem pz_sep {p : Nat → R Item} {c : UInt8} (hp : ∀ k, Pz s (p k)) : ∀ (n k : Nat), PzL s (sepG s p c n k)
 | 0, k => trivial
 | n + 1, k => by
  rw [sepG]
  have h1 := hp k
  cases hq : p k with
  | bad j => trivial
  | ok x k1 =>
   rw [hq] at h1
   simp only [R.bind]
   split
   ·have h2 := pz_sep (c := c) hp n (k1 + 1)
    cases hr : sepG s p c n (k1 + 1) with
    | bad j => trivial
    | ok xs k2 =>
     rw [hr] at h2
     intro q hq
     rw [codesL] at hq
     rcases List.mem_append.1 hq with hq | hq
     ·exact h1 q hq
     ·exact h2 q hq
   ·intro q hq
    rw [codesL, codesL, List.append_nil] at hq
    exact h1 q hq
theorem pz_one {kind : Int} (hn : kind ≠ 1) {x : Item} {xs : List Item} (hxc : ∀ q ∈ codesI x, q.2 < s.length) (h : ∀ q ∈ codesL xs, q.2 < s.length) (k : Nat) : Pz s (.ok (one kind (x :: xs)) k) := by
 cases xs with
 | nil => exact hxc
 | cons y ys =>
  have e : one kind (x :: y :: ys) = .mk (kindN kind) [] 0 (x :: y :: ys) := rfl
  rw [e]
  intro q hq
  rw [codes_mk hn, codesL] at hq
  rcases List.mem_append.1 hq with hq | hq
  ·exact hxc q hq
  ·exact h q hq
theorem pz_beside {ov : Nat → R (Item × Bool)} (h : ∀ k, PzO s (ov k)) (k : Nat) : Pz s (besideG s ov k) := by
 unfold besideG
 have h1 := h k
 cases hq : ov k with
 | bad j => trivial
 | ok x k1 =>
  rw [hq] at h1
  simp only [R.bind]
  split
  ·trivial
  ·split
   ·have h2 := pz_sep (s := s) (c := 42) (p := fun j => (ov j).bind fun y j1 => .ok y.1 j1) (fun j => by
     have := h j
     cases hj : ov j with
     | bad _ => trivial
     | ok y j1 => rw [hj] at this; exact this) (N s) (k1 + 1)
    show Pz s ((sepG s (fun j => (ov j).bind fun y j1 => R.ok y.1 j1) 42 (N s) (k1 + 1)).bind fun xs k2 => .ok (one 2 (x.1 :: xs)) k2)
    revert h2
    generalize sepG s (fun j => (ov j).bind fun y j1 => R.ok y.1 j1) 42 (N s) (k1 + 1) = r
    intro h2
    cases r with
    | bad _ => trivial
    | ok xs k2 => exact pz_one (show (_ : Int) ≠ 1 by decide) h1 h2 _
   ·exact h1
theorem pz_above {ov : Nat → R (Item × Bool)} (h : ∀ k, PzO s (ov k)) (b : Bool) (k : Nat) : Pz s (aboveG s ov b k) := by
 unfold aboveG
 have h1 := pz_beside (s := s) h k
 cases hq : besideG s ov k with
 | bad j => trivial
 | ok x k1 =>
  rw [hq] at h1
  simp only [R.bind]
  split
  ·trivial
  ·split
   ·have h2 := pz_sep (s := s) (c := 58) (p := besideG s ov) (pz_beside h) (N s) (k1 + 1)
    cases hr : sepG s (besideG s ov) 58 (N s) (k1 + 1) with
    | bad _ => trivial
    | ok xs k2 => rw [hr] at h2; exact pz_one (show (_ : Int) ≠ 1 by decide) h1 h2 _
   ·exact h1
theorem pz_over : ∀ (f k : Nat), PzO s (overG s f k)
 | 0, k => trivial
 | f + 1, k => by
  rw [overG]
  split
  ·have h1 := pz_above (s := s) (pz_over f) true (k + 1)
   cases hq : aboveG s (overG s f) true (k + 1) with
   | bad _ => trivial
   | ok x k1 =>
    rw [hq] at h1
    simp only [R.bind]
    cases hr : must s k1 41 with
    | bad _ => trivial
    | ok u k2 => exact h1
  ·have h1 := pz_leaf (s := s) k
   cases hq : leafG s k with
   | bad _ => trivial
   | ok x k1 =>
    rw [hq] at h1
    simp only [R.bind]
    split
    ·have h2 := pz_leaf (s := s) (k1 + 1)
     cases hr : leafG s (k1 + 1) with
     | bad _ => trivial
     | ok y k2 =>
      rw [hr] at h2
      intro q hq
      rw [codes_mk (by decide), codesL, codesL, codesL, List.append_nil] at hq
      rcases List.mem_append.1 hq with hq | hq
      ·exact h1 q hq
      ·exact h2 q hq
    ·exact h1
theorem pz_br {kind : Int} (hn : kind ≠ 1) {r : R (List Item)} {c : UInt8} (h : PzL s r) : Pz s (r.bind fun xs k1 => (must s k1 c).bind fun _ k2 => .ok (.mk (kindN kind) [] 0 xs) k2) := by
 cases r with
 | bad _ => trivial
 | ok xs k1 =>
  simp only [R.bind]
  cases hr : must s k1 c with
  | bad _ => trivial
  | ok u k2 =>
   intro q hq
   rw [codes_mk hn] at hq
   exact h q hq
theorem pz_part (k : Nat) : Pz s (partG s k) := by
 unfold partG
 split
 ·exact pz_br (by decide) (pz_sep (pz_above (pz_over _) false) _ _)
 ·exact pz_above (pz_over _) false k
theorem pz_group (k : Nat) : Pz s (groupG s k) := by
 unfold groupG
 split
 ·exact pz_br (by decide) (pz_sep pz_part _ _)
 ·exact pz_part k
theorem word_ne {k k1 : Nat} {q : Int} (hw : wordG s k = .ok q k1) : q ≠ 1 := by
 unfold wordG at hw
 have := kindAt_ne s[k]?
 simp only at hw
 split at hw
 ·cases hw
 ·split at hw
  ·cases hw; exact this
  ·cases hw
theorem pz_tree : ∀ (f k : Nat), Pz s (treeG s f k)
 | 0, k => trivial
 | f + 1, k => by
  rw [treeG]
  split
  ·intro q hq
   rw [codes_mk (show (gapN _ _).kind ≠ 1 from (by decide : (6 : Int) ≠ 1)), codesL] at hq
   cases hq
  ·split
   ·cases hw : wordG s (k + 1) with
    | bad _ => trivial
    | ok q k1 =>
     have hq1 := word_ne hw
     simp only [R.bind]
     cases hr : must s k1 32 with
     | bad _ => trivial
     | ok u k2 => exact pz_br hq1 (pz_sep (s := s) (c := 32) (pz_tree f) (N s) k2)
   ·exact pz_glyph false k
theorem parse_at {kind : Int} {xs : List Item} {k : Nat} (h : parseG s kind = .ok xs k) : ∀ q ∈ codesL xs, q.2 < s.length := by
 unfold parseG at h
 split at h
 ·injection h with h _
  subst h
  intro q hq
  rw [codesL] at hq
  cases hq
 ·have key : ∀ (r : R (List Item)), PzL s r → (r.bind fun xs k => if k < s.length then R.bad k else .ok xs k) = .ok xs k → ∀ q ∈ codesL xs, q.2 < s.length := fun r hr he => by
   cases r with
   | bad _ => cases he
   | ok ys j =>
    simp only [R.bind] at he
    split at he
    ·cases he
    ·injection he with e1 e2
     subst e1
     exact hr
  split at h
  ·exact key _ (pz_sep pz_group _ _) h
  ·exact key _ (pz_sep (pz_tree _) _ _) h
end
section
variable {s : List UInt8}
end
theorem read_err {kind : Int} {l : Sg.SList} {s : List UInt8} (h : (readV kind l s).2.2 ≠ 0) : (readV kind l s).1 = [] ∧ 0 ≤ (readV kind l s).2.1 ∧ (readV kind l s).2.1 ≤ (s.length : Int) := by
 unfold readV at h ⊢
 by_cases c1 : kind ≠ 1 ∧ kind ≠ 2
 ·rw [if_pos c1]
  exact ⟨rfl, Int.le_refl _, Int.natCast_nonneg _⟩
 rw [if_neg c1] at h ⊢
 by_cases c2 : Sg.checkV l ≠ 0
 ·rw [if_pos c2]
  exact ⟨rfl, Int.le_refl _, Int.natCast_nonneg _⟩
 rw [if_neg c2] at h ⊢
 by_cases c3 : 65536 < s.length
 ·rw [if_pos c3]
  exact ⟨rfl, Int.le_refl _, Int.natCast_nonneg _⟩
 rw [if_neg c3] at h ⊢
 cases hp : parseG s kind with
 | bad j =>
  have := (parse_bad hp).1
  exact ⟨rfl, by show (0 : Int) ≤ (j : Int); omega, by show (j : Int) ≤ _; omega⟩
 | ok xs j =>
  rw [hp] at h
  simp only at h ⊢
  cases hu : unknownV l (codesL xs) with
  | some q =>
   unfold unknownV at hu
   obtain ⟨a, ha, rfl⟩ := Option.map_eq_some_iff.1 hu
   have := parse_at hp a (List.mem_of_find?_eq_some ha)
   exact ⟨rfl, by show (0 : Int) ≤ (a.2 : Int); omega, by show (a.2 : Int) ≤ _; omega⟩
  | none =>
   rw [hu] at h
   simp only at h ⊢
   by_cases c4 : Tx.checkT l (flatL 0 (resL (signIx l) xs)) ≠ 0
   ·rw [if_pos c4]
    exact ⟨rfl, Int.le_refl _, Int.natCast_nonneg _⟩
   ·rw [if_neg c4] at h
    exact absurd rfl h
end Cd
namespace Go.Proofs.YtenmkbpdkfhbjaaGreat
open Go Go.RowKit

theorem far_small {l : Sg.SList} {t : ByteArray} (h : Cd.farB l t = false) : Sg.Small l ∧ t.size ≤ 3000 := by
 unfold Cd.farB at h
 rw [Bool.or_eq_false_iff] at h
 have h1 := h.1
 unfold Sg.largeV at h1
 rw [Bool.or_eq_false_iff] at h1
 refine ⟨(Sg.big_small h1.1).1, ?_⟩
 have := of_decide_eq_false h.2
 omega
theorem rdsl_shape {w : World} {B : Nat} {v : Value} {l : Sg.SList} (h : RdSL w B v l) : ∃ A c, v = .agg #[.int .i64 l.periods, .slice A l.signs.length c] := by
 obtain ⟨⟨u, rfl, hg⟩, -⟩ := h
 obtain ⟨A, c, rfl⟩ := hg.form
 exact ⟨A, c, rfl⟩
end Go.Proofs.YtenmkbpdkfhbjaaGreat
