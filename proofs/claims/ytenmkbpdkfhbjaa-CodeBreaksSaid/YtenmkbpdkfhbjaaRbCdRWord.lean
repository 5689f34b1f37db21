/- code.written: a text in a code, whichever it is.; The program's reader: the word of a kind. -/
import Derived.Test.YtenmkbpdkfhbjaaRbCTree
import Derived.Test.YtenmkbpdkfhbjaaRbCdWord
namespace Go.Proofs.Ytenmkbpdkfhbjaa
open Go Go.RowKit

theorem lc_write_any (L : Sg.SList) (vl : Value) (B b d : Nat) (hLc : ∀ s ∈ L.signs, s.code.size ≤ 100) (xs : List Cd.Item) (A : Option Addr) (c : Nat) (acc : List UInt8) (W : World)
    (hb : Lib.IsBuilder 85 5 B b (Lib.byteCells acc) W) (hB : B ≤ W.heap.size) (hl : RdSL W B vl L) (hk : RdH (KGd d) 76 W (okW b W) (.slice A xs.length c) xs) (hok : Cd.OkL L xs) (hlen : acc.length + (Cd.unL 45 false (Cd.nameL L xs)).length ≤ 10000000) :
    Calls Try.prog 55 #[.agg #[], .pointer (some ⟨b, 0, none⟩), vl, .slice A xs.length c] W (RetWr B b (acc ++ Cd.unL 45 false (Cd.nameL L xs)) W) := by
  have HALL := Lib.hid (ll_any L vl B b hLc d)
  have HL := Lib.hid hl
  have HB := Lib.hid hB
  have HK := Lib.hid hk
  have HOK := Lib.hid hok
  have HLEN := Lib.hid hlen
  have HIB := Lib.hid hb
  obtain ⟨⟨us, rfl, hsg⟩, -⟩ := hl
  obtain ⟨As, cs, rfl, -⟩ := id hsg
  have HCALL : Hid (∀ (W1 : World), Below W.heap.size W W1 → Calls Try.prog 58 #[.agg #[], .pointer (some ⟨b, 0, none⟩), .agg #[.int .i64 L.periods, .slice As L.signs.length cs], .slice A xs.length c, .string ⟨#[45]⟩, .int .i64 0] W1 (RetWr B b (acc ++ Cd.unL 45 false (Cd.nameL L xs)) W1)) := Lib.hid fun W1 q => by
    have := HALL.out xs A c 45 0 acc W1 (isB_below HIB.out q) (Nat.le_trans HB.out q.size) (HL.out.keep (Nat.le_refl _) (q.mono HB.out)) (its_side HK.out (Side.of q)) HOK.out HLEN.out
    exact this
  have HRES : Hid (∀ W1 W', Below W.heap.size W W1 → RetWr B b (acc ++ Cd.unL 45 false (Cd.nameL L xs)) W1 (.returned (.tuple #[])) W' → RetWr B b (acc ++ Cd.unL 45 false (Cd.nameL L xs)) W (.returned (.tuple #[])) W') := Lib.hid fun W1 W' q1 q2 => ⟨rfl, q2.2.1, (q1.mono HB.out).trans q2.2.2.1, (Side.of q1).trans q2.2.2.2⟩
  clear hsg hb hB hk hok hlen HALL
  go_enter Try.func55, Try.ntmps55
  go_wp2_with fail
  refine at_worldF ?_
  intro WL hWL
  have hbl : Below W.heap.size W WL := by rw [hWL]; exact ((Below.refl _ _).alloc (Nat.le_refl _) _).alloc (by simp) _
  have HBL := Lib.hid hbl
  clear hWL hbl
  refine (HCALL.out WL HBL.out).mono ?_
  intro e w1 hr
  obtain ⟨rfl, -⟩ := id hr
  have HR := Lib.hid (HRES.out WL w1 HBL.out hr)
  clear hr
  go_wp2_with fail
  go_end0
  exact HR.out
/-- a text as a code has it -/
def WrOf (kind : Int) (L : Sg.SList) (xs : List Cd.Item) : List UInt8 := if kind = 1 then Cd.unL 45 false (Cd.nameL L xs) else Cd.utL (Cd.nameL L xs)
theorem wrOf_grown (kind : Int) (L : Sg.SList) (ns : List Tx.Node) : WrOf kind L (Cd.growT 0 ns).1 = Cd.writeV kind L ns := by
  unfold WrOf Cd.writeV
  rw [Cd.growT_of (by omega)]
theorem codes_fine {L : Sg.SList} (h : Sg.checkV L = 0) : ∀ s ∈ L.signs, s.code.size ≤ 100 := fun s hs => by
  have := (Cd.code_ok ((Sg.fineS h).2.2 s hs).c).len
  have h2 : s.code.data.toList.length = s.code.size := by simp
  omega
theorem write_bound {kind : Int} {L : Sg.SList} {ns : List Tx.Node} (hv : Cd.Valid L ns) (hn : ns.length ≤ 1000) : (WrOf kind L (Cd.growT 0 ns).1).length ≤ 400000 := by
  have hd : Tx.Deep ns := Tx.deep_of hv.own
  have hc := codes_fine hv.list
  have hs : Cd.sizeL (Cd.growT 0 ns).1 = ns.length := by
    rw [← Cd.growT_of (f := ns.length + 1) (by omega)]
    exact Cd.grow_size hd
  unfold WrOf
  split
  · have := Cd.un_shortL hc 45 false _ (Cd.ok_grown hv)
    omega
  · have := Cd.ut_shortL hc _ (Cd.ok_grown hv)
    omega
set_option maxRecDepth 100000 in
set_option maxHeartbeats 16000000 in
theorem written_go (kind : Int) (T : TypeId) (g : FuncId) (hme : ∀ W : World, (method 265 T (.agg #[]) "ostracon/code.write").run Try.prog W = .ok (g, .agg #[]) W) (heg : ∀ (args : Array Value) (W : World), (callFunc g args).run Try.prog W = .ok (.enter g args) W)
    (L : Sg.SList) (ns : List Tx.Node) (vl : Value) (w : World) (A : Option Addr) (c : Nat) (hl : RdSL w w.heap.size vl L) (h : RdN w w.heap.size (.slice A ns.length c) ns) (hv : Cd.Valid L ns) (hn : ns.length ≤ 1000)
    (hwr : ∀ (B b d : Nat) (xs : List Cd.Item) (A : Option Addr) (c : Nat) (W : World), Lib.IsBuilder 85 5 B b (Lib.byteCells []) W → B ≤ W.heap.size → RdSL W B vl L → RdH (KGd d) 76 W (okW b W) (.slice A xs.length c) xs → Cd.OkL L xs → (WrOf kind L xs).length ≤ 10000000 → Calls Try.prog g #[.agg #[], .pointer (some ⟨b, 0, none⟩), vl, .slice A xs.length c] W (RetWr B b (WrOf kind L xs) W)) :
    Calls Try.prog 18 #[.iface T (.agg #[]), vl, .agg #[.slice A ns.length c]] w (RetSt (Cd.writeV kind L ns) w) := by
  have HL := Lib.hid hl
  have HR := Lib.hid h
  have HV := Lib.hid hv
  have HN := Lib.hid hn
  obtain ⟨⟨us, rfl, hsg⟩, -⟩ := hl
  obtain ⟨As, cs, rfl, -⟩ := id hsg
  have HWR := Lib.hid hwr
  obtain ⟨Z, hZ⟩ : ∃ Z, Z = w.heap.size := ⟨_, rfl⟩
  have HZ := Lib.hid hZ
  have HG : Hid (∀ W1, Below Z w W1 → Calls Try.prog 26 #[.slice A ns.length c, .int .i64 0] W1 (RetGr 0 ns Z W1)) := Lib.hid fun W1 q => by
    have := grow_any (ns.length + 1) ns 0 A c W1 Z (by omega) (by rw [HZ.out] at q ⊢; exact HR.out.below q) (by have := q.size; have := HZ.out; omega) (by have := HN.out; omega)
    exact this
  have HOKL := Lib.hid (Cd.ok_grown hv)
  have HLEN : Hid ((WrOf kind L (Cd.growT 0 ns).1).length ≤ 10000000) := Lib.hid (by have := write_bound (kind := kind) hv hn; omega)
  have HRES : Hid (∀ W', Below Z w W' → RetSt (Cd.writeV kind L ns) w (.returned (.string (Cd.bs (WrOf kind L (Cd.growT 0 ns).1)))) W') := Lib.hid fun W' q => ⟨by rw [wrOf_grown], by rw [← HZ.out]; exact q⟩
  obtain ⟨xs, hxs⟩ : ∃ xs, xs = (Cd.growT 0 ns).1 := ⟨_, rfl⟩
  obtain ⟨rs, hrs⟩ : ∃ rs, rs = (Cd.growT 0 ns).2 := ⟨_, rfl⟩
  have HG2 : Hid (∀ W1, Below Z w W1 → Calls Try.prog 26 #[.slice A ns.length c, .int .i64 0] W1 (fun e w' => ∃ A1 c1 A2 c2, e = .returned (.tuple #[.slice A1 xs.length c1, .slice A2 rs.length c2]) ∧ Below W1.heap.size W1 w' ∧ OwnG KG 76 w' W1.heap.size (.slice A1 xs.length c1) xs)) := Lib.hid fun W1 q => by
    refine (HG.out W1 q).mono ?_
    rintro e w' ⟨A1, c1, A2, c2, q1, q2, q3, -⟩
    rw [hxs, hrs]
    exact ⟨A1, c1, A2, c2, q1, q2, q3⟩
  rw [← hxs] at HOKL HLEN HRES
  clear hsg h hv hn hwr hZ HG hxs hrs
  go_enter Try.func18, Try.ntmps18
  go_wp2_with fail
  simp only [Nat.add_assoc, Nat.reduceAdd]
  rw [← HZ.out]
  refine at_worldF ?_
  intro WL hWL
  obtain ⟨hsz, hbl, b0, b1, b2⟩ := alloc3 _ _ _ _ _ hWL
  have hfb : Lib.IsBuilder 85 5 (Z + 2) (Z + 2) (Lib.byteCells []) WL := by
    have := Lib.fresh_isBuilder 85 5 ((w.alloc (.cells #[.int .i64 L.periods, .slice As L.signs.length cs] 24)).alloc (.cells #[.slice A ns.length c] 32))
    rw [hWL]
    have e2 : ((w.alloc (.cells #[.int .i64 L.periods, .slice As L.signs.length cs] 24)).alloc (.cells #[.slice A ns.length c] 32)).heap.size = Z + 2 := by rw [HZ.out]; simp
    rw [e2] at this
    exact this
  rw [← HZ.out] at hsz hbl b0 b1 b2
  have HBL := Lib.hid hbl
  have HB0 := Lib.hid b0
  have HFB := Lib.hid hfb
  have HSZ := Lib.hid hsz
  clear hWL hbl b0 b1 b2 hfb hsz
  refine (HG2.out WL HBL.out).mono ?_
  rintro e w1 ⟨A1, c1, A2, c2, rfl, hb1, ho1⟩
  have HB1 := Lib.hid hb1
  have hb1z : Below (Z + 2) WL w1 := hb1.mono (by have := HSZ.out; omega)
  have hz1 : Z + 2 ≤ w1.heap.size := by have := hb1.size; have := HSZ.out; omega
  have HI1 := Lib.hid (isB_below HFB.out hb1)
  have HBZ := Lib.hid (HBL.out.trans (hb1z.mono (by omega)))
  have c0 := (hb1.block Z (by have := HSZ.out; omega)).trans HB0.out
  obtain ⟨x0, x1⟩ := box2_cells c0
  have hh := ho1.head
  obtain ⟨d, hd⟩ := hh.deepG
  have HD := Lib.hid (its_typed (b := Z + 2) (fun q hq => by have := hq.2; have := HSZ.out; omega) d _ _ hd)
  have HCALL : Hid (Calls Try.prog g #[.agg #[], .pointer (some ⟨Z + 2, 0, none⟩), .agg #[.int .i64 L.periods, .slice As L.signs.length cs], .slice A1 xs.length c1] w1 (RetWr (Z + 2) (Z + 2) (WrOf kind L xs) w1)) := Lib.hid (HWR.out (Z + 2) (Z + 2) d xs A1 c1 w1 HI1.out hz1 (HL.out.keep (by have := HZ.out; omega) (by rw [← HZ.out]; exact HBZ.out)) HD.out HOKL.out HLEN.out)
  clear hb1 ho1 hb1z c0 hh hd
  go_wp2_with fail
  refine HCALL.out.mono ?_
  rintro e w2 ⟨rfl, hi2, hb2, hs2⟩
  have HI2 := Lib.hid hi2
  have HB2 := Lib.hid (HBZ.out.trans (hb2.mono (by omega)))
  have hz2 : Z + 2 ≤ w2.heap.size := Nat.le_trans hz1 hb2.size
  clear hi2 hb2 hs2 x0 x1 HCALL
  go_wp2_with fail
  refine (Try.Builder_String_any (Z + 2) (Z + 2) _ w2 HI2.out hz2).mono ?_
  rintro e w3 ⟨rfl, hb3⟩
  have HB3 := Lib.hid (HB2.out.trans (hb3.mono (by omega)))
  clear hb3
  go_wp2_with fail
  go_ret
  exact HRES.out w3 HB3.out
end Go.Proofs.Ytenmkbpdkfhbjaa
namespace Go.Proofs.Ytenmkbpdkfhbjaa
open Go Go.RowKit

theorem toList_not {s : ByteArray} (h : 0 < s.size) : s.toList.isEmpty = false := by
  rw [Go.Lib.toList_data]
  cases e : s.data.toList with
  | nil => have : s.size = 0 := by have := congrArg List.length e; simpa using this
           omega
  | cons a l => rfl
set_option maxRecDepth 100000 in
set_option maxHeartbeats 16000000 in
theorem rword_any (R : Nat) (cv : Value) (s : ByteArray) (k : Nat) (w : World) (h : RdrIs R cv s k w) (hs : s.size ≤ 1000000) :
    Calls Try.prog 99 #[.pointer (some ⟨R, 0, none⟩)] w (RetP R cv s vlN (Cd.wordG s.data.toList k) w) := by
  have HMU := Lib.hid (fun (j : Nat) (c : UInt8) (W : World) (hr : RdrIs R cv s j W) => must_any R cv s j c W hr hs)
  have HR := Lib.hid h
  have hRl := h.at.2.2.2.2
  obtain ⟨q, hq⟩ : ∃ q, q = Cd.kindAt s.data.toList[k]? := ⟨_, rfl⟩
  have hqr : q = 0 ∨ (q = 2 ∨ q = 3 ∨ q = 4 ∨ q = 5 ∨ q = 7) := by rw [hq]; exact kind_range _
  have HQ : Hid (Cd.wordG s.data.toList k = if q = 0 then .bad k else if Cd.commonL (s.data.toList.drop k) (Cd.wordOf q) = (Cd.wordOf q).length then .ok q (k + (Cd.wordOf q).length) else .bad (k + Cd.commonL (s.data.toList.drop k) (Cd.wordOf q))) := Lib.hid (by rw [hq]; rfl)
  have HKF := Lib.hid (fun (κ : Int) (hκ : κ = 2 ∨ κ = 3 ∨ κ = 4 ∨ κ = 5 ∨ κ = 7) => kind_first (s := s) (k := k) hκ)
  rw [← hq] at HKF
  have HQR := Lib.hid hqr
  clear h hq hqr
  go_enter Try.func99, Try.ntmps99
  go_wp2_with fail
  go_loopg [3] 6 (fun g i wr => ∃ κ : Nat, 2 ≤ κ ∧ κ ≤ 8 ∧ g = 8 - κ ∧ Value.int .i64 κ = i ∧ Below w.heap.size w wr ∧ (q = 0 ∨ (κ : Int) ≤ q))
  case atStart => exact ⟨2, by omega, by omega, rfl, rfl, Below.refl _ _, by have := HQR.out; omega⟩
  case round =>
    obtain ⟨κ, h2, h8, rfl, rfl, hb, hle⟩ := hrel
    have HB := Lib.hid hb
    have HLE := Lib.hid hle
    have hRw : RdrIs R cv s k wr := HR.out.keep (hb.block R hRl)
    have HRw := Lib.hid hRw
    clear hb hle hRw
    by_cases h7 : κ ≤ 7
    · have d1 : decide ((κ : Int) ≤ 7) = true := by simp; omega
      have HWD := Lib.hid (fun (W : World) => word_any (κ : Int) W)
      unfold RetWd at HWD
      by_cases h6 : κ = 6
      · have hW : wordS (κ : Int) = ⟨#[]⟩ := by rw [h6]; rfl
        rw [hW] at HWD
        have hq6 : q = 0 ∨ ((κ + 1 : Nat) : Int) ≤ q := by have := HLE.out; have := HQR.out; omega
        clear hW h6
        go_wp2_with fail
        refine (HWD.out _).mono ?_
        rintro e w3 ⟨rfl, rfl⟩
        go_wp2_with fail
        go_quiet (fail)
        go_wp2_with fail
        go_roundg (8 - (κ + 1))
        case measure => omega
        case rel => exact ⟨κ + 1, by omega, by omega, rfl, by go_num, HB.out.trans (drew_below _), hq6⟩
      · have hκ : (κ : Int) = 2 ∨ (κ : Int) = 3 ∨ (κ : Int) = 4 ∨ (κ : Int) = 5 ∨ (κ : Int) = 7 := by omega
        obtain ⟨b, hb0, hbk⟩ := HKF.out κ hκ
        have HW0 : Hid ((wordS (κ : Int)).data.toList = Cd.wordOf κ) := Lib.hid (by unfold wordS; rw [if_pos hκ]; rfl)
        obtain ⟨W, hW⟩ : ∃ W, W = wordS (κ : Int) := ⟨_, rfl⟩
        rw [← hW] at hb0 HW0 HWD
        have hl0 : 0 < W.size := by simpa using (List.getElem?_eq_some_iff.1 hb0).1
        have hl1 : (0 : Int) < (W.size : Int) := by omega
        have hE := toList_not hl0
        have hWb : W[0] = b := by
          have := (List.getElem?_eq_some_iff.1 hb0).2
          exact this
        have HNX := Lib.hid (fun (n : Nat) => next_quiet R cv s k (wr.drewN n) (HRw.out.keep rfl))
        obtain ⟨m, hm⟩ : ∃ m, m = nextB s k := ⟨_, rfl⟩
        rw [← hm] at HNX hbk
        clear hW hm hκ hb0
        by_cases hqk : q = (κ : Int)
        · have hne : (m != ((W[0].toNat : Nat) : Int)) = false := by rw [hWb]; simpa using hbk.2 hqk
          have HQK := Lib.hid hqk
          clear hWb hbk hqk
          go_wp2_with fail
          refine (HWD.out _).mono ?_
          rintro e w3 ⟨rfl, rfl⟩
          go_wp2_with fail
          go_quiet ((go_at_call 67; exact Calls.quiet_of (HNX.out _)))
          obtain ⟨C, hC⟩ : ∃ C, C = Cd.commonL (s.data.toList.drop k) W.data.toList := ⟨_, rfl⟩
          have HQ4 : Hid (Cd.wordG s.data.toList k = if C = W.size then .ok (κ : Int) (k + W.size) else .bad (k + C)) := Lib.hid (by
            have hl : W.size = W.data.toList.length := by simp
            rw [HQ.out, if_neg (by have := HQK.out; omega), HQK.out, ← HW0.out, ← hC, ← hl])
          have HCA : Hid (∀ n, n ≤ C → n < W.size → ∀ b, W.data.toList[n]? = some b → ((s.data.toList.drop k)[n]? = some b → n + 1 ≤ C) ∧ ((s.data.toList.drop k)[n]? ≠ some b → C = n)) := Lib.hid (by rw [hC]; exact fun n h1 h2 => common_all _ _ n h1 (by simpa using h2))
          have hmx : W.size ≤ 100 := by
            have e : W.size = (Cd.wordOf (κ : Int)).length := by rw [← HW0.out]; simp
            have : (Cd.wordOf (κ : Int)).length ≤ 100 := by
              unfold Cd.wordOf
              repeat' split
              all_goals simp
            omega
          have HCL : Hid (C ≤ W.size) := Lib.hid (by rw [hC]; have := Cd.common_le (s.data.toList.drop k) W.data.toList; simpa using this)
          clear hC
          go_wp2_with fail
          go_loopg [23] W.size (fun g i wv => ∃ n : Nat, n ≤ W.size ∧ g = W.size - n ∧ Value.int .i64 n = i ∧ w.grownBy wv (some R) ∧ RdrIs R cv s (k + n) wv ∧ n ≤ C)
          case atStart => exact ⟨0, Nat.zero_le _, rfl, rfl, grown_of_below (HB.out.trans (drew_below _)), HRw.out.keep rfl, Nat.zero_le _⟩
          case round =>
            rename_i wv _
            obtain ⟨n, hn, rfl, rfl, hg, hr, hc⟩ := hrel
            have HG := Lib.hid hg
            have HRv := Lib.hid hr
            clear hg hr
            by_cases hnl : n < W.size
            · have d2 : decide ((n : Int) < (W.size : Int)) = true := by simpa using hnl
              have d3 : (0 : Int) ≤ (n : Int) := by omega
              have d4 : (n : Int) < (W.size : Int) := by omega
              have hb : W.data.toList[n]? = some W[n] := by rw [List.getElem?_eq_getElem (by simpa using hnl)]; rfl
              obtain ⟨hy, hnn⟩ := HCA.out n hc hnl _ hb
              rw [List.getElem?_drop] at hy hnn
              have HM := Lib.hid (HMU.out (k + n) W[n] _ HRv.out)
              unfold RetP at HM
              cases hsee : Cd.sees s.data.toList (k + n) W[n]
              · have hmu : Cd.must s.data.toList (k + n) W[n] = .bad (k + n) := by unfold Cd.must; rw [if_neg (by rw [hsee]; exact Bool.false_ne_true)]
                have hCn := hnn (by simpa [Cd.sees] using hsee)
                have HQB : Hid (Cd.wordG s.data.toList k = .bad (k + n)) := Lib.hid (by rw [HQ4.out, hCn, if_neg (by omega)])
                rw [hmu] at HM
                clear hb hy hnn hsee hmu hCn
                go_wp2_with fail
                refine HM.out.mono ?_
                rintro e w6 ⟨hgw, rfl⟩
                rw [HQB.out]
                exact ⟨rfl, grown_trans HG.out hgw, rfl⟩
              · have hmu : Cd.must s.data.toList (k + n) W[n] = .ok () (k + n + 1) := by unfold Cd.must; rw [if_pos hsee]
                have hCn := hy (by simpa [Cd.sees] using hsee)
                rw [hmu] at HM
                clear hb hy hnn hsee hmu
                go_wp2_with fail
                refine HM.out.mono ?_
                rintro e w6 ⟨hgw, hrw, _, rfl, rfl⟩
                have HG6 := Lib.hid (grown_trans HG.out hgw)
                have HR6 := Lib.hid hrw
                clear hgw hrw HM
                go_wp2_with fail
                go_roundg (W.size - (n + 1))
                case measure => omega
                case rel => exact ⟨n + 1, by omega, rfl, by go_num, HG6.out, HR6.out, hCn⟩
            · have d2 : decide ((n : Int) < (W.size : Int)) = false := by simpa using hnl
              have hnW : n = W.size := by omega
              have HQO : Hid (Cd.wordG s.data.toList k = .ok (κ : Int) (k + n)) := Lib.hid (by rw [HQ4.out, if_pos (by have := HCL.out; omega), hnW])
              clear hnW
              go_wp2_with fail
              go_ret
              rw [HQO.out]
              exact ⟨HG.out, HRv.out, _, rfl, rfl⟩
        · have hne : (m != ((W[0].toNat : Nat) : Int)) = true := by rw [hWb]; simpa using fun e => hqk (hbk.1 e)
          have hq7 : q = 0 ∨ ((κ + 1 : Nat) : Int) ≤ q := by have := HLE.out; omega
          clear hWb hbk
          go_wp2_with fail
          refine (HWD.out _).mono ?_
          rintro e w3 ⟨rfl, rfl⟩
          go_wp2_with fail
          go_quiet ((go_at_call 67; exact Calls.quiet_of (HNX.out _)))
          go_wp2_with fail
          go_roundg (8 - (κ + 1))
          case measure => omega
          case rel => exact ⟨κ + 1, by omega, by omega, rfl, by go_num, HB.out.trans (drew_below _), hq7⟩
    · have d1 : decide ((κ : Int) ≤ 7) = false := by simp; omega
      have hq0 : q = 0 := by have := HLE.out; have := HQR.out; omega
      have HQB : Hid (Cd.wordG s.data.toList k = .bad k) := Lib.hid (by rw [HQ.out, if_pos hq0])
      have HF := Lib.hid (fail_any R cv s k wr HRw.out)
      clear hq0
      go_wp2_with fail
      refine HF.out.mono ?_
      rintro e w2 ⟨rfl, hb2⟩
      rw [HQB.out]
      exact ⟨rfl, grown_below (grown_of_below HB.out) hb2, rfl⟩
end Go.Proofs.Ytenmkbpdkfhbjaa
