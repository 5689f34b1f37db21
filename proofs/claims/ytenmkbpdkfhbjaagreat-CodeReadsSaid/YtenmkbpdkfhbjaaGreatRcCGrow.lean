/- The document's reader: a group of the line code.; Items that code.grow makes: their signs stand in them.; Growing items, without fuel: plain.; code.grow: items of nodes. -/
import Derived.Test.YtenmkbpdkfhbjaaGreatRcR3Part
import Derived.Test.YtenmkbpdkfhbjaaGreatRcCdKids
import Derived.Test.YtenmkbpdkfhbjaaGreatRcR3Rdr
import Derived.Test.YtenmkbpdkfhbjaaGreatRcSgFmtPlain
import Derived.Test.YtenmkbpdkfhbjaaGreatRcCdVisit
import Derived.Test.YtenmkbpdkfhbjaaGreatRcCdSize
import Derived.Lib.SmallJoins
namespace Go.Proofs.YtenmkbpdkfhbjaaGreat
open Go Go.RowKit

set_option maxRecDepth 100000 in
set_option maxHeartbeats 16000000 in
theorem group3_any (R : Nat) (L : Sg.SList) (As : Option Addr) (cs : Nat) (s : ByteArray) (kind : Int) (hkd : kind = 1) (k : Nat) (u : Int) (w : World) (h : R3Is R L As cs s kind k u w) (hs : s.size ≤ 1000000) (hv : Sg.checkV L = 0) (hl : LR w R L As cs) :
  Calls Tryz.prog 66 #[.pointer (some ⟨R, 0, none⟩)] w (RetR R L As cs s kind u (Cd.groupG s.data.toList k) w) := by
 have HTK := Lib.hid (fun (j : Nat) (u : Int) (c : UInt8) (W : World) (hr : R3Is R L As cs s kind j u W) => takes3_any R L As cs s kind j u c W hr hs)
 obtain ⟨p, hp⟩ : ∃ p, p = Cd.partG s.data.toList := ⟨_, rfl⟩
 have HOV : Hid (∀ (j : Nat) (u : Int) (W : World), w.grownBy W (some R) → R3Is R L As cs s kind j u W → Calls Tryz.prog 89 #[.pointer (some ⟨R, 0, none⟩)] W (RetR R L As cs s kind u (p j) W)) := Lib.hid fun j u' W hg hr => by
  rw [hp]
  exact part3_any R L As cs s kind hkd j u' W hr hs hv (hl.go hg)
 have HMO : Hid (∀ j, j ≤ (p j).pos) := Lib.hid fun j => by rw [hp]; exact Cd.part_mono j
 have HSZ : Hid (∀ j, Cd.Sz j (p j)) := Lib.hid fun j => by rw [hp]; exact Cd.sz_part j
 have HQ0 : Hid (Cd.groupG s.data.toList k = if Cd.sees s.data.toList k 60 = true then (Cd.sepG s.data.toList p 45 (Cd.N s.data.toList) (k + 1)).bind fun xs k1 => (Cd.must s.data.toList k1 62).bind fun _ k2 => .ok (.mk (Cd.kindN 5) [] 0 xs) k2 else p k) := Lib.hid (by unfold Cd.groupG; rw [hp])
 have HRl := Lib.hid h.lt
 have HT0 := Lib.hid (HTK.out k u 60 w h)
 unfold RetTk at HT0
 clear h hl hp
 cases hsee : Cd.sees s.data.toList k 60
 ·rw [hsee] at HT0
  have HQ : Hid (Cd.groupG s.data.toList k = p k) := Lib.hid (by rw [HQ0.out, if_neg (by rw [hsee]; exact Bool.false_ne_true)])
  clear hsee
  go_enter Tryz.func66, Tryz.ntmps66
  go_wp2_with fail
  refine HT0.out.mono ?_
  rintro e w1 ⟨rfl, hg1, hr1⟩
  rw [if_neg Bool.false_ne_true] at hr1
  have HG := Lib.hid (HOV.out k u w1 hg1 hr1)
  have HG1 := Lib.hid hg1
  clear hg1 hr1 HT0
  go_wp2_with fail
  refine HG.out.mono ?_
  intro e w2 hr
  obtain ⟨A, n, c, b, rfl, hr2⟩ := hr.tup
  have HRES := Lib.hid (retR_trans HG1.out hr2)
  clear hr hr2
  go_wp2_with fail
  refine bodyPost_ret (results_tmp2 rfl _ _ _) rfl ?_
  rw [HQ.out]
  exact HRES.out
 rw [hsee] at HT0
 have HQ : Hid (Cd.groupG s.data.toList k = (Cd.sepG s.data.toList p 45 (Cd.N s.data.toList) (k + 1)).bind fun xs k1 => (Cd.must s.data.toList k1 62).bind fun _ k2 => .ok (.mk (Cd.kindN 5) [] 0 xs) k2) := Lib.hid (by rw [HQ0.out, if_pos hsee])
 have hkl : k < s.size := by have := Cd.sees_lt' hsee; simpa using this
 clear hsee
 go_enter Tryz.func66, Tryz.ntmps66
 go_wp2_with fail
 refine HT0.out.mono ?_
 rintro e w1 ⟨rfl, hg1, hr1⟩
 rw [if_pos trivial] at hr1
 obtain ⟨T, hT⟩ : ∃ T, T = Cd.sepG s.data.toList p 45 (Cd.N s.data.toList) (k + 1) := ⟨_, rfl⟩
 rw [← hT] at HQ
 have HK : Hid (Lq3 w R L As cs s kind u p 45 T (k + 1) (k + 1) (Cd.N s.data.toList) (.slice none 0 0) [] w1) := Lib.hid ⟨K3.zero hg1 hr1 HRl.out, by rw [hT]; cases Cd.sepG s.data.toList p 45 (Cd.N s.data.toList) (k + 1) <;> rfl, by unfold Cd.N; omega, Nat.le_refl _⟩
 clear hg1 hr1 HT0 hT
 go_wp2_with fail
 go_loopg [4] (s.size + 1 - k) (fun g v wr => ∃ xs j n, g = s.size + 1 - j + 1 ∧ j ≤ s.size ∧ Lq3 w R L As cs s kind u p 45 T (k + 1) j n v xs wr)
 case atStart => exact ⟨[], k + 1, _, by omega, by omega, HK.out⟩
 case round =>
  clear HK
  obtain ⟨xs, j, n, rfl, hjs, hl⟩ := hrel
  have HL := Lib.hid hl
  obtain ⟨Ak, ck, rfl⟩ := hl.st.form
  have HG := Lib.hid (HOV.out j _ wr hl.st.g hl.st.r)
  unfold RetR at HG
  have hn0 : 0 < n := by have := hl.fuel; omega
  have hmo := HMO.out j
  have hzo := HSZ.out j
  have HTB := Lib.hid (fun (jb : Nat) (hp : p j = .bad jb) => (HL.out.tot).symm.trans (Cd.sepl_bad (xs := xs) hn0 hp))
  have HTS := Lib.hid (fun (y : Cd.Item) (j1 : Nat) (hp : p j = .ok y j1) (hq : Cd.sees s.data.toList j1 45 = false) => (HL.out.tot).symm.trans (Cd.sepl_stop (xs := xs) hn0 hp hq))
  have HTM := Lib.hid (fun (y : Cd.Item) (j1 : Nat) (hp : p j = .ok y j1) (hk : j ≤ j1) (hq : Cd.sees s.data.toList j1 45 = true) => Cd.sepl_more (xs := xs) HL.out.fuel hp hk hq)
  clear hl hn0
  cases hq : p j with
  | bad jb =>
   rw [hq] at HG
   have HTT := Lib.hid (HTB.out jb (by exact hq))
   have HQB : Hid (Cd.groupG s.data.toList k = .bad jb) := Lib.hid (by rw [HQ.out, HTT.out]; rfl)
   clear hq hmo hzo
   go_wp2_with fail
   refine HG.out.mono ?_
   rintro e w6 ⟨hg6, A6, n6, c6, u6, rfl, hr6⟩
   have HRES := Lib.hid (retR_bad (u := u) (A := none) (n := 0) (c := 0) (grown_trans HL.out.st.g hg6) hr6 HQB.out)
   clear hg6 hr6
   go_wp2_with fail
   refine bodyPost_ret (results_tmp2 rfl _ _ _) rfl ?_
   exact HRES.out
  | ok y j2 =>
   rw [hq] at HG
   have hpy : p j = .ok y j2 := by exact hq
   rw [hpy] at hmo hzo
   have hj2 : j ≤ j2 := hmo
   have hzy : Cd.sizeI y + j ≤ j2 := hzo.1
   have HPY := Lib.hid hpy
   clear hq hmo hzo hpy
   go_wp2_with fail
   refine HG.out.mono ?_
   rintro e w6 ⟨hg6, A6, c6, rfl, hr6, hx6⟩
   have HB7 : Hid (Below w6.heap.size w6 (w6.alloc (.cells #[.slice A6 (Cd.nodI L y).length c6] 25))) := Lib.hid ((Below.refl _ _).alloc (Nat.le_refl _) _)
   have HPRE := Lib.hid (HL.out.st.pre hg6 hx6 HB7.out)
   have HNEW : Hid ((w6.alloc (.cells #[.slice A6 (Cd.nodI L y).length c6] 25)).heap[w6.heap.size]? = some (.cells #[.slice A6 (Cd.nodI L y).length c6] 25 (0, 0))) := Lib.hid (heap_alloc_new _ _)
   have HFEW : Hid ((xs.map (Cd.nodI L)).length ≤ 2000000) := Lib.hid (by rw [List.length_map]; exact HL.out.st.few hs)
   have HG6 := Lib.hid hg6
   have HR6 := Lib.hid hr6
   clear hg6 hr6 hx6
   go_wp2_with (at_builtin; (refine wpList_append_ns rfl (.tmp 21) (.tmp 23) rfl w.heap.size (.slice Ak xs.length ck) (xs.map (Cd.nodI L)) (Cd.nodI L y) rfl HPRE.out.1 w6.heap.size 1 A6 c6 rfl (by decide) HNEW.out HPRE.out.2.1 HFEW.out HPRE.out.2.2 ?_))
   intro v8 w8 hown8 hg8
   have HK8 := Lib.hid (HL.out.st.more HG6.out HR6.out hzy HB7.out hown8 hg8)
   obtain ⟨ys, hys⟩ : ∃ ys, ys = xs ++ [y] := ⟨_, rfl⟩
   rw [← hys] at HK8
   have HYS := Lib.hid hys
   clear hown8 hg8 hys
   obtain ⟨Av, cv, rfl⟩ := HK8.out.form
   have HT8 := Lib.hid (HTK.out j2 _ 62 w8 HK8.out.r)
   unfold RetTk at HT8
   cases hse : Cd.sees s.data.toList j2 62
   ·rw [hse] at HT8
    have HSE := Lib.hid hse
    clear hse
    go_wp2_with fail
    refine HT8.out.mono ?_
    rintro e w9 ⟨rfl, hg9, hr9⟩
    rw [if_neg Bool.false_ne_true] at hr9
    have HK9 := Lib.hid (HK8.out.call hg9 hr9 (Nat.le_refl _))
    have HT9 := Lib.hid (HTK.out j2 _ 45 w9 hr9)
    unfold RetTk at HT9
    clear hg9 hr9 HT8
    cases hse2 : Cd.sees s.data.toList j2 45
    ·rw [hse2] at HT9
     have HTT : Hid (T = .ok ys j2) := Lib.hid (by rw [HYS.out]; exact HTS.out y j2 HPY.out hse2)
     have HQB : Hid (Cd.groupG s.data.toList k = .bad j2) := Lib.hid (by rw [HQ.out, HTT.out]; simp only [Cd.R.bind]; unfold Cd.must; rw [if_neg (by rw [HSE.out]; exact Bool.false_ne_true)])
     clear hse2
     go_wp2_with fail
     refine HT9.out.mono ?_
     rintro e w10 ⟨rfl, hg10, hr10⟩
     rw [if_neg Bool.false_ne_true] at hr10
     have HRES := Lib.hid (retR_bad (u := u) (A := none) (n := 0) (c := 0) (grown_trans HK9.out.g hg10) hr10 HQB.out)
     clear hg10 hr10
     go_wp2_with fail
     refine bodyPost_ret (results_tmp2 rfl _ _ _) rfl ?_
     exact HRES.out
    ·rw [hse2] at HT9
     have HM2 := Lib.hid (HTM.out y j2 HPY.out hj2 hse2)
     have hjl : j2 < s.size := by have := Cd.sees_lt' hse2; simpa using this
     clear hse2
     go_wp2_with fail
     refine HT9.out.mono ?_
     rintro e w10 ⟨rfl, hg10, hr10⟩
     rw [if_pos trivial] at hr10
     have HK10 := Lib.hid (HK9.out.call hg10 hr10 (Nat.le_succ _))
     clear hg10 hr10
     go_wp2_with fail
     go_roundg (s.size + 1 - (j2 + 1) + 1)
     case measure => omega
     case rel =>
      obtain ⟨m, hm1, hm2⟩ := HM2.out
      exact ⟨ys, j2 + 1, m, rfl, by omega, HK10.out, by rw [HYS.out, ← hm2]; exact HL.out.tot, hm1, by have := HL.out.le; omega⟩
   ·rw [hse] at HT8
    have HTT : Hid (T = .ok ys j2) := Lib.hid (by rw [HYS.out]; exact HTS.out y j2 HPY.out (sees_other hse (by decide)))
    have HQT : Hid (Cd.groupG s.data.toList k = .ok (.mk (Cd.kindN 5) [] 0 ys) (j2 + 1)) := Lib.hid (by rw [HQ.out, HTT.out]; simp only [Cd.R.bind]; unfold Cd.must; rw [if_pos hse])
    clear hse
    go_wp2_with fail
    refine HT8.out.mono ?_
    rintro e w9 ⟨rfl, hg9, hr9⟩
    rw [if_pos trivial] at hr9
    have HK9 := Lib.hid (HK8.out.call hg9 hr9 (Nat.le_succ _))
    have HW9 := Lib.hid (K3.wrap (q := 5) HK9.out (by decide) hs)
    clear hg9 hr9 HT8
    go_wp2_with fail
    refine HW9.out.mono ?_
    rintro e w10 ⟨A10, c10, rfl, -, hr10⟩
    have HRES := Lib.hid hr10
    clear hr10
    go_wp2_with fail
    refine bodyPost_ret (results_tmp2 rfl _ _ _) rfl ?_
    rw [HQT.out]
    exact HRES.out
end Go.Proofs.YtenmkbpdkfhbjaaGreat
namespace Go.Proofs.YtenmkbpdkfhbjaaGreat
open Go Go.RowKit

def KGd : Nat → RowK Cd.Item
 | 0 => ⟨11, fun _ _ _ _ => False, fun h => h.elim, fun _ h => h.elim⟩
 | d + 1 => ⟨11, fun w ok cs x => ∃ v, cs = encN x.node ++ [.string (Cd.bs x.code), .int .i64 x.pos, v] ∧ RdH (KGd d) 114 w ok v x.kids,
  by rintro w ok cs x ⟨v, rfl, _⟩; rfl, by rintro w w' ok ok' cs x hk ⟨v, rfl, h2⟩; exact ⟨v, rfl, h2.keep hk⟩⟩
theorem kg_size (d : Nat) : (KGd d).size = 11 := by cases d <;> rfl
theorem kg_up {w : World} {ok : Nat → Prop} : ∀ (d d' : Nat), d ≤ d' → ∀ cs x, (KGd d).rd w ok cs x → (KGd d').rd w ok cs x
 | 0, _, _, _, _, h => h.elim
 | d + 1, 0, h, _, _, _ => by omega
 | d + 1, d' + 1, hd, cs, x, ⟨v, h0, h2⟩ => ⟨v, h0, h2.imp ((kg_size _).trans (kg_size _).symm) fun _ cs a _ ha => kg_up d d' (by omega) cs a ha⟩
def KG : RowK Cd.Item where
 size := 11
 rd w ok cs x := ∃ d, (KGd d).rd w ok cs x
 len := by rintro w ok cs x ⟨d, h⟩; exact ((KGd d).len h).trans (kg_size d)
 keep := by rintro w w' ok ok' cs x hk ⟨d, h⟩; exact ⟨d, (KGd d).keep hk h⟩
section
variable {w : World} {ok : Nat → Prop} {v : Value} {xs : List Cd.Item}
theorem RdH.deepG (h : RdH KG 114 w ok v xs) : ∃ d, RdH (KGd d) 114 w ok v xs := by
 obtain ⟨A, c, hv, hl, hc, hh⟩ := h
 by_cases h0 : 0 < xs.length
 ·obtain ⟨b, cur, hA, hb, hcur, hcell⟩ := hh h0
  obtain ⟨D, hD⟩ := bound_all (P := fun i d => ∀ a, xs[i]? = some a → ∃ cs, (KGd d).rd w ok cs a ∧ ∀ (j : Nat) (u : Value), cs[j]? = some u → cur[i * 11 + j]? = some u)
   (fun i d d' hd h a ha => by obtain ⟨cs, h1, h2⟩ := h a ha; exact ⟨cs, kg_up d d' hd cs a h1, h2⟩) xs.length fun i hi => by
    obtain ⟨cs, ⟨d, h1⟩, h2⟩ := hcell i _ (List.getElem?_eq_getElem hi)
    exact ⟨d, fun a ha => by rw [List.getElem?_eq_getElem hi] at ha; cases ha; exact ⟨cs, h1, h2⟩⟩
  exact ⟨D, A, c, hv, hl, hc, fun _ => ⟨b, cur, hA, hb, hcur, fun i a ha => by rw [kg_size]; exact hD i (List.getElem?_eq_some_iff.1 ha).1 a ha⟩⟩
 ·exact ⟨0, A, c, hv, hl, hc, fun h => absurd h h0⟩
theorem kg_mk {x : Cd.Item} (h : RdH KG 114 w ok v x.kids) : KG.rd w ok (encN x.node ++ [.string (Cd.bs x.code), .int .i64 x.pos, v]) x := by
 obtain ⟨d, hd⟩ := h.deepG
 exact ⟨d + 1, v, rfl, hd⟩
end
section
variable {w : World}
theorem wp_append_itemG {o : Oper} {a : Act} {K : Act → World → Prop} {Q : Exit → Act → World → Prop} (s x : Operand)
  (ho : o.op = .call { callee := .builtin .append, args := #[s, x], argTypes := #[75, 75] })
  (base : Nat) (v : Value) (xs : List Cd.Item) (y : Cd.Item) (hs : a.eval s = v) (hown : OwnG KG 114 w base v xs) (b c : Nat) (cs : List Value) (hx : a.eval x = .slice (some ⟨b, 0, none⟩) 1 c) (hc : 1 ≤ c ∧ c ≤ 9223372036854775807)
  (hb : w.heap[b]? = some (.cells cs.toArray 114 (0, 0))) (h1 : ∀ u ∈ cs, u.oneCell' = true) (hrd : KG.rd w (fun b => b < w.heap.size ∧ v.ownBlock ≠ some b ∧ base ≤ b) cs y) (hn : xs.length ≤ 2000000) (hbase : base ≤ w.heap.size)
  (h : ∀ v' w', OwnG KG 114 w' base v' (xs ++ [y]) → w.grownBy w' v.ownBlock → K (a.put o.dst v') w') : o.wp Tryz.prog a w K Q := by
 obtain ⟨i0, hi0, hz0, hs0, hb0⟩ := info_parts info_item
 obtain ⟨cells, hown, hg⟩ := hown
 have hl : cs.length = 11 := KG.len hrd
 refine wp_append_rd (enc := enc11) s x _ ho base 114 i0 _ 11 112 len_11 one_11 Tryz.underlying75 hi0 hz0 hs0 hb0 rfl (by decide) v xs.length cells hs hown w.heap.size _ [⟨cs, hl, h1⟩] hx ?_ (by simp [maxLen]; omega) (by simp; omega) hbase ?_
 ·refine ⟨_, c, rfl, hc.1, hc.2, fun _ => ⟨b, 0, rfl, lt_of_some hb, fun i q hi j u hj => ?_⟩⟩
  cases i with
  | zero =>
   simp at hi
   subst hi
   rw [(in_box hb _).1]
   simpa [enc11] using hj
  | succ i => simp at hi
 ·intro v' w' hown' hgw hat
  refine h v' w' (OwnG.snoc hg hrd (by have := hown'; simp only [List.length_singleton, List.flatMap_cons, List.flatMap_nil, List.append_nil] at this; exact this) hgw ?_) hgw
  rcases hat with e | e
  ·exact .inl e
  ·exact .inr ⟨_, e, Nat.le_refl _⟩
theorem wpList_append_itemG {ops : Array Oper} {rest : List Oper} {o : Oper} {a : Act} {Q : Exit → Act → World → Prop} (hgd : o.guard = none) (s x : Operand)
  (ho : o.op = .call { callee := .builtin .append, args := #[s, x], argTypes := #[75, 75] })
  (base : Nat) (v : Value) (xs : List Cd.Item) (y : Cd.Item) (hs : a.eval s = v) (hown : OwnG KG 114 w base v xs) (b c : Nat) (cs : List Value) (hx : a.eval x = .slice (some ⟨b, 0, none⟩) 1 c) (hc : 1 ≤ c ∧ c ≤ 9223372036854775807)
  (hb : w.heap[b]? = some (.cells cs.toArray 114 (0, 0))) (h1 : ∀ u ∈ cs, u.oneCell' = true) (hrd : KG.rd w (fun b => b < w.heap.size ∧ v.ownBlock ≠ some b ∧ base ≤ b) cs y) (hn : xs.length ≤ 2000000) (hbase : base ≤ w.heap.size)
  (h : ∀ v' w', OwnG KG 114 w' base v' (xs ++ [y]) → w.grownBy w' v.ownBlock → wpList Tryz.prog ops Q rest (a.put o.dst v') w') : wpList Tryz.prog ops Q (o :: rest) a w :=
 wpList_plain hgd fun _ hK => wp_append_itemG s x ho base v xs y hs hown b c cs hx hc hb h1 hrd hn hbase fun v' w' q1 q2 => hK _ _ (h v' w' q1 q2)
end
theorem RdN.tail {w : World} {B : Nat} {A : Option Addr} {n : Tx.Node} {l : List Tx.Node} {c : Nat} (h : RdN w B (.slice A (n :: l).length c) (n :: l)) : ∃ b off, A = some ⟨b, off, none⟩ ∧ b < B ∧ RdN w B (.slice (some ⟨b, off + 8, none⟩) l.length (c - 1)) l := by
 obtain ⟨A', c', hv, hl, hc, hh⟩ := h
 cases hv
 obtain ⟨b, off, rfl, hb, hcell⟩ := hh (by simp)
 refine ⟨b, off, rfl, hb, some ⟨b, off + 8, none⟩, c - 1, rfl, by simp at hl; omega, by omega, fun h0 => ⟨b, off + 8, rfl, hb, fun i x hi j u hu => ?_⟩⟩
 have := hcell (i + 1) x (by simpa using hi) j u hu
 rw [show off + 8 + i * 8 + j = off + (i + 1) * 8 + j by omega]
 exact this
end Go.Proofs.YtenmkbpdkfhbjaaGreat
namespace Cd
open Go
theorem grow_len : ∀ (f : Nat) (d : Int) (l : List Tx.Node), (growV f d l).2.length ≤ l.length
 | 0, _, l => Nat.le_refl _
 | _ + 1, _, [] => Nat.le_refl _
 | f + 1, d, n :: l => by
  rw [growV]
  split
  ·have h1 := grow_len f (d + 1) l
   have h2 := grow_len f d (growV f (d + 1) l).2
   rw [List.length_cons]
   exact Nat.le_trans h2 (Nat.le_succ_of_le h1)
  ·exact Nat.le_refl _
theorem grow_fuel : ∀ (f g : Nat) (d : Int) (l : List Tx.Node), l.length ≤ f → l.length ≤ g → growV f d l = growV g d l
 | 0, g, d, l, h, _ => by
  have : l = [] := List.length_eq_zero_iff.1 (by omega)
  subst this
  rw [grow_nil, grow_nil]
 | f + 1, 0, d, l, _, h => by
  have : l = [] := List.length_eq_zero_iff.1 (by omega)
  subst this
  rw [grow_nil, grow_nil]
 | f + 1, g + 1, d, [], _, _ => by rw [grow_nil, grow_nil]
 | f + 1, g + 1, d, n :: l, h1, h2 => by
  rw [List.length_cons] at h1 h2
  rw [growV, growV, grow_fuel f g (d + 1) l (by omega) (by omega)]
  have h3 := grow_len g (d + 1) l
  rw [grow_fuel f g d (growV g (d + 1) l).2 (by omega) (by omega)]
def growT (d : Int) (l : List Tx.Node) : List Item × List Tx.Node := growV l.length d l
theorem growT_of {f : Nat} {d : Int} {l : List Tx.Node} (h : l.length ≤ f) : growV f d l = growT d l := grow_fuel _ _ _ _ h (Nat.le_refl _)
theorem growT_len (d : Int) (l : List Tx.Node) : (growT d l).2.length ≤ l.length := grow_len _ _ _
theorem growT_stop {d : Int} {l : List Tx.Node} (h : ∀ n ∈ l.head?, n.depth < d) : growT d l = ([], l) := grow_stop h
theorem growT_cons {d : Int} {n : Tx.Node} {l : List Tx.Node} (h : d ≤ n.depth) : growT d (n :: l) = (Item.mk n [] 0 (growT (d + 1) l).1 :: (growT d (growT (d + 1) l).2).1, (growT d (growT (d + 1) l).2).2) := by
 unfold growT
 rw [List.length_cons, growV, if_pos h, growT_of (Nat.le_refl _)]
 have h1 := growT_len (d + 1) l
 rw [growT_of h1]
 rfl
end Cd
namespace Go.Proofs.YtenmkbpdkfhbjaaGreat
open Go Go.RowKit

def RetGr (dep : Int) (l : List Tx.Node) (B : Nat) (w : World) (e : Ending) (w' : World) : Prop :=
 ∃ A1 c1 A2 c2, e = .returned (.tuple #[.slice A1 (Cd.growT dep l).1.length c1, .slice A2 (Cd.growT dep l).2.length c2]) ∧ Below w.heap.size w w' ∧ OwnG KG 114 w' w.heap.size (.slice A1 (Cd.growT dep l).1.length c1) (Cd.growT dep l).1 ∧ RdN w' B (.slice A2 (Cd.growT dep l).2.length c2) (Cd.growT dep l).2
def GrowSays (N : Nat) : Prop := ∀ (l : List Tx.Node) (dep : Nat) (A : Option Addr) (c : Nat) (w : World) (B : Nat), l.length < N → RdN w B (.slice A l.length c) l → B ≤ w.heap.size → dep + l.length ≤ 1000000 → Calls Tryz.prog 69 #[.slice A l.length c, .int .i64 dep] w (RetGr dep l B w)
set_option maxRecDepth 100000 in
set_option maxHeartbeats 16000000 in
theorem grow_step (N : Nat) (ih : ∀ M, N = M + 1 → GrowSays M) : GrowSays N := by
 intro l dep A c w B hN hr hB hd
 have IH := Lib.hid ih
 have HR := Lib.hid hr
 have HB := Lib.hid hB
 have HD := Lib.hid hd
 have HN := Lib.hid hN
 have hd9 : (dep : Int) ≤ 1000000 := by omega
 clear ih hr hB hd hN
 go_enter Tryz.func69, Tryz.ntmps69
 go_wp2_with fail
 go_loopg [0, 4] l.length (fun g nd out wr => ∃ (l' : List Tx.Node) (xs : List Cd.Item) (A' : Option Addr) (c' : Nat), g = l'.length ∧ nd = .slice A' l'.length c' ∧ Below w.heap.size w wr ∧ OwnG KG 114 wr w.heap.size out xs ∧ RdN wr B (.slice A' l'.length c') l' ∧ (xs ++ (Cd.growT dep l').1, (Cd.growT dep l').2) = Cd.growT dep l ∧ xs.length + l'.length ≤ l.length)
 case atStart => exact ⟨l, [], A, c, rfl, rfl, Below.refl _ _, OwnG.nil _ _ _, HR.out, rfl, by simp⟩
 case round =>
  obtain ⟨l', xs, A', c', rfl, rfl, hbr, hown, hrd, hsplit, hlen⟩ := hrel
  obtain ⟨Ao, co, rfl⟩ := hown.form
  have HBR := Lib.hid hbr
  have HO := Lib.hid hown
  have HRD := Lib.hid hrd
  have HSP := Lib.hid hsplit
  have hwr : w.heap.size ≤ wr.heap.size := hbr.size
  have HL := Lib.hid hlen
  clear hbr hown hrd hsplit hlen
  cases l' with
  | nil =>
   have HE : Hid (Cd.growT dep l = (xs, [])) := Lib.hid (by rw [← HSP.out]; simp [Cd.growT, Cd.grow_nil])
   simp only [List.length_nil]
   go_wp2_with fail
   refine bodyPost_ret (results_tmp2 rfl _ _ _) rfl ?_
   unfold RetGr
   rw [HE.out]
   exact ⟨Ao, co, A', c', rfl, HBR.out, HO.out, HRD.out⟩
  | cons n l2 =>
   obtain ⟨b, off, hA, hb, hcell⟩ := HRD.out.eight (by simp)
   subst hA
   obtain ⟨f0, f1, f2, f3, f4, f5, f6, f7⟩ := hcell 0 (by simp)
   simp only [Nat.zero_mul, Nat.add_zero, show Tx.nd (n :: l2) 0 = n from rfl] at f0 f1 f2 f3 f4 f5 f6 f7
   obtain ⟨M, hM⟩ : ∃ M, M = (n :: l2).length := ⟨_, rfl⟩
   have hM1 : M = l2.length + 1 := by rw [hM]; rfl
   have hMp : (0 : Int) < (M : Int) := by omega
   have HMM := Lib.hid hM
   have HM1 := Lib.hid hM1
   rw [← hM]
   clear hcell hM hM1
   by_cases hdd : (dep : Int) ≤ n.depth
   ·have d1 : decide ((dep : Int) ≤ n.depth) = true := decide_eq_true hdd
    have HDD := Lib.hid hdd
    clear hdd
    go_upto_region 3 with fail
    obtain ⟨W4, hW4⟩ : ∃ X, X = wr.alloc (.cells #[.int .i64 n.kind, .int .i64 n.depth, .int .i64 n.sign, .int .i64 n.turn, .bool n.mirror, .int .i64 n.state, .int .i64 n.lo, .int .i64 n.hi, .string ⟨#[]⟩, .int .i64 0, .slice none 0 0] 114) := ⟨_, rfl⟩
    rw [← hW4]
    obtain ⟨X, hX⟩ : ∃ X, X = wr.heap.size := ⟨_, rfl⟩
    rw [← hX]
    have hb4 : Below X wr W4 := by rw [hW4, hX]; exact (Below.refl _ _).alloc (Nat.le_refl _) _
    have hz4 : W4.heap[X]? = some (.cells #[.int .i64 n.kind, .int .i64 n.depth, .int .i64 n.sign, .int .i64 n.turn, .bool n.mirror, .int .i64 n.state, .int .i64 n.lo, .int .i64 n.hi, .string ⟨#[]⟩, .int .i64 0, .slice none 0 0] 114 (0, 0)) := by rw [hW4, hX]; exact heap_alloc_new _ _
    have HB4 := Lib.hid hb4
    have HZ4 := Lib.hid hz4
    have HX := Lib.hid hX
    obtain ⟨b', off', hA', hb', htl⟩ := HRD.out.tail
    cases hA'
    have hcc : M ≤ c' ∧ c' ≤ 9223372036854775807 := by
     obtain ⟨A9, c9, hv, h1, h2, -⟩ := HRD.out
     cases hv
     exact ⟨by rw [HMM.out]; exact h1, h2⟩
    have hm1 : M - 1 = l2.length := by have := HM1.out; omega
    have HTL := Lib.hid htl
    have hM1I : (1 : Int) ≤ (M : Int) := by omega
    have hMcI : (M : Int) ≤ (c' : Int) := by omega
    clear hW4 hb4 hz4 hX htl hb' f0 f1 f2 f3 f4 f5 f6 f7
    have hX4 : X < W4.heap.size := lt_of_some HZ4.out
    have HBX : Hid (B ≤ W4.heap.size) := Lib.hid (Nat.le_trans HB.out (Nat.le_trans hwr HB4.out.size))
    obtain ⟨ks, hks⟩ : ∃ ks, ks = (Cd.growT ((dep : Int) + 1) l2).1 := ⟨_, rfl⟩
    obtain ⟨rs, hrs⟩ : ∃ rs, rs = (Cd.growT ((dep : Int) + 1) l2).2 := ⟨_, rfl⟩
    have hrl : rs.length ≤ l2.length := by rw [hrs]; exact Cd.growT_len _ _
    have HG : Hid (Cd.growT dep (n :: l2) = (Cd.Item.mk n [] 0 ks :: (Cd.growT dep rs).1, (Cd.growT dep rs).2)) := Lib.hid (by rw [Cd.growT_cons HDD.out, hks, hrs])
    have HCALL : Hid (∀ (off2 c2 : Nat), RdN wr B (.slice (some ⟨b, off2, none⟩) l2.length c2) l2 → Calls Tryz.prog 69 #[.slice (some ⟨b, off2, none⟩) l2.length c2, .int .i64 ((dep : Int) + 1)] W4 (fun e w' => ∃ A1 c1 A2 c2, e = .returned (.tuple #[.slice A1 ks.length c1, .slice A2 rs.length c2]) ∧ Below W4.heap.size W4 w' ∧ OwnG KG 114 w' W4.heap.size (.slice A1 ks.length c1) ks ∧ RdN w' B (.slice A2 rs.length c2) rs)) := Lib.hid fun off2 c2 hq => by
     rw [hks, hrs]
     have h1 := HL.out
     have h2 := HN.out
     have h3 := HD.out
     rw [List.length_cons] at h1
     refine IH.out (N - 1) (by omega) l2 (dep + 1) _ c2 W4 B (by omega) (hq.below (HB4.out.mono ?_)) HBX.out (by omega)
     have := HX.out
     have := HB.out
     omega
    clear hks hrs
    by_cases h1c : c' = 1
    ·have HTX : Hid (RdN wr B (.slice (some ⟨b, off, none⟩) l2.length 0) l2) := Lib.hid (by
      have h0 : l2.length = 0 := by omega
      have h00 : l2 = [] := List.length_eq_zero_iff.1 h0
      rw [h00]
      exact ⟨_, 0, rfl, Nat.le_refl _, by omega, fun hh => absurd hh (by simp)⟩)
     go_wp2_with fail
     refine (HCALL.out _ _ HTX.out).mono ?_
     rintro e w5 ⟨A1, c1, A2, c2, rfl, hb5, ho5, hr5⟩
     have HB5 := Lib.hid hb5
     have HO5 := Lib.hid ho5
     have HR5 := Lib.hid hr5
     have hx5 := (hb5.block X hX4).trans HZ4.out
     have hs5 := hb5.size
     obtain ⟨z0, z1, z2, z3, z4, z5, z6, z7, z8, z9, z10⟩ := box_cells hx5
     have y10 := (box_free hx5).2.2.2.2.2.2.2.2.2.2
     clear hb5 ho5 hr5 HCALL HTX
     go_upto_region 4 with fail
     obtain ⟨W6, hW6⟩ : ∃ Y, Y = w5.setCell ⟨X, 10, none⟩ (.slice A1 ks.length c1) := ⟨_, rfl⟩
     rw [← hW6]
     have hz6 : W6.heap[X]? = some (.cells #[.int .i64 n.kind, .int .i64 n.depth, .int .i64 n.sign, .int .i64 n.turn, .bool n.mirror, .int .i64 n.state, .int .i64 n.lo, .int .i64 n.hi, .string ⟨#[]⟩, .int .i64 0, .slice A1 ks.length c1] 114 (0, 0)) := by rw [hW6]; exact Go.Joins.block_setCell (i := 10) hx5 _
     have hs6 : W6.heap.size = w5.heap.size := by rw [hW6, size_setT]
     have hXw := HX.out
     have hb6 : Below wr.heap.size wr W6 := by
      rw [hW6]
      exact ((HB4.out.mono (by omega)).trans (HB5.out.mono (by omega))).setCell (p := ⟨X, 10, none⟩) (by show wr.heap.size ≤ X; omega) _
     have h56 : ∀ q, q ≠ X → W6.heap[q]? = w5.heap[q]? := fun q hq => by rw [hW6]; exact Below.heap_setCell _ ⟨X, 10, none⟩ _ _ hq
     clear z0 z1 z2 z3 z4 z5 z6 z7 z8 z9 z10 y10 hx5
     obtain ⟨z0, z1, z2, z3, z4, z5, z6, z7, z8, z9, z10⟩ := box_cells hz6
     have HO6 := Lib.hid (HO.out.kept hb6)
     have HR6 : Hid (RdN W6 B (.slice A2 rs.length c2) rs) := Lib.hid (HR5.out.keep fun p hp => by rw [World.cell?_of_block (h56 p.block (by have := HB.out; omega))])
     obtain ⟨W7, hW7⟩ : ∃ Y, Y = W6.alloc (.cells #[.int .i64 n.kind, .int .i64 n.depth, .int .i64 n.sign, .int .i64 n.turn, .bool n.mirror, .int .i64 n.state, .int .i64 n.lo, .int .i64 n.hi, .string ⟨#[]⟩, .int .i64 0, .slice A1 ks.length c1] 114) := ⟨_, rfl⟩
     have h67 : Below W6.heap.size W6 W7 := by rw [hW7]; exact (Below.refl _ _).alloc (Nat.le_refl _) _
     have hs7 : W7.heap.size = W6.heap.size + 1 := by rw [hW7]; simp
     have HO7 := Lib.hid (HO6.out.kept h67)
     have HNEW : Hid (W7.heap[W6.heap.size]? = some (.cells #[.int .i64 n.kind, .int .i64 n.depth, .int .i64 n.sign, .int .i64 n.turn, .bool n.mirror, .int .i64 n.state, .int .i64 n.lo, .int .i64 n.hi, .string ⟨#[]⟩, .int .i64 0, .slice A1 ks.length c1] 114 (0, 0))) := Lib.hid (by rw [hW7]; exact heap_alloc_new _ _)
     have HONE : Hid (∀ u ∈ encN n ++ [Value.string (Cd.bs []), .int .i64 0, .slice A1 ks.length c1], u.oneCell' = true) := Lib.hid fun u hu => by (simp [encN, encNz] at hu; rcases hu with rfl | rfl | rfl | rfl | rfl | rfl | rfl | rfl | rfl | rfl | rfl <;> rfl)
     have HRD7 : Hid (KG.rd W7 (fun q => q < W7.heap.size ∧ (Value.slice Ao xs.length co).ownBlock ≠ some q ∧ w.heap.size ≤ q) (encN n ++ [Value.string (Cd.bs []), .int .i64 0, .slice A1 ks.length c1]) (Cd.Item.mk n [] 0 ks)) := Lib.hid (kg_mk (x := Cd.Item.mk n [] 0 ks) (HO5.out.head.keep fun q hq => ⟨⟨by omega, fun e => by have := (HO.out.lt q e).2; omega, by omega⟩, by rw [h67.block q (by omega), h56 q (by omega)]⟩))
     have HFEW : Hid (xs.length ≤ 2000000) := Lib.hid (by have := HL.out; have := HD.out; omega)
     have HBS : Hid (w.heap.size ≤ W7.heap.size) := Lib.hid (by omega)
     have HB67 := Lib.hid (hb6.trans (h67.mono (by omega)))
     have HR7 := Lib.hid (HR6.out.below (h67.mono (by have := HB.out; omega)))
     have HW7 := Lib.hid hW7
     rw [hW7] at HO7 HNEW HRD7 HBS
     have HS6 := Lib.hid hs6
     clear hW6 hz6 hb6 h56 h67 hW7 hs7 hXw hs6
     go_wp2_with (at_builtin; go_must (refine wpList_append_itemG rfl (.tmp 31) (.tmp 33) rfl w.heap.size (.slice Ao xs.length co) xs (Cd.Item.mk n [] 0 ks) rfl HO7.out W6.heap.size 1 (encN n ++ [Value.string (Cd.bs []), .int .i64 0, .slice A1 ks.length c1]) rfl (by decide) HNEW.out HONE.out HRD7.out HFEW.out HBS.out ?_))
     intro v8 w8 hown8 hg8
     have HB8 : Hid (Below w.heap.size w w8) := Lib.hid ((HBR.out.trans (by rw [← HW7.out]; exact HB67.out.mono hwr)).grown hg8 HBS.out fun q hq => (HO7.out.lt q hq).1)
     have HO8 := Lib.hid hown8
     have HR8 : Hid (RdN w8 B (.slice A2 rs.length c2) rs) := Lib.hid (HR7.out.keep fun p hp => World.cell?_of_block (by rw [HW7.out]; exact hg8.block p.block (by have := HBS.out; have := HB.out; omega) (fun e => by have := (HO7.out.lt p.block e.symm).1; have := HB.out; omega)))
     clear hown8 hg8
     go_wp2_with fail
     go_roundg rs.length
     case measure => have := HM1.out; have := HMM.out; rw [List.length_cons]; omega
     case rel =>
      refine ⟨rs, xs ++ [Cd.Item.mk n [] 0 ks], A2, c2, rfl, rfl, HB8.out, HO8.out, HR8.out, ?_, ?_⟩
      ·rw [← HSP.out, HG.out]
       simp
      ·have := HL.out
       rw [List.length_cons] at this
       rw [List.length_append, List.length_singleton]
       omega
    ·have HTX := HTL
     go_wp2_with fail
     refine (HCALL.out _ _ HTX.out).mono ?_
     rintro e w5 ⟨A1, c1, A2, c2, rfl, hb5, ho5, hr5⟩
     have HB5 := Lib.hid hb5
     have HO5 := Lib.hid ho5
     have HR5 := Lib.hid hr5
     have hx5 := (hb5.block X hX4).trans HZ4.out
     have hs5 := hb5.size
     obtain ⟨z0, z1, z2, z3, z4, z5, z6, z7, z8, z9, z10⟩ := box_cells hx5
     have y10 := (box_free hx5).2.2.2.2.2.2.2.2.2.2
     clear hb5 ho5 hr5 HCALL HTX
     go_upto_region 4 with fail
     obtain ⟨W6, hW6⟩ : ∃ Y, Y = w5.setCell ⟨X, 10, none⟩ (.slice A1 ks.length c1) := ⟨_, rfl⟩
     rw [← hW6]
     have hz6 : W6.heap[X]? = some (.cells #[.int .i64 n.kind, .int .i64 n.depth, .int .i64 n.sign, .int .i64 n.turn, .bool n.mirror, .int .i64 n.state, .int .i64 n.lo, .int .i64 n.hi, .string ⟨#[]⟩, .int .i64 0, .slice A1 ks.length c1] 114 (0, 0)) := by rw [hW6]; exact Go.Joins.block_setCell (i := 10) hx5 _
     have hs6 : W6.heap.size = w5.heap.size := by rw [hW6, size_setT]
     have hXw := HX.out
     have hb6 : Below wr.heap.size wr W6 := by
      rw [hW6]
      exact ((HB4.out.mono (by omega)).trans (HB5.out.mono (by omega))).setCell (p := ⟨X, 10, none⟩) (by show wr.heap.size ≤ X; omega) _
     have h56 : ∀ q, q ≠ X → W6.heap[q]? = w5.heap[q]? := fun q hq => by rw [hW6]; exact Below.heap_setCell _ ⟨X, 10, none⟩ _ _ hq
     clear z0 z1 z2 z3 z4 z5 z6 z7 z8 z9 z10 y10 hx5
     obtain ⟨z0, z1, z2, z3, z4, z5, z6, z7, z8, z9, z10⟩ := box_cells hz6
     have HO6 := Lib.hid (HO.out.kept hb6)
     have HR6 : Hid (RdN W6 B (.slice A2 rs.length c2) rs) := Lib.hid (HR5.out.keep fun p hp => by rw [World.cell?_of_block (h56 p.block (by have := HB.out; omega))])
     obtain ⟨W7, hW7⟩ : ∃ Y, Y = W6.alloc (.cells #[.int .i64 n.kind, .int .i64 n.depth, .int .i64 n.sign, .int .i64 n.turn, .bool n.mirror, .int .i64 n.state, .int .i64 n.lo, .int .i64 n.hi, .string ⟨#[]⟩, .int .i64 0, .slice A1 ks.length c1] 114) := ⟨_, rfl⟩
     have h67 : Below W6.heap.size W6 W7 := by rw [hW7]; exact (Below.refl _ _).alloc (Nat.le_refl _) _
     have hs7 : W7.heap.size = W6.heap.size + 1 := by rw [hW7]; simp
     have HO7 := Lib.hid (HO6.out.kept h67)
     have HNEW : Hid (W7.heap[W6.heap.size]? = some (.cells #[.int .i64 n.kind, .int .i64 n.depth, .int .i64 n.sign, .int .i64 n.turn, .bool n.mirror, .int .i64 n.state, .int .i64 n.lo, .int .i64 n.hi, .string ⟨#[]⟩, .int .i64 0, .slice A1 ks.length c1] 114 (0, 0))) := Lib.hid (by rw [hW7]; exact heap_alloc_new _ _)
     have HONE : Hid (∀ u ∈ encN n ++ [Value.string (Cd.bs []), .int .i64 0, .slice A1 ks.length c1], u.oneCell' = true) := Lib.hid fun u hu => by (simp [encN, encNz] at hu; rcases hu with rfl | rfl | rfl | rfl | rfl | rfl | rfl | rfl | rfl | rfl | rfl <;> rfl)
     have HRD7 : Hid (KG.rd W7 (fun q => q < W7.heap.size ∧ (Value.slice Ao xs.length co).ownBlock ≠ some q ∧ w.heap.size ≤ q) (encN n ++ [Value.string (Cd.bs []), .int .i64 0, .slice A1 ks.length c1]) (Cd.Item.mk n [] 0 ks)) := Lib.hid (kg_mk (x := Cd.Item.mk n [] 0 ks) (HO5.out.head.keep fun q hq => ⟨⟨by omega, fun e => by have := (HO.out.lt q e).2; omega, by omega⟩, by rw [h67.block q (by omega), h56 q (by omega)]⟩))
     have HFEW : Hid (xs.length ≤ 2000000) := Lib.hid (by have := HL.out; have := HD.out; omega)
     have HBS : Hid (w.heap.size ≤ W7.heap.size) := Lib.hid (by omega)
     have HB67 := Lib.hid (hb6.trans (h67.mono (by omega)))
     have HR7 := Lib.hid (HR6.out.below (h67.mono (by have := HB.out; omega)))
     have HW7 := Lib.hid hW7
     rw [hW7] at HO7 HNEW HRD7 HBS
     have HS6 := Lib.hid hs6
     clear hW6 hz6 hb6 h56 h67 hW7 hs7 hXw hs6
     go_wp2_with (at_builtin; go_must (refine wpList_append_itemG rfl (.tmp 31) (.tmp 33) rfl w.heap.size (.slice Ao xs.length co) xs (Cd.Item.mk n [] 0 ks) rfl HO7.out W6.heap.size 1 (encN n ++ [Value.string (Cd.bs []), .int .i64 0, .slice A1 ks.length c1]) rfl (by decide) HNEW.out HONE.out HRD7.out HFEW.out HBS.out ?_))
     intro v8 w8 hown8 hg8
     have HB8 : Hid (Below w.heap.size w w8) := Lib.hid ((HBR.out.trans (by rw [← HW7.out]; exact HB67.out.mono hwr)).grown hg8 HBS.out fun q hq => (HO7.out.lt q hq).1)
     have HO8 := Lib.hid hown8
     have HR8 : Hid (RdN w8 B (.slice A2 rs.length c2) rs) := Lib.hid (HR7.out.keep fun p hp => World.cell?_of_block (by rw [HW7.out]; exact hg8.block p.block (by have := HBS.out; have := HB.out; omega) (fun e => by have := (HO7.out.lt p.block e.symm).1; have := HB.out; omega)))
     clear hown8 hg8
     go_wp2_with fail
     go_roundg rs.length
     case measure => have := HM1.out; have := HMM.out; rw [List.length_cons]; omega
     case rel =>
      refine ⟨rs, xs ++ [Cd.Item.mk n [] 0 ks], A2, c2, rfl, rfl, HB8.out, HO8.out, HR8.out, ?_, ?_⟩
      ·rw [← HSP.out, HG.out]
       simp
      ·have := HL.out
       rw [List.length_cons] at this
       rw [List.length_append, List.length_singleton]
       omega
   ·have d1 : decide ((dep : Int) ≤ n.depth) = false := decide_eq_false hdd
    have HE : Hid (Cd.growT dep l = (xs, n :: l2)) := Lib.hid (by
     rw [← HSP.out, Cd.growT_stop (fun m hm => by
      have : m = n := by simpa using hm.symm
      subst this
      omega)]
     simp)
    clear hdd
    go_wp2_with fail
    refine bodyPost_ret (results_tmp2 rfl _ _ _) rfl ?_
    unfold RetGr
    rw [HE.out]
    refine ⟨Ao, co, some ⟨b, off, none⟩, c', ?_, HBR.out, HO.out, HRD.out⟩
    rw [← HMM.out]
    rfl
theorem grow_any : ∀ N, GrowSays N
 | 0 => grow_step 0 fun M h => by omega
 | N + 1 => grow_step (N + 1) fun M h => by
  have : M = N := by omega
  subst this
  exact grow_any M
end Go.Proofs.YtenmkbpdkfhbjaaGreat
