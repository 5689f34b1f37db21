/- code.flatten: the nodes of items.; ostraconref02.Kids and Leaf. -/
import Derived.Test.YtenmkbpdkfhbjaaGreatRaCdSize
import Derived.Test.YtenmkbpdkfhbjaaGreatRaGlossPlain
import Derived.Test.YtenmkbpdkfhbjaaGreatRaCdLocal
namespace Cd
theorem flatL_app (d : Int) : ∀ a b : List Item, flatL d (a ++ b) = flatL d a ++ flatL d b
  | [], b => by rw [flatL]; rfl
  | x :: a, b => by rw [List.cons_append, flatL, flatL, flatL_app d a b, List.append_assoc]
theorem resL_app (f : List UInt8 → Int) : ∀ a b : List Item, resL f (a ++ b) = resL f a ++ resL f b
  | [], b => by rw [resL]; rfl
  | x :: a, b => by rw [List.cons_append, resL, resL, resL_app f a b]; rfl
theorem size_app : ∀ a b : List Item, sizeL (a ++ b) = sizeL a + sizeL b
  | [], b => by rw [sizeL]; simp
  | x :: a, b => by rw [List.cons_append, sizeL, sizeL, size_app a b, Nat.add_assoc]
theorem size_kids (x : Item) : sizeI x = sizeL x.kids + 1 := by cases x; rw [sizeI]; rfl
theorem flat_one (d : Int) (f : List UInt8 → Int) (x : Item) : flatL d (resL f [x]) = { (resI f x).node with depth := d } :: flatL (d + 1) (resL f x.kids) := by
  cases x
  rw [resL, resL, flatL, flatL, List.append_nil, resI, flatI]
  rfl
theorem res_node {f : List UInt8 → Int} {x : Item} {z dep : Int} (h : if x.node.kind = 1 then z = f x.code else z = x.node.sign) : ({ (resI f x).node with depth := dep } : Tx.Node) = { x.node with depth := dep, sign := z } := by
  cases x with
  | mk n c p ks =>
    have h' : if n.kind = 1 then z = f c else z = n.sign := h
    rw [resI]
    show ({ (if n.kind = 1 then { n with sign := f c } else n) with depth := dep } : Tx.Node) = { n with depth := dep, sign := z }
    split at h' <;> rename_i h1
    · rw [if_pos h1, h']
    · rw [if_neg h1, h']
end Cd
namespace Go.Proofs.YtenmkbpdkfhbjaaGreat
open Go Go.RowKit

theorem own_below {w w' : World} {base : Nat} {e : TypeId} {size n : Nat} {v : Value} {xs : List Value} (h : w.ownsRow base e size v n xs) (hb : Below w.heap.size w w') : w'.ownsRow base e size v n xs :=
  h.kept (grown_of_below (row := none) hb) (by cases v.ownBlock <;> simp)
section
variable {w : World} {base : Nat} {v : Value} {ns : List Tx.Node}
theorem step_append_node {ops : Array Oper} {o : Oper} {a : Act} {K : Act → World → Prop} {Q : Exit → Act → World → Prop} {E : Prop} (hgd : o.guard = none) (s x : Operand)
    (ho : o.op = .call { callee := .builtin .append, args := #[s, x], argTypes := #[25, 25] })
    (n : Tx.Node) (hs : a.eval s = v) (hown : w.ownsRow base 59 8 v ns.length (ns.flatMap encN)) (b c : Nat) (hx : a.eval x = .slice (some ⟨b, 0, none⟩) 1 c) (hc : 1 ≤ c ∧ c ≤ 9223372036854775807)
    (hb : w.heap[b]? = some (.cells (encN n).toArray 59 (0, 0))) (hn : ns.length ≤ 4000000) (hbase : base ≤ w.heap.size)
    (h : ∀ v' w', w'.ownsRow base 59 8 v' (ns ++ [n]).length ((ns ++ [n]).flatMap encN) → Below base w w' → w.grownBy w' v.ownBlock → K (a.put o.dst v') w') : if Region.wanted o (yielded ops a.tmps) = true then Oper.wp Tryz.prog o a w K Q else E := by
  have hw : Region.wanted o (yielded ops a.tmps) = true := by simp [Region.wanted, hgd]
  rw [if_pos hw]
  obtain ⟨i0, hi0, hz0, hs0, hb0⟩ := info_parts info_Node
  refine wp_append_rd (enc := encN) s x _ ho base 59 i0 _ 8 64 len_node one_node Tryz.underlying25 hi0 hz0 hs0 hb0 rfl (by decide) v ns.length _ hs hown w.heap.size _ [n] hx ?_ (by simp [maxLen]; omega) (by simp; omega) hbase ?_
  · refine ⟨_, c, rfl, hc.1, hc.2, fun _ => ⟨b, 0, rfl, lt_of_some hb, fun i q hi j u hj => ?_⟩⟩
    cases i with
    | zero =>
      simp at hi
      subst hi
      rw [(in_box hb _).1]
      simpa using hj
    | succ i => simp at hi
  · intro v' w' hown' hgw hat
    exact h v' w' (by rw [List.length_append, List.flatMap_append]; exact hown') (below_own_grown (Below.refl _ _) hgw hown (Nat.le_refl _) hbase) hgw
end
def RetFlat (f : List UInt8 → Int) (base : Nat) (ns : List Tx.Node) (dep : Int) (xs : List Cd.Item) (w : World) (e : Ending) (w' : World) : Prop :=
  ∃ v', e = .returned v' ∧ w'.ownsRow base 59 8 v' (ns ++ Cd.flatL dep (Cd.resL f xs)).length ((ns ++ Cd.flatL dep (Cd.resL f xs)).flatMap encN) ∧ Below base w w'
def FlatSays (f : List UInt8 → Int) (base : Nat) (ok : Nat → Prop) (d : Nat) : Prop := ∀ (A : Option Addr) (c : Nat) (xs : List Cd.Item) (dep : Nat) (v : Value) (ns : List Tx.Node) (w : World), RdH (KId (SF f) d) 114 w ok (.slice A xs.length c) xs → w.ownsRow base 59 8 v ns.length (ns.flatMap encN) → base ≤ w.heap.size → dep + Cd.sizeL xs ≤ 1000000 → ns.length + Cd.sizeL xs ≤ 1000000 →
    Calls Tryz.prog 42 #[v, .slice A xs.length c, .int .i64 dep] w (RetFlat f base ns dep xs w)
set_option maxRecDepth 100000 in
set_option maxHeartbeats 16000000 in
theorem flat_step (f : List UInt8 → Int) (base : Nat) (ok : Nat → Prop) (hok : ∀ b, ok b → b < base) (d : Nat) (ih : ∀ e, d = e + 1 → FlatSays f base ok e) : FlatSays f base ok d := by
  intro A c xs dep v ns w hr hown hbase hd hn
  have IH := Lib.hid ih
  have HR := Lib.hid hr
  have HLT := Lib.hid hok
  have HOWN := Lib.hid hown
  have HBASE := Lib.hid hbase
  have HDEP := Lib.hid hd
  have HNS := Lib.hid hn
  have hb : xs.length ≤ c ∧ c ≤ 9223372036854775807 := by
    obtain ⟨A', c', hv, h1, h2, -⟩ := hr
    cases hv
    exact ⟨h1, h2⟩
  clear ih hr hok hown hbase hd hn
  go_enter Tryz.func42, Tryz.ntmps42
  go_wp2_with fail
  go_loopg [0, 11] xs.length (fun g out i wr => ∃ k : Nat, k ≤ xs.length ∧ g = xs.length - k ∧ Value.int .i64 k = i ∧ wr.ownsRow base 59 8 out (ns ++ Cd.flatL dep (Cd.resL f (xs.take k))).length ((ns ++ Cd.flatL dep (Cd.resL f (xs.take k))).flatMap encN) ∧ Below base w wr)
  case atStart => exact ⟨0, Nat.zero_le _, rfl, rfl, by have := HOWN.out; simpa [Cd.resL, Cd.flatL] using this, Below.refl _ _⟩
  case round =>
    obtain ⟨k, hk, rfl, rfl, hown, hbel⟩ := hrel
    have HO := Lib.hid hown
    have HB := Lib.hid hbel
    clear hown hbel
    by_cases hlt : k < xs.length
    · obtain ⟨x, hx⟩ : ∃ x, xs[k]? = some x := ⟨_, List.getElem?_eq_getElem hlt⟩
      obtain ⟨e, b, cur, z, A', c', he, hA, hokb, hcur, hz, hkids, hcs⟩ := (HR.out.keep (w' := wr) (ok' := ok) fun b hb => ⟨hb, HB.out.block b (HLT.out b hb)⟩).one_at hx
      have HX := Lib.hid hx
      have HE := Lib.hid he
      have HSG := Lib.hid hz
      have HKID := Lib.hid hkids
      have k0 : cur[k * 11]? = some (.int .i64 x.node.kind) := by have := hcs 0 _ rfl; simpa using this
      have f0 := (in_box hcur (k * 11)).1.trans k0
      have f1 := (in_box hcur (k * 11 + 1)).1.trans (hcs 1 _ rfl)
      have f2 := (in_box hcur (k * 11 + 2)).1.trans (hcs 2 _ rfl)
      have f3 := (in_box hcur (k * 11 + 3)).1.trans (hcs 3 _ rfl)
      have f4 := (in_box hcur (k * 11 + 4)).1.trans (hcs 4 _ rfl)
      have f5 := (in_box hcur (k * 11 + 5)).1.trans (hcs 5 _ rfl)
      have f6 := (in_box hcur (k * 11 + 6)).1.trans (hcs 6 _ rfl)
      have f7 := (in_box hcur (k * 11 + 7)).1.trans (hcs 7 _ rfl)
      have f8 := (in_box hcur (k * 11 + 8)).1.trans (hcs 8 _ rfl)
      have f9 := (in_box hcur (k * 11 + 9)).1.trans (hcs 9 _ rfl)
      have f10 := (in_box hcur (k * 11 + 10)).1.trans (hcs 10 _ rfl)
      have hI0 : (0 : Int) ≤ (k : Int) := by omega
      have hI1 : (k : Int) < (xs.length : Int) := by omega
      have d1 : decide ((k : Int) < (xs.length : Int)) = true := by simpa using hlt
      subst hA
      clear hx he hz hkids k0 hcs hokb hcur
      go_upto_region 5 with fail
      obtain ⟨F, hF⟩ : ∃ F, F = ns ++ Cd.flatL (↑dep) (Cd.resL f (List.take k xs)) := ⟨_, rfl⟩
      rw [← hF] at HO
      have HF := Lib.hid hF
      clear hF
      obtain ⟨Ao, co, rfl⟩ := own_form HO.out
      obtain ⟨W5, hW5⟩ : ∃ W, W = wr.alloc (.cells #[.int .i64 x.node.kind, .int .i64 (dep : Int), .int .i64 z, .int .i64 x.node.turn, .bool x.node.mirror, .int .i64 x.node.state, .int .i64 x.node.lo, .int .i64 x.node.hi, .string (Cd.bs x.code), .int .i64 x.pos, .slice A' x.kids.length c'] 114) := ⟨_, rfl⟩
      rw [← hW5]
      have hz5 : W5.heap[wr.heap.size]? = some (.cells #[.int .i64 x.node.kind, .int .i64 (dep : Int), .int .i64 z, .int .i64 x.node.turn, .bool x.node.mirror, .int .i64 x.node.state, .int .i64 x.node.lo, .int .i64 x.node.hi, .string (Cd.bs x.code), .int .i64 x.pos, .slice A' x.kids.length c'] 114 (0, 0)) := by rw [hW5]; exact heap_alloc_new _ _
      have HB5 : Hid (Below wr.heap.size wr W5) := Lib.hid (by rw [hW5]; exact (Below.refl _ _).alloc (Nat.le_refl _) _)
      obtain ⟨z0, z1, z2, z3, z4, z5, z6, z7, z8, z9, z10⟩ := box_cells hz5
      have hx5 : wr.heap.size < W5.heap.size := lt_of_some hz5
      have HZ5 := Lib.hid hz5
      clear hW5 hz5 f0 f1 f2 f3 f4 f5 f6 f7 f8 f9 f10
      have HBA : Hid (Below W5.heap.size W5 ((W5.alloc (.cells #[.int .i64 x.node.kind, .int .i64 (dep : Int), .int .i64 z, .int .i64 x.node.turn, .bool x.node.mirror, .int .i64 x.node.state, .int .i64 x.node.lo, .int .i64 x.node.hi] 59)).drew)) := Lib.hid (((Below.refl _ _).alloc (Nat.le_refl _) _).drew)
      have HOA : Hid (((W5.alloc (.cells #[.int .i64 x.node.kind, .int .i64 (dep : Int), .int .i64 z, .int .i64 x.node.turn, .bool x.node.mirror, .int .i64 x.node.state, .int .i64 x.node.lo, .int .i64 x.node.hi] 59)).drew).ownsRow base 59 8 (.slice Ao F.length co) F.length (F.flatMap encN)) := Lib.hid (own_below (own_below HO.out HB5.out) HBA.out)
      have HNA : Hid (((W5.alloc (.cells #[.int .i64 x.node.kind, .int .i64 (dep : Int), .int .i64 z, .int .i64 x.node.turn, .bool x.node.mirror, .int .i64 x.node.state, .int .i64 x.node.lo, .int .i64 x.node.hi] 59)).drew).heap[W5.heap.size]? = some (.cells #[.int .i64 x.node.kind, .int .i64 (dep : Int), .int .i64 z, .int .i64 x.node.turn, .bool x.node.mirror, .int .i64 x.node.state, .int .i64 x.node.lo, .int .i64 x.node.hi] 59 (0, 0))) := Lib.hid (heap_alloc_new _ _)
      have HBL : Hid (base ≤ wr.heap.size) := Lib.hid (Nat.le_trans HBASE.out HB.out.size)
      have HXA : Hid (∀ w8 : World, World.grownBy ((W5.alloc (.cells #[.int .i64 x.node.kind, .int .i64 (dep : Int), .int .i64 z, .int .i64 x.node.turn, .bool x.node.mirror, .int .i64 x.node.state, .int .i64 x.node.lo, .int .i64 x.node.hi] 59)).drew) w8 (Value.ownBlock (.slice Ao F.length co)) → w8.heap[wr.heap.size]? = some (.cells #[.int .i64 x.node.kind, .int .i64 (dep : Int), .int .i64 z, .int .i64 x.node.turn, .bool x.node.mirror, .int .i64 x.node.state, .int .i64 x.node.lo, .int .i64 x.node.hi, .string (Cd.bs x.code), .int .i64 x.pos, .slice A' x.kids.length c'] 114 (0, 0))) := Lib.hid fun w8 hg => by
        rw [hg.block _ (Nat.lt_of_lt_of_le hx5 HBA.out.size) (fun e => by have := (HO.out.lt _ e.symm).2; omega), HBA.out.block _ hx5]
        exact HZ5.out
      have HTK : Hid (Cd.sizeL (xs.take k) + (Cd.sizeL x.kids + 1) ≤ Cd.sizeL xs) := Lib.hid (by
        have e1 : xs.take (k + 1) = xs.take k ++ [x] := by rw [List.take_add_one, HX.out]; rfl
        have e2 : Cd.sizeL xs = Cd.sizeL (xs.take (k + 1)) + Cd.sizeL (xs.drop (k + 1)) := by rw [← Cd.size_app, List.take_append_drop]
        rw [e1, Cd.size_app, Cd.sizeL, Cd.sizeL, Cd.size_kids] at e2
        omega)
      have HLEN : Hid (F.length = ns.length + Cd.sizeL (xs.take k)) := Lib.hid (by rw [HF.out, List.length_append, Cd.flatL_len, Cd.size_resL])
      have HFEW : Hid (F.length ≤ 4000000) := Lib.hid (by have := HLEN.out; have := HTK.out; have := HNS.out; omega)
      have HWR : Hid (IntKind.i64.wrap ((dep : Int) + 1) = ((dep + 1 : Nat) : Int)) := Lib.hid (by have h := HDEP.out; have h2 : (dep : Int) ≤ 1000000 := (by omega); clear h; rw [IntKind.wrap_i64]; omega)
      have HEQ : Hid (F ++ [{ x.node with depth := (dep : Int), sign := z }] ++ Cd.flatL (↑(dep + 1)) (Cd.resL f x.kids) = ns ++ Cd.flatL (↑dep) (Cd.resL f (List.take (k + 1) xs))) := Lib.hid (by
        have e1 : xs.take (k + 1) = xs.take k ++ [x] := by rw [List.take_add_one, HX.out]; rfl
        rw [e1, Cd.resL_app, Cd.flatL_app, Cd.flat_one]
        rw [HF.out]
        simp only [List.append_assoc, List.singleton_append]
        rw [Cd.res_node HSG.out]
        rfl)
      go_region_law (first
        | (refine step_append_node rfl (.tmp 18) (.tmp 21) rfl { x.node with depth := (dep : Int), sign := z } rfl (v := (.slice Ao F.length co)) HOA.out W5.heap.size 1 rfl (by decide) HNA.out HFEW.out (Nat.le_trans HBL.out (Nat.le_trans (Nat.le_of_lt hx5) HBA.out.size)) ?_; intro v8 w8 hown8 hb8 hg8; have HO8 := Lib.hid hown8; have HB8 := Lib.hid hb8; have x10 := (in_box (HXA.out w8 hg8) 10).1; simp at x10; obtain ⟨A8, c8, rfl⟩ := own_form hown8;
           have HCALL : Hid (Calls Tryz.prog 42 #[.slice A8 (F.length + 1) c8, .slice A' x.kids.length c', .int .i64 (IntKind.i64.wrap ((dep : Int) + 1))] w8 (RetFlat f base (F ++ [{ x.node with depth := (dep : Int), sign := z }]) (dep + 1 : Nat) x.kids w8)) := Lib.hid (by
             have e1 : IntKind.i64.wrap ((dep : Int) + 1) = ((dep + 1 : Nat) : Int) := HWR.out
             rw [e1]
             have h5 := HTK.out
             have h6 := HLEN.out
             have h7 := HNS.out
             have h8 := HDEP.out
             refine IH.out e HE.out A' c' x.kids (dep + 1) _ _ w8 (HKID.out.keep fun b hb => ⟨hb, ?_⟩) (by simpa using HO8.out) (Nat.le_trans HBL.out (Nat.le_trans (Nat.le_of_lt hx5) (Nat.le_trans HBA.out.size HB8.out.size))) (by omega) (by rw [List.length_append, List.length_singleton]; omega)
             have hb0 := HLT.out b hb
             have hb1 : b < wr.heap.size := Nat.lt_of_lt_of_le hb0 HBL.out
             rw [HB8.out.block b hb0, HBA.out.block b (by omega), HB5.out.block b hb1]);
           clear hown8 hb8 hg8)
        | (go_simp; refine HCALL.out.mono ?_; rintro e9 w9 ⟨v9, rfl, hown9, hb9⟩; have HO9 := Lib.hid hown9; have HB9 := Lib.hid hb9; clear hown9 hb9 HCALL))
      all_goals
        go_wp2_with fail
        go_roundg (xs.length - (k + 1))
        case measure => omega
        case rel =>
          refine ⟨k + 1, by omega, rfl, by go_num, by rw [← HEQ.out]; exact HO9.out, HB.out.trans ((HB5.out.mono HBL.out).trans ((HBA.out.mono (Nat.le_trans HBL.out (Nat.le_of_lt hx5))).trans (HB8.out.trans HB9.out)))⟩
    · have hkx : k = xs.length := by omega
      have d1 : decide ((k : Int) < (xs.length : Int)) = false := by simpa using hlt
      have HOX := HO.out
      rw [hkx, List.take_length] at HOX
      have HO1 := Lib.hid HOX
      clear hkx HOX
      go_wp2_with fail
      go_ret
      exact ⟨_, rfl, HO1.out, HB.out⟩
theorem flat_any (f : List UInt8 → Int) (base : Nat) (ok : Nat → Prop) (hok : ∀ b, ok b → b < base) : ∀ d, FlatSays f base ok d
  | 0 => flat_step f base ok hok 0 fun e h => by omega
  | d + 1 => flat_step f base ok hok (d + 1) fun e h => by
    have : e = d := by omega
    subst this
    exact flat_any f base ok hok e
end Go.Proofs.YtenmkbpdkfhbjaaGreat
namespace Tx
/-- the places from a to k that have a depth -/
def placesV (ns : List Node) (d : Int) (a k : Nat) : List Nat := (List.range' a (k - a)).filter fun j => decide (dp ns j = d)
theorem placesV_none (ns : List Node) (d : Int) (a : Nat) : placesV ns d a a = [] := by unfold placesV; rw [Nat.sub_self]; rfl
theorem placesV_succ (ns : List Node) (d : Int) {a k : Nat} (h : a ≤ k) : placesV ns d a (k + 1) = placesV ns d a k ++ (if dp ns k = d then [k] else []) := by
  unfold placesV
  rw [show k + 1 - a = (k - a) + 1 by omega, List.range'_concat, List.filter_append, show a + 1 * (k - a) = k by omega]
  congr 1
  rw [List.filter_cons]
  split <;> simp_all
theorem placesV_len (ns : List Node) (d : Int) (a k : Nat) : (placesV ns d a k).length ≤ k - a := by
  unfold placesV
  refine Nat.le_trans (List.length_filter_le _ _) (by simp)
theorem placesV_kids (ns : List Node) (i : Nat) : placesV ns (dp ns i + 1) (i + 1) (endV ns i) = kidsV ns i := rfl
theorem kidsV_len (ns : List Node) (i : Nat) (h : i < ns.length) : (kidsV ns i).length ≤ ns.length := by
  have := placesV_len ns (dp ns i + 1) (i + 1) (endV ns i)
  rw [placesV_kids] at this
  have := end_le (ns := ns) h
  omega
end Tx
namespace Go.Proofs.YtenmkbpdkfhbjaaGreat
open Go Go.RowKit

theorem r2Leaf_any (k : Int) (w : World) : Calls Tryz.prog 71 #[.int .i64 k] w (fun e w' => e = .returned (.bool (Tx.leafB k)) ∧ w' = w) := by
  obtain ⟨z1, hz1⟩ : ∃ z, (k == 1) = z := ⟨_, rfl⟩
  obtain ⟨z2, hz2⟩ : ∃ z, (k == 6) = z := ⟨_, rfl⟩
  have HV : Hid (Tx.leafB k = (z1 || z2)) := Lib.hid (by rw [← hz1, ← hz2]; rfl)
  cases z1 <;> cases z2 <;> (go_enter Tryz.func71, Tryz.ntmps71; go_wp2_with fail; go_ret; exact ⟨by rw [HV.out]; rfl, rfl⟩)
/-- a list of places, of the call's own -/
def RetNs (ks : List Nat) (w : World) (e : Ending) (w' : World) : Prop := ∃ A c, e = .returned (.slice A ks.length c) ∧ Below w.heap.size w w' ∧ w'.ownsRow w.heap.size 3 1 (.slice A ks.length c) ks.length ((ks.map Int.ofNat).flatMap encInt)
theorem RetNs.rd {ks : List Nat} {w w' : World} {e : Ending} (h : RetNs ks w e w') : ∃ A c, e = .returned (.slice A ks.length c) ∧ Below w.heap.size w w' ∧ RdS w' w'.heap.size 1 encInt (.slice A ks.length c) (ks.map Int.ofNat) := by
  obtain ⟨A, c, q1, q2, q3⟩ := h
  exact ⟨A, c, q1, q2, rds_of_own len_int (by rw [List.length_map]; exact q3)⟩
set_option maxRecDepth 100000 in
set_option maxHeartbeats 16000000 in
/-- the scan: from a place on, as long as the nodes are deep enough -/
theorem r2Kids_scan (ns : List Tx.Node) (w : World) (A : Option Addr) (c : Nat) (node : Int) (d : Int) (a e : Nat) (h : RdN w w.heap.size (.slice A ns.length c) ns) (hn : ns.length ≤ 1000000)
    (hnode : (node = -1 ∧ d = 0 ∧ a = 0) ∨ (∃ i : Nat, i < ns.length ∧ node = i ∧ d = Tx.dp ns i + 1 ∧ a = i + 1 ∧ -1000 ≤ Tx.dp ns i ∧ Tx.dp ns i ≤ 1000))
    (hae : a ≤ e) (hel : e ≤ ns.length) (hin : ∀ j, a ≤ j → j < e → d ≤ Tx.dp ns j) (hend : e = ns.length ∨ Tx.dp ns e < d) :
    Calls Tryz.prog 51 #[.agg #[.slice A ns.length c], .int .i64 node] w (RetNs (Tx.placesV ns d a e) w) := by
  have HR := Lib.hid h
  have hcap : ns.length ≤ c ∧ c ≤ 9223372036854775807 := by
    obtain ⟨A', c', hv, h1, h2, -⟩ := h
    cases hv
    exact ⟨h1, h2⟩
  have HIN := Lib.hid hin
  have HEND := Lib.hid hend
  obtain ⟨Z, hZ⟩ : ∃ Z, Z = w.heap.size := ⟨_, rfl⟩
  have HZ := Lib.hid hZ
  obtain ⟨i1, hi1, hz1, hs1, hb1⟩ := info_parts info_int
  have hnI : (ns.length : Int) ≤ 1000000 := by omega
  have hIN2 : ∀ k, a ≤ k → k ≤ e → (k < e ↔ (k < ns.length ∧ d ≤ Tx.dp ns k)) := fun k q1 q2 => by
    constructor
    · exact fun q => ⟨by omega, hin k q1 q⟩
    · intro ⟨q3, q4⟩
      rcases hend with q | q
      · omega
      · rcases Nat.lt_or_ge k e with r | r
        · exact r
        · have : k = e := by omega
          subst this
          omega
  have HIF := Lib.hid hIN2
  have HRES : Hid (∀ A c W', Below Z w W' → W'.ownsRow Z 3 1 (.slice A (Tx.placesV ns d a e).length c) (Tx.placesV ns d a e).length (((Tx.placesV ns d a e).map Int.ofNat).flatMap encInt) → RetNs (Tx.placesV ns d a e) w (.returned (.slice A (Tx.placesV ns d a e).length c)) W') := Lib.hid fun A c W' q1 q2 => by
    rw [hZ] at q1 q2
    exact ⟨A, c, rfl, q1, q2⟩
  obtain ⟨G, hG⟩ : ∃ G, G = w.alloc (.cells #[.slice A ns.length c] 27) := ⟨_, rfl⟩
  have hbl : Below Z w G := by rw [hG, hZ]; exact (Below.refl _ _).alloc (Nat.le_refl _) _
  have b1 : G.heap[Z]? = some (.cells #[.slice A ns.length c] 27 (0, 0)) := by rw [hG, hZ]; exact heap_alloc_new _ _
  have hsz : G.heap.size = Z + 1 := by rw [hG, hZ]; simp
  have HB1 := Lib.hid b1
  have HBL := Lib.hid hbl
  have x0 := bx_cell b1
  have HAE := Lib.hid hae
  have HEL := Lib.hid hel
  have HSZ := Lib.hid hsz
  have HRD : Hid (∀ W, Below Z w W → ∀ k, k < ns.length → ∃ b off, A = some ⟨b, off, none⟩ ∧ W.cell? ⟨b, off + k * 8 + 1, none⟩ = some (.int .i64 (Tx.dp ns k))) := Lib.hid fun W hW k hk => by
    obtain ⟨b, off, hA, hb, hcell⟩ := HR.out.eight (by omega)
    exact ⟨b, off, hA, (World.cell?_of_block (by rw [HZ.out] at hW; exact hW.block b hb)).trans (hcell k hk).2.1⟩
  have HGO : Hid (∀ (T : Array Value), T.size = 49 → T[1]? = some (.int .i64 node) → T[2]? = some (.pointer (some ⟨Z, 0, none⟩)) → T[5]? = some (.slice none 0 0) → T[6]? = some (.int .i64 d) → True) := Lib.hid fun _ _ _ _ _ _ => trivial
  clear hin hend hIN2 hZ hbl b1 hsz h HGO
  rcases hnode with ⟨rfl, rfl, rfl⟩ | ⟨i, hi, rfl, hd, rfl, hlo, hhi⟩
  · go_enter Tryz.func51, Tryz.ntmps51
    go_wp2_with fail
    rw [← HZ.out, ← hG]
    clear hG
    go_loopg [5, 7] (e - 0) (fun g u v wr => ∃ k : Nat, 0 ≤ k ∧ k ≤ e ∧ g = e - k ∧ v = .int .i64 (k : Int) ∧ Below (Z + 1) G wr ∧ wr.ownsRow Z 3 1 u (Tx.placesV ns (0 : Int) 0 k).length (((Tx.placesV ns (0 : Int) 0 k).map Int.ofNat).flatMap encInt))
    case atStart => exact ⟨0, Nat.le_refl _, HAE.out, rfl, by simp, Below.refl _ _, by rw [Tx.placesV_none]; exact World.ownsRow_nil _ _ _ _⟩
    case round =>
      obtain ⟨k, hka, hke, rfl, rfl, hbr, hown⟩ := hrel
      obtain ⟨F, hF⟩ : ∃ F, F = Tx.placesV ns (0 : Int) 0 k := ⟨_, rfl⟩
      rw [← hF] at hown
      obtain ⟨Ao, co, rfl⟩ := own_form hown
      have hFl : F.length ≤ 1000000 := by rw [hF]; have := Tx.placesV_len ns (0 : Int) 0 k; omega
      have HF := Lib.hid hF
      have HBR := Lib.hid hbr
      have HO := Lib.hid hown
      have HBW := Lib.hid (HBL.out.trans (hbr.mono (by omega)))
      have hzr : Z + 1 ≤ wr.heap.size := by have := hbr.size; have := HSZ.out; omega
      have x0 := bx_cell ((hbr.block Z (by omega)).trans HB1.out)
      have HIFK := Lib.hid (HIF.out k hka hke)
      clear hF hbr hown
      by_cases hkl : k < ns.length
      · have hkI : (k : Int) < (ns.length : Int) := by omega
        have hk0 : (0 : Int) ≤ (k : Int) := by omega
        obtain ⟨bq, oq, hA, q1⟩ := HRD.out wr HBW.out k hkl
        subst hA
        obtain ⟨dk, hdk⟩ : ∃ dk, dk = Tx.dp ns k := ⟨_, rfl⟩
        rw [← hdk] at q1
        have HDK := Lib.hid hdk
        by_cases hdd : (0 : Int) ≤ dk
        · have d1 : decide ((0 : Int) ≤ dk) = true := decide_eq_true hdd
          have hlt : k < e := HIFK.out.2 ⟨hkl, by rw [← hdk]; exact hdd⟩
          clear hdd hdk
          by_cases heq : dk = (0 : Int)
          · have d2 : (dk == (0 : Int)) = true := by simp [heq]
            have HN1 : Hid (Tx.placesV ns (0 : Int) 0 (k + 1) = F ++ [k]) := Lib.hid (by rw [Tx.placesV_succ ns (0 : Int) (a := 0) (k := k) hka, ← HF.out, if_pos (by rw [← HDK.out]; exact heq)])
            clear heq
            have hal : Below wr.heap.size wr (wr.alloc (.cells #[.int .i64 (k : Int)] 3)) := (Below.refl _ _).alloc (Nat.le_refl _) _
            have HO6 := Lib.hid (own_below HO.out hal)
            have HAL := Lib.hid hal
            have HRX : Hid (RdS (wr.alloc (.cells #[.int .i64 (k : Int)] 3)) (wr.alloc (.cells #[.int .i64 (k : Int)] 3)).heap.size 1 encInt (.slice (some ⟨wr.heap.size, 0, none⟩) 1 1) [(k : Int)]) := Lib.hid (rds_block (xs := [(k : Int)]) len_int (heap_alloc_new _ _) rfl (by simp) (Nat.le_refl 1) (by decide))
            have hm1 : F.length + [(k : Int)].length ≤ maxLen := by simp [maxLen]; omega
            have hm2 : (F.length + [(k : Int)].length) * 8 ≤ 140737488355328 := by simp; omega
            have hm3 : Z ≤ (wr.alloc (.cells #[.int .i64 (k : Int)] 3)).heap.size := by simp; omega
            have HM1 := Lib.hid hm1
            have HM2 := Lib.hid hm2
            have HM3 := Lib.hid hm3
            clear hal hm1 hm2 hm3
            go_wp2_with (at_builtin; (refine wpList_append_rd (enc := encInt) rfl (.tmp 44) (.tmp 46) _ rfl Z 3 i1 _ 1 8 len_int one_int Tryz.underlying32 hi1 hz1 hs1 hb1 rfl (by decide) (.slice Ao F.length co) F.length ((F.map Int.ofNat).flatMap encInt) rfl HO6.out _ (.slice (some ⟨wr.heap.size, 0, none⟩) 1 1) [(k : Int)] rfl HRX.out HM1.out HM2.out HM3.out ?_))
            intro v8 w8 hown8 hg8 hat8
            have HB8 : Hid (Below (Z + 1) G w8) := Lib.hid ((HBR.out.trans (HAL.out.mono hzr)).grown hg8 (by simp; omega) fun q hq => by
              have h1 := (HO6.out.lt q hq).1
              have h2 : q ≠ Z := fun e => by
                have := HO6.out.1
                rcases HO6.out.2 with ⟨hv, -⟩ | ⟨g, cap, cur, hv, hg, hh, -⟩
                · rw [hv] at hq; cases hq
                · rw [hv] at hq
                  have e3 : g = q := by simpa [Value.ownBlock] using hq
                  rw [e3, e] at hh
                  have hz := ((HBR.out.trans (HAL.out.mono hzr)).block Z (by omega)).trans HB1.out
                  rw [hh] at hz
                  injection hz with hz
                  injection hz with _ hz
                  exact absurd hz (by decide)
              omega)
            have HO8 : Hid (w8.ownsRow Z 3 1 v8 (F ++ [k]).length (((F ++ [k]).map Int.ofNat).flatMap encInt)) := Lib.hid (by rw [List.length_append, List.map_append, List.flatMap_append]; exact hown8)
            clear hown8 hg8 hat8
            go_wp2_with fail
            go_roundg (e - (k + 1))
            case measure => omega
            case rel => exact ⟨k + 1, by omega, by omega, rfl, by go_num, HB8.out, by rw [HN1.out]; exact HO8.out⟩
          · have d2 : (dk == (0 : Int)) = false := by simp [heq]
            have HN1 : Hid (Tx.placesV ns (0 : Int) 0 (k + 1) = F) := Lib.hid (by rw [Tx.placesV_succ ns (0 : Int) (a := 0) (k := k) hka, ← HF.out, if_neg (by rw [← HDK.out]; exact heq), List.append_nil])
            clear heq
            go_wp2_with fail
            go_roundg (e - (k + 1))
            case measure => omega
            case rel => exact ⟨k + 1, by omega, by omega, rfl, by go_num, HBR.out, by rw [HN1.out]; exact HO.out⟩
        · have d1 : decide ((0 : Int) ≤ dk) = false := decide_eq_false hdd
          have hge : ¬ k < e := fun q => hdd (by rw [hdk]; exact (HIFK.out.1 q).2)
          have hke2 : k = e := by omega
          have HFE : Hid (F = Tx.placesV ns (0 : Int) 0 e) := Lib.hid (by rw [HF.out, hke2])
          clear hdd hke2 hdk
          go_wp2_with fail
          go_ret
          rw [HFE.out]
          refine HRES.out Ao co wr HBW.out ?_
          rw [← HFE.out]
          exact HO.out
      · have hkI : ¬ (k : Int) < (ns.length : Int) := by omega
        have hge : ¬ k < e := fun q => hkl (HIFK.out.1 q).1
        have hke2 : k = e := by omega
        have HFE : Hid (F = Tx.placesV ns (0 : Int) 0 e) := Lib.hid (by rw [HF.out, hke2])
        clear hke2
        go_wp2_with fail
        go_ret
        rw [HFE.out]
        refine HRES.out Ao co wr HBW.out ?_
        rw [← HFE.out]
        exact HO.out
  · obtain ⟨b, off, rfl, hq⟩ := HRD.out G HBL.out i hi
    have hiI : (i : Int) < (ns.length : Int) := by omega
    have hi0 : (0 : Int) ≤ (i : Int) := by omega
    obtain ⟨di, hdi⟩ : ∃ di, di = Tx.dp ns i := ⟨_, rfl⟩
    rw [← hdi] at hq hlo hhi hd
    have HD := Lib.hid hd
    have HDI := Lib.hid hdi
    clear hdi
    go_enter Tryz.func51, Tryz.ntmps51
    go_upto_region 3 with fail
    rw [← HZ.out, ← hG]
    clear hG
    go_wp2_with fail
    rw [← hd]
    clear hq hd hlo hhi
    go_loopg [5, 7] (e - (i + 1)) (fun g u v wr => ∃ k : Nat, (i + 1) ≤ k ∧ k ≤ e ∧ g = e - k ∧ v = .int .i64 (k : Int) ∧ Below (Z + 1) G wr ∧ wr.ownsRow Z 3 1 u (Tx.placesV ns d (i + 1) k).length (((Tx.placesV ns d (i + 1) k).map Int.ofNat).flatMap encInt))
    case atStart => exact ⟨(i + 1), Nat.le_refl _, HAE.out, rfl, by simp, Below.refl _ _, by rw [Tx.placesV_none]; exact World.ownsRow_nil _ _ _ _⟩
    case round =>
      obtain ⟨k, hka, hke, rfl, rfl, hbr, hown⟩ := hrel
      obtain ⟨F, hF⟩ : ∃ F, F = Tx.placesV ns d (i + 1) k := ⟨_, rfl⟩
      rw [← hF] at hown
      obtain ⟨Ao, co, rfl⟩ := own_form hown
      have hFl : F.length ≤ 1000000 := by rw [hF]; have := Tx.placesV_len ns d (i + 1) k; omega
      have HF := Lib.hid hF
      have HBR := Lib.hid hbr
      have HO := Lib.hid hown
      have HBW := Lib.hid (HBL.out.trans (hbr.mono (by omega)))
      have hzr : Z + 1 ≤ wr.heap.size := by have := hbr.size; have := HSZ.out; omega
      have x0 := bx_cell ((hbr.block Z (by omega)).trans HB1.out)
      have HIFK := Lib.hid (HIF.out k hka hke)
      clear hF hbr hown
      by_cases hkl : k < ns.length
      · have hkI : (k : Int) < (ns.length : Int) := by omega
        have hk0 : (0 : Int) ≤ (k : Int) := by omega
        obtain ⟨bq, oq, hA, q1⟩ := HRD.out wr HBW.out k hkl
        cases hA
        obtain ⟨dk, hdk⟩ : ∃ dk, dk = Tx.dp ns k := ⟨_, rfl⟩
        rw [← hdk] at q1
        have HDK := Lib.hid hdk
        by_cases hdd : d ≤ dk
        · have d1 : decide (d ≤ dk) = true := decide_eq_true hdd
          have hlt : k < e := HIFK.out.2 ⟨hkl, by rw [← hdk]; exact hdd⟩
          clear hdd hdk
          by_cases heq : dk = d
          · have d2 : (dk == d) = true := by simp [heq]
            have HN1 : Hid (Tx.placesV ns d (i + 1) (k + 1) = F ++ [k]) := Lib.hid (by rw [Tx.placesV_succ ns d (a := (i + 1)) (k := k) hka, ← HF.out, if_pos (by rw [← HDK.out]; exact heq)])
            clear heq
            have hal : Below wr.heap.size wr (wr.alloc (.cells #[.int .i64 (k : Int)] 3)) := (Below.refl _ _).alloc (Nat.le_refl _) _
            have HO6 := Lib.hid (own_below HO.out hal)
            have HAL := Lib.hid hal
            have HRX : Hid (RdS (wr.alloc (.cells #[.int .i64 (k : Int)] 3)) (wr.alloc (.cells #[.int .i64 (k : Int)] 3)).heap.size 1 encInt (.slice (some ⟨wr.heap.size, 0, none⟩) 1 1) [(k : Int)]) := Lib.hid (rds_block (xs := [(k : Int)]) len_int (heap_alloc_new _ _) rfl (by simp) (Nat.le_refl 1) (by decide))
            have hm1 : F.length + [(k : Int)].length ≤ maxLen := by simp [maxLen]; omega
            have hm2 : (F.length + [(k : Int)].length) * 8 ≤ 140737488355328 := by simp; omega
            have hm3 : Z ≤ (wr.alloc (.cells #[.int .i64 (k : Int)] 3)).heap.size := by simp; omega
            have HM1 := Lib.hid hm1
            have HM2 := Lib.hid hm2
            have HM3 := Lib.hid hm3
            clear hal hm1 hm2 hm3
            go_wp2_with (at_builtin; (refine wpList_append_rd (enc := encInt) rfl (.tmp 44) (.tmp 46) _ rfl Z 3 i1 _ 1 8 len_int one_int Tryz.underlying32 hi1 hz1 hs1 hb1 rfl (by decide) (.slice Ao F.length co) F.length ((F.map Int.ofNat).flatMap encInt) rfl HO6.out _ (.slice (some ⟨wr.heap.size, 0, none⟩) 1 1) [(k : Int)] rfl HRX.out HM1.out HM2.out HM3.out ?_))
            intro v8 w8 hown8 hg8 hat8
            have HB8 : Hid (Below (Z + 1) G w8) := Lib.hid ((HBR.out.trans (HAL.out.mono hzr)).grown hg8 (by simp; omega) fun q hq => by
              have h1 := (HO6.out.lt q hq).1
              have h2 : q ≠ Z := fun e => by
                have := HO6.out.1
                rcases HO6.out.2 with ⟨hv, -⟩ | ⟨g, cap, cur, hv, hg, hh, -⟩
                · rw [hv] at hq; cases hq
                · rw [hv] at hq
                  have e3 : g = q := by simpa [Value.ownBlock] using hq
                  rw [e3, e] at hh
                  have hz := ((HBR.out.trans (HAL.out.mono hzr)).block Z (by omega)).trans HB1.out
                  rw [hh] at hz
                  injection hz with hz
                  injection hz with _ hz
                  exact absurd hz (by decide)
              omega)
            have HO8 : Hid (w8.ownsRow Z 3 1 v8 (F ++ [k]).length (((F ++ [k]).map Int.ofNat).flatMap encInt)) := Lib.hid (by rw [List.length_append, List.map_append, List.flatMap_append]; exact hown8)
            clear hown8 hg8 hat8
            go_wp2_with fail
            go_roundg (e - (k + 1))
            case measure => omega
            case rel => exact ⟨k + 1, by omega, by omega, rfl, by go_num, HB8.out, by rw [HN1.out]; exact HO8.out⟩
          · have d2 : (dk == d) = false := by simp [heq]
            have HN1 : Hid (Tx.placesV ns d (i + 1) (k + 1) = F) := Lib.hid (by rw [Tx.placesV_succ ns d (a := (i + 1)) (k := k) hka, ← HF.out, if_neg (by rw [← HDK.out]; exact heq), List.append_nil])
            clear heq
            go_wp2_with fail
            go_roundg (e - (k + 1))
            case measure => omega
            case rel => exact ⟨k + 1, by omega, by omega, rfl, by go_num, HBR.out, by rw [HN1.out]; exact HO.out⟩
        · have d1 : decide (d ≤ dk) = false := decide_eq_false hdd
          have hge : ¬ k < e := fun q => hdd (by rw [hdk]; exact (HIFK.out.1 q).2)
          have hke2 : k = e := by omega
          have HFE : Hid (F = Tx.placesV ns d (i + 1) e) := Lib.hid (by rw [HF.out, hke2])
          clear hdd hke2 hdk
          go_wp2_with fail
          go_ret
          rw [HFE.out]
          refine HRES.out Ao co wr HBW.out ?_
          rw [← HFE.out]
          exact HO.out
      · have hkI : ¬ (k : Int) < (ns.length : Int) := by omega
        have hge : ¬ k < e := fun q => hkl (HIFK.out.1 q).1
        have hke2 : k = e := by omega
        have HFE : Hid (F = Tx.placesV ns d (i + 1) e) := Lib.hid (by rw [HF.out, hke2])
        clear hke2
        go_wp2_with fail
        go_ret
        rw [HFE.out]
        refine HRES.out Ao co wr HBW.out ?_
        rw [← HFE.out]
        exact HO.out
end Go.Proofs.YtenmkbpdkfhbjaaGreat
