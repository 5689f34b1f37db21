/- code.flatten: the nodes of items.; ostraconref03.wrapped: a node with kids, one deeper. -/
import Derived.Test.YtenmkbpdkfhbjaaGreatRcCdSize
import Derived.Test.YtenmkbpdkfhbjaaGreatRcLeaf
import Derived.Test.YtenmkbpdkfhbjaaGreatRcR3Ret
import Derived.Test.YtenmkbpdkfhbjaaGreatRcCdVisit
namespace Cd
theorem flatL_app (d : Int) : ∀ a b : List Item, flatL d (a ++ b) = flatL d a ++ flatL d b
  | [], b => by rw [flatL]; rfl
  | x :: a, b => by rw [List.cons_append, flatL, flatL, flatL_app d a b, List.append_assoc]
theorem resL_app (f : List UInt8 → Int) : ∀ a b : List Item, resL f (a ++ b) = resL f a ++ resL f b
  | [], b => by rw [resL]; rfl
  | x :: a, b => by rw [List.cons_append, resL, resL, resL_app f a b]; rfl
theorem size_app : ∀ a b : List Item, sizeL (a ++ b) = sizeL a + sizeL b
  | [], b => by rw [sizeL]; simp
  | x :: a, b => by rw [List.cons_append, sizeL, sizeL, size_app a b, Nat.add_assoc]
theorem size_kids (x : Item) : sizeI x = sizeL x.kids + 1 := by cases x; rw [sizeI]; rfl
theorem flat_one (d : Int) (f : List UInt8 → Int) (x : Item) : flatL d (resL f [x]) = { (resI f x).node with depth := d } :: flatL (d + 1) (resL f x.kids) := by
  cases x
  rw [resL, resL, flatL, flatL, List.append_nil, resI, flatI]
  rfl
theorem res_node {f : List UInt8 → Int} {x : Item} {z dep : Int} (h : if x.node.kind = 1 then z = f x.code else z = x.node.sign) : ({ (resI f x).node with depth := dep } : Tx.Node) = { x.node with depth := dep, sign := z } := by
  cases x with
  | mk n c p ks =>
    have h' : if n.kind = 1 then z = f c else z = n.sign := h
    rw [resI]
    show ({ (if n.kind = 1 then { n with sign := f c } else n) with depth := dep } : Tx.Node) = { n with depth := dep, sign := z }
    split at h' <;> rename_i h1
    · rw [if_pos h1, h']
    · rw [if_neg h1, h']
end Cd
namespace Go.Proofs.YtenmkbpdkfhbjaaGreat
open Go Go.RowKit

theorem own_below {w w' : World} {base : Nat} {e : TypeId} {size n : Nat} {v : Value} {xs : List Value} (h : w.ownsRow base e size v n xs) (hb : Below w.heap.size w w') : w'.ownsRow base e size v n xs :=
  h.kept (grown_of_below (row := none) hb) (by cases v.ownBlock <;> simp)
section
variable {w : World} {base : Nat} {v : Value} {ns : List Tx.Node}
theorem step_append_node {ops : Array Oper} {o : Oper} {a : Act} {K : Act → World → Prop} {Q : Exit → Act → World → Prop} {E : Prop} (hgd : o.guard = none) (s x : Operand)
    (ho : o.op = .call { callee := .builtin .append, args := #[s, x], argTypes := #[25, 25] })
    (n : Tx.Node) (hs : a.eval s = v) (hown : w.ownsRow base 59 8 v ns.length (ns.flatMap encN)) (b c : Nat) (hx : a.eval x = .slice (some ⟨b, 0, none⟩) 1 c) (hc : 1 ≤ c ∧ c ≤ 9223372036854775807)
    (hb : w.heap[b]? = some (.cells (encN n).toArray 59 (0, 0))) (hn : ns.length ≤ 4000000) (hbase : base ≤ w.heap.size)
    (h : ∀ v' w', w'.ownsRow base 59 8 v' (ns ++ [n]).length ((ns ++ [n]).flatMap encN) → Below base w w' → w.grownBy w' v.ownBlock → K (a.put o.dst v') w') : if Region.wanted o (yielded ops a.tmps) = true then Oper.wp Tryz.prog o a w K Q else E := by
  have hw : Region.wanted o (yielded ops a.tmps) = true := by simp [Region.wanted, hgd]
  rw [if_pos hw]
  obtain ⟨i0, hi0, hz0, hs0, hb0⟩ := info_parts info_Node
  refine wp_append_rd (enc := encN) s x _ ho base 59 i0 _ 8 64 len_node one_node Tryz.underlying25 hi0 hz0 hs0 hb0 rfl (by decide) v ns.length _ hs hown w.heap.size _ [n] hx ?_ (by simp [maxLen]; omega) (by simp; omega) hbase ?_
  · refine ⟨_, c, rfl, hc.1, hc.2, fun _ => ⟨b, 0, rfl, lt_of_some hb, fun i q hi j u hj => ?_⟩⟩
    cases i with
    | zero =>
      simp at hi
      subst hi
      rw [(in_box hb _).1]
      simpa using hj
    | succ i => simp at hi
  · intro v' w' hown' hgw hat
    exact h v' w' (by rw [List.length_append, List.flatMap_append]; exact hown') (below_own_grown (Below.refl _ _) hgw hown (Nat.le_refl _) hbase) hgw
end
def RetFlat (f : List UInt8 → Int) (base : Nat) (ns : List Tx.Node) (dep : Int) (xs : List Cd.Item) (w : World) (e : Ending) (w' : World) : Prop :=
  ∃ v', e = .returned v' ∧ w'.ownsRow base 59 8 v' (ns ++ Cd.flatL dep (Cd.resL f xs)).length ((ns ++ Cd.flatL dep (Cd.resL f xs)).flatMap encN) ∧ Below base w w'
def FlatSays (f : List UInt8 → Int) (base : Nat) (ok : Nat → Prop) (d : Nat) : Prop := ∀ (A : Option Addr) (c : Nat) (xs : List Cd.Item) (dep : Nat) (v : Value) (ns : List Tx.Node) (w : World), RdH (KId (SF f) d) 114 w ok (.slice A xs.length c) xs → w.ownsRow base 59 8 v ns.length (ns.flatMap encN) → base ≤ w.heap.size → dep + Cd.sizeL xs ≤ 1000000 → ns.length + Cd.sizeL xs ≤ 1000000 →
    Calls Tryz.prog 42 #[v, .slice A xs.length c, .int .i64 dep] w (RetFlat f base ns dep xs w)
set_option maxRecDepth 100000 in
set_option maxHeartbeats 16000000 in
theorem flat_step (f : List UInt8 → Int) (base : Nat) (ok : Nat → Prop) (hok : ∀ b, ok b → b < base) (d : Nat) (ih : ∀ e, d = e + 1 → FlatSays f base ok e) : FlatSays f base ok d := by
  intro A c xs dep v ns w hr hown hbase hd hn
  have IH := Lib.hid ih
  have HR := Lib.hid hr
  have HLT := Lib.hid hok
  have HOWN := Lib.hid hown
  have HBASE := Lib.hid hbase
  have HDEP := Lib.hid hd
  have HNS := Lib.hid hn
  have hb : xs.length ≤ c ∧ c ≤ 9223372036854775807 := by
    obtain ⟨A', c', hv, h1, h2, -⟩ := hr
    cases hv
    exact ⟨h1, h2⟩
  clear ih hr hok hown hbase hd hn
  go_enter Tryz.func42, Tryz.ntmps42
  go_wp2_with fail
  go_loopg [0, 11] xs.length (fun g out i wr => ∃ k : Nat, k ≤ xs.length ∧ g = xs.length - k ∧ Value.int .i64 k = i ∧ wr.ownsRow base 59 8 out (ns ++ Cd.flatL dep (Cd.resL f (xs.take k))).length ((ns ++ Cd.flatL dep (Cd.resL f (xs.take k))).flatMap encN) ∧ Below base w wr)
  case atStart => exact ⟨0, Nat.zero_le _, rfl, rfl, by have := HOWN.out; simpa [Cd.resL, Cd.flatL] using this, Below.refl _ _⟩
  case round =>
    obtain ⟨k, hk, rfl, rfl, hown, hbel⟩ := hrel
    have HO := Lib.hid hown
    have HB := Lib.hid hbel
    clear hown hbel
    by_cases hlt : k < xs.length
    · obtain ⟨x, hx⟩ : ∃ x, xs[k]? = some x := ⟨_, List.getElem?_eq_getElem hlt⟩
      obtain ⟨e, b, cur, z, A', c', he, hA, hokb, hcur, hz, hkids, hcs⟩ := (HR.out.keep (w' := wr) (ok' := ok) fun b hb => ⟨hb, HB.out.block b (HLT.out b hb)⟩).one_at hx
      have HX := Lib.hid hx
      have HE := Lib.hid he
      have HSG := Lib.hid hz
      have HKID := Lib.hid hkids
      have k0 : cur[k * 11]? = some (.int .i64 x.node.kind) := by have := hcs 0 _ rfl; simpa using this
      have f0 := (in_box hcur (k * 11)).1.trans k0
      have f1 := (in_box hcur (k * 11 + 1)).1.trans (hcs 1 _ rfl)
      have f2 := (in_box hcur (k * 11 + 2)).1.trans (hcs 2 _ rfl)
      have f3 := (in_box hcur (k * 11 + 3)).1.trans (hcs 3 _ rfl)
      have f4 := (in_box hcur (k * 11 + 4)).1.trans (hcs 4 _ rfl)
      have f5 := (in_box hcur (k * 11 + 5)).1.trans (hcs 5 _ rfl)
      have f6 := (in_box hcur (k * 11 + 6)).1.trans (hcs 6 _ rfl)
      have f7 := (in_box hcur (k * 11 + 7)).1.trans (hcs 7 _ rfl)
      have f8 := (in_box hcur (k * 11 + 8)).1.trans (hcs 8 _ rfl)
      have f9 := (in_box hcur (k * 11 + 9)).1.trans (hcs 9 _ rfl)
      have f10 := (in_box hcur (k * 11 + 10)).1.trans (hcs 10 _ rfl)
      have hI0 : (0 : Int) ≤ (k : Int) := by omega
      have hI1 : (k : Int) < (xs.length : Int) := by omega
      have d1 : decide ((k : Int) < (xs.length : Int)) = true := by simpa using hlt
      subst hA
      clear hx he hz hkids k0 hcs hokb hcur
      go_upto_region 5 with fail
      obtain ⟨F, hF⟩ : ∃ F, F = ns ++ Cd.flatL (↑dep) (Cd.resL f (List.take k xs)) := ⟨_, rfl⟩
      rw [← hF] at HO
      have HF := Lib.hid hF
      clear hF
      obtain ⟨Ao, co, rfl⟩ := own_form HO.out
      obtain ⟨W5, hW5⟩ : ∃ W, W = wr.alloc (.cells #[.int .i64 x.node.kind, .int .i64 (dep : Int), .int .i64 z, .int .i64 x.node.turn, .bool x.node.mirror, .int .i64 x.node.state, .int .i64 x.node.lo, .int .i64 x.node.hi, .string (Cd.bs x.code), .int .i64 x.pos, .slice A' x.kids.length c'] 114) := ⟨_, rfl⟩
      rw [← hW5]
      have hz5 : W5.heap[wr.heap.size]? = some (.cells #[.int .i64 x.node.kind, .int .i64 (dep : Int), .int .i64 z, .int .i64 x.node.turn, .bool x.node.mirror, .int .i64 x.node.state, .int .i64 x.node.lo, .int .i64 x.node.hi, .string (Cd.bs x.code), .int .i64 x.pos, .slice A' x.kids.length c'] 114 (0, 0)) := by rw [hW5]; exact heap_alloc_new _ _
      have HB5 : Hid (Below wr.heap.size wr W5) := Lib.hid (by rw [hW5]; exact (Below.refl _ _).alloc (Nat.le_refl _) _)
      obtain ⟨z0, z1, z2, z3, z4, z5, z6, z7, z8, z9, z10⟩ := box_cells hz5
      have hx5 : wr.heap.size < W5.heap.size := lt_of_some hz5
      have HZ5 := Lib.hid hz5
      clear hW5 hz5 f0 f1 f2 f3 f4 f5 f6 f7 f8 f9 f10
      have HBA : Hid (Below W5.heap.size W5 ((W5.alloc (.cells #[.int .i64 x.node.kind, .int .i64 (dep : Int), .int .i64 z, .int .i64 x.node.turn, .bool x.node.mirror, .int .i64 x.node.state, .int .i64 x.node.lo, .int .i64 x.node.hi] 59)).drew)) := Lib.hid (((Below.refl _ _).alloc (Nat.le_refl _) _).drew)
      have HOA : Hid (((W5.alloc (.cells #[.int .i64 x.node.kind, .int .i64 (dep : Int), .int .i64 z, .int .i64 x.node.turn, .bool x.node.mirror, .int .i64 x.node.state, .int .i64 x.node.lo, .int .i64 x.node.hi] 59)).drew).ownsRow base 59 8 (.slice Ao F.length co) F.length (F.flatMap encN)) := Lib.hid (own_below (own_below HO.out HB5.out) HBA.out)
      have HNA : Hid (((W5.alloc (.cells #[.int .i64 x.node.kind, .int .i64 (dep : Int), .int .i64 z, .int .i64 x.node.turn, .bool x.node.mirror, .int .i64 x.node.state, .int .i64 x.node.lo, .int .i64 x.node.hi] 59)).drew).heap[W5.heap.size]? = some (.cells #[.int .i64 x.node.kind, .int .i64 (dep : Int), .int .i64 z, .int .i64 x.node.turn, .bool x.node.mirror, .int .i64 x.node.state, .int .i64 x.node.lo, .int .i64 x.node.hi] 59 (0, 0))) := Lib.hid (heap_alloc_new _ _)
      have HBL : Hid (base ≤ wr.heap.size) := Lib.hid (Nat.le_trans HBASE.out HB.out.size)
      have HXA : Hid (∀ w8 : World, World.grownBy ((W5.alloc (.cells #[.int .i64 x.node.kind, .int .i64 (dep : Int), .int .i64 z, .int .i64 x.node.turn, .bool x.node.mirror, .int .i64 x.node.state, .int .i64 x.node.lo, .int .i64 x.node.hi] 59)).drew) w8 (Value.ownBlock (.slice Ao F.length co)) → w8.heap[wr.heap.size]? = some (.cells #[.int .i64 x.node.kind, .int .i64 (dep : Int), .int .i64 z, .int .i64 x.node.turn, .bool x.node.mirror, .int .i64 x.node.state, .int .i64 x.node.lo, .int .i64 x.node.hi, .string (Cd.bs x.code), .int .i64 x.pos, .slice A' x.kids.length c'] 114 (0, 0))) := Lib.hid fun w8 hg => by
        rw [hg.block _ (Nat.lt_of_lt_of_le hx5 HBA.out.size) (fun e => by have := (HO.out.lt _ e.symm).2; omega), HBA.out.block _ hx5]
        exact HZ5.out
      have HTK : Hid (Cd.sizeL (xs.take k) + (Cd.sizeL x.kids + 1) ≤ Cd.sizeL xs) := Lib.hid (by
        have e1 : xs.take (k + 1) = xs.take k ++ [x] := by rw [List.take_add_one, HX.out]; rfl
        have e2 : Cd.sizeL xs = Cd.sizeL (xs.take (k + 1)) + Cd.sizeL (xs.drop (k + 1)) := by rw [← Cd.size_app, List.take_append_drop]
        rw [e1, Cd.size_app, Cd.sizeL, Cd.sizeL, Cd.size_kids] at e2
        omega)
      have HLEN : Hid (F.length = ns.length + Cd.sizeL (xs.take k)) := Lib.hid (by rw [HF.out, List.length_append, Cd.flatL_len, Cd.size_resL])
      have HFEW : Hid (F.length ≤ 4000000) := Lib.hid (by have := HLEN.out; have := HTK.out; have := HNS.out; omega)
      have HWR : Hid (IntKind.i64.wrap ((dep : Int) + 1) = ((dep + 1 : Nat) : Int)) := Lib.hid (by have h := HDEP.out; have h2 : (dep : Int) ≤ 1000000 := (by omega); clear h; rw [IntKind.wrap_i64]; omega)
      have HEQ : Hid (F ++ [{ x.node with depth := (dep : Int), sign := z }] ++ Cd.flatL (↑(dep + 1)) (Cd.resL f x.kids) = ns ++ Cd.flatL (↑dep) (Cd.resL f (List.take (k + 1) xs))) := Lib.hid (by
        have e1 : xs.take (k + 1) = xs.take k ++ [x] := by rw [List.take_add_one, HX.out]; rfl
        rw [e1, Cd.resL_app, Cd.flatL_app, Cd.flat_one]
        rw [HF.out]
        simp only [List.append_assoc, List.singleton_append]
        rw [Cd.res_node HSG.out]
        rfl)
      go_region_law (first
        | (refine step_append_node rfl (.tmp 18) (.tmp 21) rfl { x.node with depth := (dep : Int), sign := z } rfl (v := (.slice Ao F.length co)) HOA.out W5.heap.size 1 rfl (by decide) HNA.out HFEW.out (Nat.le_trans HBL.out (Nat.le_trans (Nat.le_of_lt hx5) HBA.out.size)) ?_; intro v8 w8 hown8 hb8 hg8; have HO8 := Lib.hid hown8; have HB8 := Lib.hid hb8; have x10 := (in_box (HXA.out w8 hg8) 10).1; simp at x10; obtain ⟨A8, c8, rfl⟩ := own_form hown8;
           have HCALL : Hid (Calls Tryz.prog 42 #[.slice A8 (F.length + 1) c8, .slice A' x.kids.length c', .int .i64 (IntKind.i64.wrap ((dep : Int) + 1))] w8 (RetFlat f base (F ++ [{ x.node with depth := (dep : Int), sign := z }]) (dep + 1 : Nat) x.kids w8)) := Lib.hid (by
             have e1 : IntKind.i64.wrap ((dep : Int) + 1) = ((dep + 1 : Nat) : Int) := HWR.out
             rw [e1]
             have h5 := HTK.out
             have h6 := HLEN.out
             have h7 := HNS.out
             have h8 := HDEP.out
             refine IH.out e HE.out A' c' x.kids (dep + 1) _ _ w8 (HKID.out.keep fun b hb => ⟨hb, ?_⟩) (by simpa using HO8.out) (Nat.le_trans HBL.out (Nat.le_trans (Nat.le_of_lt hx5) (Nat.le_trans HBA.out.size HB8.out.size))) (by omega) (by rw [List.length_append, List.length_singleton]; omega)
             have hb0 := HLT.out b hb
             have hb1 : b < wr.heap.size := Nat.lt_of_lt_of_le hb0 HBL.out
             rw [HB8.out.block b hb0, HBA.out.block b (by omega), HB5.out.block b hb1]);
           clear hown8 hb8 hg8)
        | (go_simp; refine HCALL.out.mono ?_; rintro e9 w9 ⟨v9, rfl, hown9, hb9⟩; have HO9 := Lib.hid hown9; have HB9 := Lib.hid hb9; clear hown9 hb9 HCALL))
      all_goals
        go_wp2_with fail
        go_roundg (xs.length - (k + 1))
        case measure => omega
        case rel =>
          refine ⟨k + 1, by omega, rfl, by go_num, by rw [← HEQ.out]; exact HO9.out, HB.out.trans ((HB5.out.mono HBL.out).trans ((HBA.out.mono (Nat.le_trans HBL.out (Nat.le_of_lt hx5))).trans (HB8.out.trans HB9.out)))⟩
    · have hkx : k = xs.length := by omega
      have d1 : decide ((k : Int) < (xs.length : Int)) = false := by simpa using hlt
      have HOX := HO.out
      rw [hkx, List.take_length] at HOX
      have HO1 := Lib.hid HOX
      clear hkx HOX
      go_wp2_with fail
      go_ret
      exact ⟨_, rfl, HO1.out, HB.out⟩
theorem flat_any (f : List UInt8 → Int) (base : Nat) (ok : Nat → Prop) (hok : ∀ b, ok b → b < base) : ∀ d, FlatSays f base ok d
  | 0 => flat_step f base ok hok 0 fun e h => by omega
  | d + 1 => flat_step f base ok hok (d + 1) fun e h => by
    have : e = d := by omega
    subst this
    exact flat_any f base ok hok e
end Go.Proofs.YtenmkbpdkfhbjaaGreat
namespace Go.Proofs.YtenmkbpdkfhbjaaGreat
open Go Go.RowKit

theorem kns_at {w : World} {ok : Nat → Prop} {A : Option Addr} {n c : Nat} {nss : List (List Tx.Node)} (h : RdG KNs w ok (.slice A n c) nss) {i : Nat} {ns : List Tx.Node} (hi : nss[i]? = some ns) :
    ∃ b off A1 c1, A = some ⟨b, off, none⟩ ∧ ok b ∧ w.cell? ⟨b, off + i, none⟩ = some (.slice A1 ns.length c1) ∧ RdX w ok 8 encN (.slice A1 ns.length c1) ns := by
  obtain ⟨b, off, hA, hb, hh⟩ := h.at (by have := (List.getElem?_eq_some_iff.1 hi).1; omega)
  obtain ⟨cs, ⟨A1, c1, rfl, hx⟩, hc⟩ := hh i ns hi
  refine ⟨b, off, A1, c1, hA, hb, ?_, hx⟩
  have := hc 0 _ rfl
  simpa [KNs] using this
theorem rdx_node {w : World} {ok : Nat → Prop} {A : Option Addr} {n c : Nat} {ns : List Tx.Node} (h : RdX w ok 8 encN (.slice A n c) ns) {i : Nat} {x : Tx.Node} (hi : ns[i]? = some x) :
    ∃ b off, A = some ⟨b, off, none⟩ ∧ ok b ∧ w.cell? ⟨b, off + i * 8, none⟩ = some (.int .i64 x.kind) ∧ w.cell? ⟨b, off + i * 8 + 1, none⟩ = some (.int .i64 x.depth) ∧ w.cell? ⟨b, off + i * 8 + 2, none⟩ = some (.int .i64 x.sign) ∧ w.cell? ⟨b, off + i * 8 + 3, none⟩ = some (.int .i64 x.turn) ∧
      w.cell? ⟨b, off + i * 8 + 4, none⟩ = some (.bool x.mirror) ∧ w.cell? ⟨b, off + i * 8 + 5, none⟩ = some (.int .i64 x.state) ∧ w.cell? ⟨b, off + i * 8 + 6, none⟩ = some (.int .i64 x.lo) ∧ w.cell? ⟨b, off + i * 8 + 7, none⟩ = some (.int .i64 x.hi) := by
  obtain ⟨A', c', hv, _, _, hh⟩ := h
  cases hv
  obtain ⟨b, off, rfl, hb, hcell⟩ := hh (by have := (List.getElem?_eq_some_iff.1 hi).1; omega)
  have h := hcell i x hi
  refine ⟨b, off, rfl, hb, ?_, h 1 _ rfl, h 2 _ rfl, h 3 _ rfl, h 4 _ rfl, h 5 _ rfl, h 6 _ rfl, h 7 _ rfl⟩
  have := h 0 _ rfl
  simpa using this
def wrapV (q : Int) (nss : List (List Tx.Node)) (i k : Nat) : List Tx.Node := Cd.kindN q :: (((nss.take i).flatten ++ ((nss[i]?.getD []).take k)).map (Cd.deeper 1))
theorem wrap_zero (q : Int) (nss : List (List Tx.Node)) : wrapV q nss 0 0 = [Cd.kindN q] := by simp [wrapV]
theorem wrap_next (q : Int) (nss : List (List Tx.Node)) (i : Nat) {ns : List Tx.Node} (h : nss[i]? = some ns) : wrapV q nss (i + 1) 0 = wrapV q nss i ns.length := by
  unfold wrapV
  rw [List.take_add_one, h]
  simp
theorem wrap_snoc (q : Int) (nss : List (List Tx.Node)) (i k : Nat) {ns : List Tx.Node} {x : Tx.Node} (h : nss[i]? = some ns) (hx : ns[k]? = some x) : wrapV q nss i (k + 1) = wrapV q nss i k ++ [Cd.deeper 1 x] := by
  unfold wrapV
  rw [h]
  simp only [Option.getD_some]
  rw [List.take_add_one, hx]
  simp
theorem wrap_end (q : Int) (nss : List (List Tx.Node)) : wrapV q nss nss.length 0 = Cd.kindN q :: (nss.flatten.map (Cd.deeper 1)) := by
  unfold wrapV
  rw [List.take_of_length_le (Nat.le_refl _)]
  simp
theorem flatten_take {α : Type} : ∀ (nss : List (List α)) (i : Nat), ((nss.take i).flatten).length + (nss[i]?.getD []).length ≤ nss.flatten.length
  | [], i => by simp
  | ns :: nss, 0 => by simp
  | ns :: nss, i + 1 => by
    have := flatten_take nss i
    rw [List.take_succ_cons, List.flatten_cons, List.flatten_cons, List.length_append, List.length_append, List.getElem?_cons_succ]
    omega
theorem wrap_len (q : Int) (nss : List (List Tx.Node)) (i k : Nat) : (wrapV q nss i k).length ≤ nss.flatten.length + 1 := by
  unfold wrapV
  have := flatten_take nss i
  have h2 := List.length_take_le k (nss[i]?.getD [])
  have h3 : ((nss[i]?.getD []).take k).length ≤ (nss[i]?.getD []).length := List.length_take_le' k _
  rw [List.length_cons, List.length_map, List.length_append]
  omega
theorem own_node (w : World) (base : Nat) (hb : base ≤ w.heap.size) (n : Tx.Node) : (w.alloc (.cells (encN n).toArray 59)).ownsRow base 59 8 (.slice (some ⟨w.heap.size, 0, none⟩) 1 1) 1 (encN n) :=
  ⟨by simp [len_node], .inr ⟨w.heap.size, 1, (encN n).toArray, rfl, hb, heap_alloc_new _ _, Nat.le_refl _, by decide, by simp [len_node], by rw [Nat.one_mul, ← len_node n]; simp⟩⟩
theorem rdx_own {w : World} {base : Nat} {v : Value} {xs : List Tx.Node} (h : w.ownsRow base 59 8 v xs.length (xs.flatMap encN)) : RdX w (fun b => base ≤ b ∧ b < w.heap.size) 8 encN v xs := by
  obtain ⟨A, c, hv, h1, h2, hh⟩ := rds_of_own len_node h
  refine ⟨A, c, hv, h1, h2, fun h0 => ?_⟩
  obtain ⟨b, off, hA, hb, hc⟩ := hh h0
  refine ⟨b, off, hA, ⟨?_, hb⟩, hc⟩
  refine (h.lt b ?_).1
  rw [hv, hA]
  rcases h.2 with ⟨e, -⟩ | ⟨g, cap, cur, e, -⟩
  · rw [e] at hv; injection hv with e1; rw [hA] at e1; cases e1
  · rw [e] at hv
    injection hv with e1
    rw [hA] at e1
    injection e1 with e1
    injection e1 with e1 e2
    subst e1
    simp [Value.ownBlock]
set_option maxRecDepth 100000 in
set_option maxHeartbeats 16000000 in
theorem wrapped3_any (q : Int) (nss : List (List Tx.Node)) (A : Option Addr) (c : Nat) (w : World) (ok : Nat → Prop) (h : RdG KNs w ok (.slice A nss.length c) nss) (hok : ∀ b, ok b → b < w.heap.size) (hn : nss.length ≤ 2000000) (hl : nss.flatten.length ≤ 2000000)
    (hd : ∀ x ∈ nss.flatten, 0 ≤ x.depth ∧ x.depth ≤ 2000000) :
    Calls Tryz.prog 90 #[.int .i64 q, .slice A nss.length c] w (fun e w' => ∃ A' c', e = .returned (.slice A' (wrapV q nss nss.length 0).length c') ∧ Below w.heap.size w w' ∧ RdX w' (okF w w') 8 encN (.slice A' (wrapV q nss nss.length 0).length c') (wrapV q nss nss.length 0)) := by
  have HR := Lib.hid h
  have HOK := Lib.hid hok
  have HD := Lib.hid hd
  have HL := Lib.hid hl
  obtain ⟨Z, hZ⟩ : ∃ Z, Z = w.heap.size := ⟨_, rfl⟩
  have HZ := Lib.hid hZ
  obtain ⟨i1, hi1, hz1, hs1, hb1⟩ := info_parts info_Node
  have hnI : (nss.length : Int) ≤ 2000000 := by omega
  obtain ⟨w0, hw0⟩ : ∃ w0, w0 = w.alloc (.cells #[.int .i64 q, .int .i64 0, .int .i64 0, .int .i64 0, .bool false, .int .i64 0, .int .i64 0, .int .i64 0] 59) := ⟨_, rfl⟩
  have HO0 : Hid (w0.ownsRow Z 59 8 (.slice (some ⟨Z, 0, none⟩) 1 1) (wrapV q nss 0 0).length ((wrapV q nss 0 0).flatMap encN)) := Lib.hid (by
    rw [wrap_zero, hw0, hZ]
    have := own_node w w.heap.size (Nat.le_refl _) (Cd.kindN q)
    rw [show [Cd.kindN q].flatMap encN = encN (Cd.kindN q) by simp]
    exact this)
  have HB0 : Hid (Below Z w w0) := Lib.hid (by rw [hw0, hZ]; exact (Below.refl _ _).alloc (Nat.le_refl _) _)
  have HW0 := Lib.hid hw0
  clear h hok hd hl hZ hw0
  go_enter Tryz.func90, Tryz.ntmps90
  go_wp2_with fail
  rw [← HZ.out, ← HW0.out]
  go_loopg [5, 6] nss.length (fun g o v wr => ∃ i : Nat, i ≤ nss.length ∧ g = nss.length - i ∧ v = .int .i64 (i : Int) ∧ Below Z w wr ∧ wr.ownsRow Z 59 8 o (wrapV q nss i 0).length ((wrapV q nss i 0).flatMap encN))
  case atStart => exact ⟨0, Nat.zero_le _, rfl, rfl, HB0.out, HO0.out⟩
  case round =>
    obtain ⟨i, hi, rfl, rfl, hbr, hown⟩ := hrel
    obtain ⟨Ao, co, rfl⟩ := own_form hown
    have HBR := Lib.hid hbr
    have HO := Lib.hid hown
    clear hbr hown
    by_cases hlt : i < nss.length
    · obtain ⟨ns, hns⟩ : ∃ ns, nss[i]? = some ns := ⟨_, List.getElem?_eq_getElem hlt⟩
      have hltI : (i : Int) < (nss.length : Int) := by omega
      have hi0 : (0 : Int) ≤ (i : Int) := by omega
      obtain ⟨b, off, A1, c1, hA, hb, hcell, hx⟩ := kns_at HR.out hns
      have hbw : b < w.heap.size := HOK.out b hb
      subst hA
      have HNS := Lib.hid hns
      have hnl : ns.length ≤ 2000000 := by
        have := flatten_take nss i
        rw [hns] at this
        have h2 := HL.out
        simp only [Option.getD_some] at this
        omega
      have hnlI : (ns.length : Int) ≤ 2000000 := by omega
      have HC : Hid (∀ W, Below Z w W → W.cell? ⟨b, off + i, none⟩ = some (.slice A1 ns.length c1)) := Lib.hid fun W hW => by
        rw [HZ.out] at hW
        exact (World.cell?_of_block (hW.block b hbw)).trans hcell
      have HX := Lib.hid hx
      clear hns hcell hx
      go_wp2_with fail
      go_loopg [5, 7] ns.length (fun g o v wr => ∃ k : Nat, k ≤ ns.length ∧ g = ns.length - k ∧ v = .int .i64 (k : Int) ∧ Below Z w wr ∧ wr.ownsRow Z 59 8 o (wrapV q nss i k).length ((wrapV q nss i k).flatMap encN))
      case atStart => exact ⟨0, Nat.zero_le _, rfl, rfl, HBR.out, HO.out⟩
      case round =>
        clear HBR HO
        obtain ⟨k, hk, rfl, rfl, hbr, hown⟩ := hrel
        obtain ⟨F, hF⟩ : ∃ F, F = wrapV q nss i k := ⟨_, rfl⟩
        rw [← hF] at hown
        obtain ⟨Ao, co, rfl⟩ := own_form hown
        have HBR := Lib.hid hbr
        have HO := Lib.hid hown
        have HF := Lib.hid hF
        have hFl : F.length ≤ 2000001 := by rw [hF]; have := wrap_len q nss i k; have := HL.out; omega
        have hzr : Z ≤ wr.heap.size := by have := hbr.size; have := HZ.out; omega
        have ck := HC.out wr hbr
        clear hbr hown hF
        by_cases hkl : k < ns.length
        · obtain ⟨x, hx⟩ : ∃ x, ns[k]? = some x := ⟨_, List.getElem?_eq_getElem hkl⟩
          have hkI : (k : Int) < (ns.length : Int) := by omega
          have hk0 : (0 : Int) ≤ (k : Int) := by omega
          obtain ⟨bx, ox, hA, hbx, p0, p1, p2, p3, p4, p5, p6, p7⟩ := rdx_node HX.out hx
          subst hA
          have hbxw : bx < w.heap.size := HOK.out bx hbx
          have hkk : ∀ a : Addr, a.block = bx → wr.cell? a = w.cell? a := fun a ha => World.cell?_of_block (by rw [ha]; have := HBR.out; rw [HZ.out] at this; exact this.block bx hbxw)
          have e0 := (hkk ⟨bx, ox + k * 8, none⟩ rfl).trans p0
          have e1 := (hkk ⟨bx, ox + k * 8 + 1, none⟩ rfl).trans p1
          have e2 := (hkk ⟨bx, ox + k * 8 + 2, none⟩ rfl).trans p2
          have e3 := (hkk ⟨bx, ox + k * 8 + 3, none⟩ rfl).trans p3
          have e4 := (hkk ⟨bx, ox + k * 8 + 4, none⟩ rfl).trans p4
          have e5 := (hkk ⟨bx, ox + k * 8 + 5, none⟩ rfl).trans p5
          have e6 := (hkk ⟨bx, ox + k * 8 + 6, none⟩ rfl).trans p6
          have e7 := (hkk ⟨bx, ox + k * 8 + 7, none⟩ rfl).trans p7
          have HSN : Hid (wrapV q nss i (k + 1) = F ++ [Cd.deeper 1 x]) := Lib.hid (by rw [wrap_snoc q nss i k HNS.out hx, HF.out])
          have hdp := HD.out x (by
            have h1 := List.mem_of_getElem? hx
            exact List.mem_flatten.2 ⟨ns, List.mem_of_getElem? HNS.out, h1⟩)
          obtain ⟨dx, hdx⟩ : ∃ dx, dx = x.depth := ⟨_, rfl⟩
          have HDX : Hid (encN (Cd.deeper 1 x) = [.int .i64 x.kind, .int .i64 (dx + 1), .int .i64 x.sign, .int .i64 x.turn, .bool x.mirror, .int .i64 x.state, .int .i64 x.lo, .int .i64 x.hi]) := Lib.hid (by rw [hdx]; rfl)
          rw [← hdx] at e1 hdp
          have hd0 : 0 ≤ dx := hdp.1
          have hd1 : dx ≤ 2000000 := hdp.2
          obtain ⟨y, hy⟩ : ∃ y, y = Cd.deeper 1 x := ⟨_, rfl⟩
          rw [← hy] at HSN HDX
          clear hx hkk p0 p1 p2 p3 p4 p5 p6 p7 hdp hdx hy
          go_upto_region 10 with fail
          obtain ⟨wq, hwq⟩ : ∃ wq, wq = wr.alloc (.cells #[.int .i64 x.kind, .int .i64 (dx + 1), .int .i64 x.sign, .int .i64 x.turn, .bool x.mirror, .int .i64 x.state, .int .i64 x.lo, .int .i64 x.hi] 59) := ⟨_, rfl⟩
          rw [← hwq]
          have hbq : Below wr.heap.size wr wq := by rw [hwq]; exact (Below.refl _ _).alloc (Nat.le_refl _) _
          have hxq : wq.heap[wr.heap.size]? = some (.cells #[.int .i64 x.kind, .int .i64 (dx + 1), .int .i64 x.sign, .int .i64 x.turn, .bool x.mirror, .int .i64 x.state, .int .i64 x.lo, .int .i64 x.hi] 59 (0, 0)) := by rw [hwq]; exact heap_alloc_new _ _
          obtain ⟨z0, z1, z2, z3, z4, z5, z6, z7⟩ := box8_cells hxq
          have HOq := Lib.hid (own_below HO.out hbq)
          have HBQ := Lib.hid (HBR.out.trans (hbq.mono hzr))
          have hzq : Z ≤ wq.heap.size := Nat.le_trans hzr hbq.size
          clear hwq hbq hxq e0 e1 e2 e3 e4 e5 e6 e7 ck
          have hal : Below wq.heap.size wq (wq.alloc (.cells #[.int .i64 x.kind, .int .i64 (dx + 1), .int .i64 x.sign, .int .i64 x.turn, .bool x.mirror, .int .i64 x.state, .int .i64 x.lo, .int .i64 x.hi] 59)) := (Below.refl _ _).alloc (Nat.le_refl _) _
          have HO6 := Lib.hid (own_below HOq.out hal)
          have HAL := Lib.hid hal
          have HRX : Hid (RdS (wq.alloc (.cells #[.int .i64 x.kind, .int .i64 (dx + 1), .int .i64 x.sign, .int .i64 x.turn, .bool x.mirror, .int .i64 x.state, .int .i64 x.lo, .int .i64 x.hi] 59)) (wq.alloc (.cells #[.int .i64 x.kind, .int .i64 (dx + 1), .int .i64 x.sign, .int .i64 x.turn, .bool x.mirror, .int .i64 x.state, .int .i64 x.lo, .int .i64 x.hi] 59)).heap.size 8 encN (.slice (some ⟨wq.heap.size, 0, none⟩) 1 1) [y]) := Lib.hid (rds_block (xs := [y]) len_node (heap_alloc_new _ _) (by simp [HDX.out]) (by simp) (Nat.le_refl 1) (by decide))
          have hm1 : F.length + [y].length ≤ maxLen := by simp [maxLen]; omega
          have hm2 : (F.length + [y].length) * 64 ≤ 140737488355328 := by simp; omega
          have hm3 : Z ≤ (wq.alloc (.cells #[.int .i64 x.kind, .int .i64 (dx + 1), .int .i64 x.sign, .int .i64 x.turn, .bool x.mirror, .int .i64 x.state, .int .i64 x.lo, .int .i64 x.hi] 59)).heap.size := by simp; omega
          have HM1 := Lib.hid hm1
          have HM2 := Lib.hid hm2
          have HM3 := Lib.hid hm3
          clear hal hm1 hm2 hm3
          go_wp2_with (at_builtin; (refine wpList_append_rd (enc := encN) rfl (.tmp 38) (.tmp 40) _ rfl Z 59 i1 _ 8 64 len_node one_node Tryz.underlying25 hi1 hz1 hs1 hb1 rfl (by decide) (.slice Ao F.length co) F.length (F.flatMap encN) rfl HO6.out _ (.slice (some ⟨wq.heap.size, 0, none⟩) 1 1) [y] rfl HRX.out HM1.out HM2.out HM3.out ?_))
          intro v8 w8 hown8 hg8 hat8
          have HB8 : Hid (Below Z w w8) := Lib.hid (by
            have h1 := HBQ.out.trans (HAL.out.mono hzq)
            have h2 := HO6.out
            rw [HZ.out] at h1 h2 ⊢
            exact below_own_grown h1 hg8 h2 (Nat.le_refl _) (by have := HM3.out; have := HZ.out; omega))
          have HO8 : Hid (w8.ownsRow Z 59 8 v8 (F ++ [y]).length ((F ++ [y]).flatMap encN)) := Lib.hid (by rw [List.length_append, List.flatMap_append]; exact hown8)
          clear hown8 hg8 hat8
          go_wp2_with fail
          go_roundg (ns.length - (k + 1))
          case measure => omega
          case rel => exact ⟨k + 1, by omega, rfl, by go_num, HB8.out, by rw [HSN.out]; exact HO8.out⟩
        · have hkI : ¬ (k : Int) < (ns.length : Int) := by omega
          have HNE : Hid (F = wrapV q nss (i + 1) 0) := Lib.hid (by rw [HF.out, show k = ns.length by omega, wrap_next q nss i HNS.out])
          go_wp2_with fail
          go_roundg (nss.length - (i + 1))
          case measure => omega
          case rel => exact ⟨i + 1, by omega, rfl, by go_num, HBR.out, by rw [← HNE.out]; exact HO.out⟩
    · have hltI : ¬ (i : Int) < (nss.length : Int) := by omega
      have hie : i = nss.length := by omega
      have HFE : Hid (wrapV q nss i 0 = wrapV q nss nss.length 0) := Lib.hid (by rw [hie])
      clear hie
      go_wp2_with fail
      go_ret
      have ho := HO.out
      rw [HFE.out] at ho ⊢
      have hb := HBR.out
      rw [HZ.out] at hb ho
      exact ⟨Ao, co, rfl, hb, rdx_own ho⟩
end Go.Proofs.YtenmkbpdkfhbjaaGreat
