/- code.flatten: the nodes of items.; Forms with given sounds: plain notions.; Lists of matches as values; lists of these.; lexicon.begin: the matches at each place of a line. Made by gen_begin.py.; ostraconref05.begins and tails. Made by gen_rtails.py.; ostraconref01: Split, Lines, Number; ostraconref05.full.; strings.Builder: copyCheck and WriteString, as this program's text has them. -/
import Derived.Test.YtenmkbpdkfhbjaaRbCdSize
import Derived.Test.YtenmkbpdkfhbjaaRbGlossPlain
import Derived.Test.YtenmkbpdkfhbjaaRbMatches
import Derived.Lib.OthersKept
import Derived.Test.YtenmkbpdkfhbjaaRbSgLeaf
import Derived.Test.YtenmkbpdkfhbjaaRbIdle
import Derived.Test.YtenmkbpdkfhbjaaRbCdRead
import Derived.Lib.Builder
import Derived.Lib.AppendStr
namespace Cd
theorem flatL_app (d : Int) : ∀ a b : List Item, flatL d (a ++ b) = flatL d a ++ flatL d b
  | [], b => by rw [flatL]; rfl
  | x :: a, b => by rw [List.cons_append, flatL, flatL, flatL_app d a b, List.append_assoc]
theorem resL_app (f : List UInt8 → Int) : ∀ a b : List Item, resL f (a ++ b) = resL f a ++ resL f b
  | [], b => by rw [resL]; rfl
  | x :: a, b => by rw [List.cons_append, resL, resL, resL_app f a b]; rfl
theorem size_app : ∀ a b : List Item, sizeL (a ++ b) = sizeL a + sizeL b
  | [], b => by rw [sizeL]; simp
  | x :: a, b => by rw [List.cons_append, sizeL, sizeL, size_app a b, Nat.add_assoc]
theorem size_kids (x : Item) : sizeI x = sizeL x.kids + 1 := by cases x; rw [sizeI]; rfl
theorem flat_one (d : Int) (f : List UInt8 → Int) (x : Item) : flatL d (resL f [x]) = { (resI f x).node with depth := d } :: flatL (d + 1) (resL f x.kids) := by
  cases x
  rw [resL, resL, flatL, flatL, List.append_nil, resI, flatI]
  rfl
theorem res_node {f : List UInt8 → Int} {x : Item} {z dep : Int} (h : if x.node.kind = 1 then z = f x.code else z = x.node.sign) : ({ (resI f x).node with depth := dep } : Tx.Node) = { x.node with depth := dep, sign := z } := by
  cases x with
  | mk n c p ks =>
    have h' : if n.kind = 1 then z = f c else z = n.sign := h
    rw [resI]
    show ({ (if n.kind = 1 then { n with sign := f c } else n) with depth := dep } : Tx.Node) = { n with depth := dep, sign := z }
    split at h' <;> rename_i h1
    · rw [if_pos h1, h']
    · rw [if_neg h1, h']
end Cd
namespace Go.Proofs.Ytenmkbpdkfhbjaa
open Go Go.RowKit

theorem own_below {w w' : World} {base : Nat} {e : TypeId} {size n : Nat} {v : Value} {xs : List Value} (h : w.ownsRow base e size v n xs) (hb : Below w.heap.size w w') : w'.ownsRow base e size v n xs :=
  h.kept (grown_of_below (row := none) hb) (by cases v.ownBlock <;> simp)
section
variable {w : World} {base : Nat} {v : Value} {ns : List Tx.Node}
theorem step_append_node {ops : Array Oper} {o : Oper} {a : Act} {K : Act → World → Prop} {Q : Exit → Act → World → Prop} {E : Prop} (hgd : o.guard = none) (s x : Operand)
    (ho : o.op = .call { callee := .builtin .append, args := #[s, x], argTypes := #[30, 30] })
    (n : Tx.Node) (hs : a.eval s = v) (hown : w.ownsRow base 74 8 v ns.length (ns.flatMap encN)) (b c : Nat) (hx : a.eval x = .slice (some ⟨b, 0, none⟩) 1 c) (hc : 1 ≤ c ∧ c ≤ 9223372036854775807)
    (hb : w.heap[b]? = some (.cells (encN n).toArray 74 (0, 0))) (hn : ns.length ≤ 4000000) (hbase : base ≤ w.heap.size)
    (h : ∀ v' w', w'.ownsRow base 74 8 v' (ns ++ [n]).length ((ns ++ [n]).flatMap encN) → Below base w w' → w.grownBy w' v.ownBlock → K (a.put o.dst v') w') : if Region.wanted o (yielded ops a.tmps) = true then Oper.wp Try.prog o a w K Q else E := by
  have hw : Region.wanted o (yielded ops a.tmps) = true := by simp [Region.wanted, hgd]
  rw [if_pos hw]
  obtain ⟨i0, hi0, hz0, hs0, hb0⟩ := info_parts info_Node
  refine wp_append_rd (enc := encN) s x _ ho base 74 i0 _ 8 64 len_node one_node Try.underlying30 hi0 hz0 hs0 hb0 rfl (by decide) v ns.length _ hs hown w.heap.size _ [n] hx ?_ (by simp [maxLen]; omega) (by simp; omega) hbase ?_
  · refine ⟨_, c, rfl, hc.1, hc.2, fun _ => ⟨b, 0, rfl, lt_of_some hb, fun i q hi j u hj => ?_⟩⟩
    cases i with
    | zero =>
      simp at hi
      subst hi
      rw [(in_box hb _).1]
      simpa using hj
    | succ i => simp at hi
  · intro v' w' hown' hgw hat
    exact h v' w' (by rw [List.length_append, List.flatMap_append]; exact hown') (below_own_grown (Below.refl _ _) hgw hown (Nat.le_refl _) hbase) hgw
end
def RetFlat (f : List UInt8 → Int) (base : Nat) (ns : List Tx.Node) (dep : Int) (xs : List Cd.Item) (w : World) (e : Ending) (w' : World) : Prop :=
  ∃ v', e = .returned v' ∧ w'.ownsRow base 74 8 v' (ns ++ Cd.flatL dep (Cd.resL f xs)).length ((ns ++ Cd.flatL dep (Cd.resL f xs)).flatMap encN) ∧ Below base w w'
def FlatSays (f : List UInt8 → Int) (base : Nat) (ok : Nat → Prop) (d : Nat) : Prop := ∀ (A : Option Addr) (c : Nat) (xs : List Cd.Item) (dep : Nat) (v : Value) (ns : List Tx.Node) (w : World), RdH (KId (SF f) d) 76 w ok (.slice A xs.length c) xs → w.ownsRow base 74 8 v ns.length (ns.flatMap encN) → base ≤ w.heap.size → dep + Cd.sizeL xs ≤ 1000000 → ns.length + Cd.sizeL xs ≤ 1000000 →
    Calls Try.prog 14 #[v, .slice A xs.length c, .int .i64 dep] w (RetFlat f base ns dep xs w)
set_option maxRecDepth 100000 in
set_option maxHeartbeats 16000000 in
theorem flat_step (f : List UInt8 → Int) (base : Nat) (ok : Nat → Prop) (hok : ∀ b, ok b → b < base) (d : Nat) (ih : ∀ e, d = e + 1 → FlatSays f base ok e) : FlatSays f base ok d := by
  intro A c xs dep v ns w hr hown hbase hd hn
  have IH := Lib.hid ih
  have HR := Lib.hid hr
  have HLT := Lib.hid hok
  have HOWN := Lib.hid hown
  have HBASE := Lib.hid hbase
  have HDEP := Lib.hid hd
  have HNS := Lib.hid hn
  have hb : xs.length ≤ c ∧ c ≤ 9223372036854775807 := by
    obtain ⟨A', c', hv, h1, h2, -⟩ := hr
    cases hv
    exact ⟨h1, h2⟩
  clear ih hr hok hown hbase hd hn
  go_enter Try.func14, Try.ntmps14
  go_wp2_with fail
  go_loopg [0, 11] xs.length (fun g out i wr => ∃ k : Nat, k ≤ xs.length ∧ g = xs.length - k ∧ Value.int .i64 k = i ∧ wr.ownsRow base 74 8 out (ns ++ Cd.flatL dep (Cd.resL f (xs.take k))).length ((ns ++ Cd.flatL dep (Cd.resL f (xs.take k))).flatMap encN) ∧ Below base w wr)
  case atStart => exact ⟨0, Nat.zero_le _, rfl, rfl, by have := HOWN.out; simpa [Cd.resL, Cd.flatL] using this, Below.refl _ _⟩
  case round =>
    obtain ⟨k, hk, rfl, rfl, hown, hbel⟩ := hrel
    have HO := Lib.hid hown
    have HB := Lib.hid hbel
    clear hown hbel
    by_cases hlt : k < xs.length
    · obtain ⟨x, hx⟩ : ∃ x, xs[k]? = some x := ⟨_, List.getElem?_eq_getElem hlt⟩
      obtain ⟨e, b, cur, z, A', c', he, hA, hokb, hcur, hz, hkids, hcs⟩ := (HR.out.keep (w' := wr) (ok' := ok) fun b hb => ⟨hb, HB.out.block b (HLT.out b hb)⟩).one_at hx
      have HX := Lib.hid hx
      have HE := Lib.hid he
      have HSG := Lib.hid hz
      have HKID := Lib.hid hkids
      have k0 : cur[k * 11]? = some (.int .i64 x.node.kind) := by have := hcs 0 _ rfl; simpa using this
      have f0 := (in_box hcur (k * 11)).1.trans k0
      have f1 := (in_box hcur (k * 11 + 1)).1.trans (hcs 1 _ rfl)
      have f2 := (in_box hcur (k * 11 + 2)).1.trans (hcs 2 _ rfl)
      have f3 := (in_box hcur (k * 11 + 3)).1.trans (hcs 3 _ rfl)
      have f4 := (in_box hcur (k * 11 + 4)).1.trans (hcs 4 _ rfl)
      have f5 := (in_box hcur (k * 11 + 5)).1.trans (hcs 5 _ rfl)
      have f6 := (in_box hcur (k * 11 + 6)).1.trans (hcs 6 _ rfl)
      have f7 := (in_box hcur (k * 11 + 7)).1.trans (hcs 7 _ rfl)
      have f8 := (in_box hcur (k * 11 + 8)).1.trans (hcs 8 _ rfl)
      have f9 := (in_box hcur (k * 11 + 9)).1.trans (hcs 9 _ rfl)
      have f10 := (in_box hcur (k * 11 + 10)).1.trans (hcs 10 _ rfl)
      have hI0 : (0 : Int) ≤ (k : Int) := by omega
      have hI1 : (k : Int) < (xs.length : Int) := by omega
      have d1 : decide ((k : Int) < (xs.length : Int)) = true := by simpa using hlt
      subst hA
      clear hx he hz hkids k0 hcs hokb hcur
      go_upto_region 5 with fail
      obtain ⟨F, hF⟩ : ∃ F, F = ns ++ Cd.flatL (↑dep) (Cd.resL f (List.take k xs)) := ⟨_, rfl⟩
      rw [← hF] at HO
      have HF := Lib.hid hF
      clear hF
      obtain ⟨Ao, co, rfl⟩ := own_form HO.out
      obtain ⟨W5, hW5⟩ : ∃ W, W = wr.alloc (.cells #[.int .i64 x.node.kind, .int .i64 (dep : Int), .int .i64 z, .int .i64 x.node.turn, .bool x.node.mirror, .int .i64 x.node.state, .int .i64 x.node.lo, .int .i64 x.node.hi, .string (Cd.bs x.code), .int .i64 x.pos, .slice A' x.kids.length c'] 76) := ⟨_, rfl⟩
      rw [← hW5]
      have hz5 : W5.heap[wr.heap.size]? = some (.cells #[.int .i64 x.node.kind, .int .i64 (dep : Int), .int .i64 z, .int .i64 x.node.turn, .bool x.node.mirror, .int .i64 x.node.state, .int .i64 x.node.lo, .int .i64 x.node.hi, .string (Cd.bs x.code), .int .i64 x.pos, .slice A' x.kids.length c'] 76 (0, 0)) := by rw [hW5]; exact heap_alloc_new _ _
      have HB5 : Hid (Below wr.heap.size wr W5) := Lib.hid (by rw [hW5]; exact (Below.refl _ _).alloc (Nat.le_refl _) _)
      obtain ⟨z0, z1, z2, z3, z4, z5, z6, z7, z8, z9, z10⟩ := box_cells hz5
      have hx5 : wr.heap.size < W5.heap.size := lt_of_some hz5
      have HZ5 := Lib.hid hz5
      clear hW5 hz5 f0 f1 f2 f3 f4 f5 f6 f7 f8 f9 f10
      have HBA : Hid (Below W5.heap.size W5 ((W5.alloc (.cells #[.int .i64 x.node.kind, .int .i64 (dep : Int), .int .i64 z, .int .i64 x.node.turn, .bool x.node.mirror, .int .i64 x.node.state, .int .i64 x.node.lo, .int .i64 x.node.hi] 74)).drew)) := Lib.hid (((Below.refl _ _).alloc (Nat.le_refl _) _).drew)
      have HOA : Hid (((W5.alloc (.cells #[.int .i64 x.node.kind, .int .i64 (dep : Int), .int .i64 z, .int .i64 x.node.turn, .bool x.node.mirror, .int .i64 x.node.state, .int .i64 x.node.lo, .int .i64 x.node.hi] 74)).drew).ownsRow base 74 8 (.slice Ao F.length co) F.length (F.flatMap encN)) := Lib.hid (own_below (own_below HO.out HB5.out) HBA.out)
      have HNA : Hid (((W5.alloc (.cells #[.int .i64 x.node.kind, .int .i64 (dep : Int), .int .i64 z, .int .i64 x.node.turn, .bool x.node.mirror, .int .i64 x.node.state, .int .i64 x.node.lo, .int .i64 x.node.hi] 74)).drew).heap[W5.heap.size]? = some (.cells #[.int .i64 x.node.kind, .int .i64 (dep : Int), .int .i64 z, .int .i64 x.node.turn, .bool x.node.mirror, .int .i64 x.node.state, .int .i64 x.node.lo, .int .i64 x.node.hi] 74 (0, 0))) := Lib.hid (heap_alloc_new _ _)
      have HBL : Hid (base ≤ wr.heap.size) := Lib.hid (Nat.le_trans HBASE.out HB.out.size)
      have HXA : Hid (∀ w8 : World, World.grownBy ((W5.alloc (.cells #[.int .i64 x.node.kind, .int .i64 (dep : Int), .int .i64 z, .int .i64 x.node.turn, .bool x.node.mirror, .int .i64 x.node.state, .int .i64 x.node.lo, .int .i64 x.node.hi] 74)).drew) w8 (Value.ownBlock (.slice Ao F.length co)) → w8.heap[wr.heap.size]? = some (.cells #[.int .i64 x.node.kind, .int .i64 (dep : Int), .int .i64 z, .int .i64 x.node.turn, .bool x.node.mirror, .int .i64 x.node.state, .int .i64 x.node.lo, .int .i64 x.node.hi, .string (Cd.bs x.code), .int .i64 x.pos, .slice A' x.kids.length c'] 76 (0, 0))) := Lib.hid fun w8 hg => by
        rw [hg.block _ (Nat.lt_of_lt_of_le hx5 HBA.out.size) (fun e => by have := (HO.out.lt _ e.symm).2; omega), HBA.out.block _ hx5]
        exact HZ5.out
      have HTK : Hid (Cd.sizeL (xs.take k) + (Cd.sizeL x.kids + 1) ≤ Cd.sizeL xs) := Lib.hid (by
        have e1 : xs.take (k + 1) = xs.take k ++ [x] := by rw [List.take_add_one, HX.out]; rfl
        have e2 : Cd.sizeL xs = Cd.sizeL (xs.take (k + 1)) + Cd.sizeL (xs.drop (k + 1)) := by rw [← Cd.size_app, List.take_append_drop]
        rw [e1, Cd.size_app, Cd.sizeL, Cd.sizeL, Cd.size_kids] at e2
        omega)
      have HLEN : Hid (F.length = ns.length + Cd.sizeL (xs.take k)) := Lib.hid (by rw [HF.out, List.length_append, Cd.flatL_len, Cd.size_resL])
      have HFEW : Hid (F.length ≤ 4000000) := Lib.hid (by have := HLEN.out; have := HTK.out; have := HNS.out; omega)
      have HWR : Hid (IntKind.i64.wrap ((dep : Int) + 1) = ((dep + 1 : Nat) : Int)) := Lib.hid (by have h := HDEP.out; have h2 : (dep : Int) ≤ 1000000 := (by omega); clear h; rw [IntKind.wrap_i64]; omega)
      have HEQ : Hid (F ++ [{ x.node with depth := (dep : Int), sign := z }] ++ Cd.flatL (↑(dep + 1)) (Cd.resL f x.kids) = ns ++ Cd.flatL (↑dep) (Cd.resL f (List.take (k + 1) xs))) := Lib.hid (by
        have e1 : xs.take (k + 1) = xs.take k ++ [x] := by rw [List.take_add_one, HX.out]; rfl
        rw [e1, Cd.resL_app, Cd.flatL_app, Cd.flat_one]
        rw [HF.out]
        simp only [List.append_assoc, List.singleton_append]
        rw [Cd.res_node HSG.out]
        rfl)
      go_region_law (first
        | (refine step_append_node rfl (.tmp 18) (.tmp 21) rfl { x.node with depth := (dep : Int), sign := z } rfl (v := (.slice Ao F.length co)) HOA.out W5.heap.size 1 rfl (by decide) HNA.out HFEW.out (Nat.le_trans HBL.out (Nat.le_trans (Nat.le_of_lt hx5) HBA.out.size)) ?_; intro v8 w8 hown8 hb8 hg8; have HO8 := Lib.hid hown8; have HB8 := Lib.hid hb8; have x10 := (in_box (HXA.out w8 hg8) 10).1; simp at x10; obtain ⟨A8, c8, rfl⟩ := own_form hown8;
           have HCALL : Hid (Calls Try.prog 14 #[.slice A8 (F.length + 1) c8, .slice A' x.kids.length c', .int .i64 (IntKind.i64.wrap ((dep : Int) + 1))] w8 (RetFlat f base (F ++ [{ x.node with depth := (dep : Int), sign := z }]) (dep + 1 : Nat) x.kids w8)) := Lib.hid (by
             have e1 : IntKind.i64.wrap ((dep : Int) + 1) = ((dep + 1 : Nat) : Int) := HWR.out
             rw [e1]
             have h5 := HTK.out
             have h6 := HLEN.out
             have h7 := HNS.out
             have h8 := HDEP.out
             refine IH.out e HE.out A' c' x.kids (dep + 1) _ _ w8 (HKID.out.keep fun b hb => ⟨hb, ?_⟩) (by simpa using HO8.out) (Nat.le_trans HBL.out (Nat.le_trans (Nat.le_of_lt hx5) (Nat.le_trans HBA.out.size HB8.out.size))) (by omega) (by rw [List.length_append, List.length_singleton]; omega)
             have hb0 := HLT.out b hb
             have hb1 : b < wr.heap.size := Nat.lt_of_lt_of_le hb0 HBL.out
             rw [HB8.out.block b hb0, HBA.out.block b (by omega), HB5.out.block b hb1]);
           clear hown8 hb8 hg8)
        | (go_simp; refine HCALL.out.mono ?_; rintro e9 w9 ⟨v9, rfl, hown9, hb9⟩; have HO9 := Lib.hid hown9; have HB9 := Lib.hid hb9; clear hown9 hb9 HCALL))
      all_goals
        go_wp2_with fail
        go_roundg (xs.length - (k + 1))
        case measure => omega
        case rel =>
          refine ⟨k + 1, by omega, rfl, by go_num, by rw [← HEQ.out]; exact HO9.out, HB.out.trans ((HB5.out.mono HBL.out).trans ((HBA.out.mono (Nat.le_trans HBL.out (Nat.le_of_lt hx5))).trans (HB8.out.trans HB9.out)))⟩
    · have hkx : k = xs.length := by omega
      have d1 : decide ((k : Int) < (xs.length : Int)) = false := by simpa using hlt
      have HOX := HO.out
      rw [hkx, List.take_length] at HOX
      have HO1 := Lib.hid HOX
      clear hkx HOX
      go_wp2_with fail
      go_ret
      exact ⟨_, rfl, HO1.out, HB.out⟩
theorem flat_any (f : List UInt8 → Int) (base : Nat) (ok : Nat → Prop) (hok : ∀ b, ok b → b < base) : ∀ d, FlatSays f base ok d
  | 0 => flat_step f base ok hok 0 fun e h => by omega
  | d + 1 => flat_step f base ok hok (d + 1) fun e h => by
    have : e = d := by omega
    subst this
    exact flat_any f base ok hok e
end Go.Proofs.Ytenmkbpdkfhbjaa
namespace Lx
end Lx
namespace Go.Proofs.Ytenmkbpdkfhbjaa
open Go.RowKit

/-- The value reads as a list of matches, its blocks within 'ok'. -/
def RdMs (w : World) (ok : Nat → Prop) (v : Value) (ms : List Lx.Match) : Prop :=
  ∃ A c, v = .slice A ms.length c ∧ ms.length ≤ c ∧ c ≤ 9223372036854775807 ∧
    (0 < ms.length → ∃ b off, A = some ⟨b, off, none⟩ ∧ ok b ∧ ∀ i m, ms[i]? = some m →
      w.cell? ⟨b, off + i * 4, none⟩ = some (.int .i64 m.entry) ∧ w.cell? ⟨b, off + i * 4 + 1, none⟩ = some (.int .i64 m.ending) ∧
      (∃ s, w.cell? ⟨b, off + i * 4 + 2, none⟩ = some s ∧ RdX w ok 1 encInt s m.clitics) ∧ w.cell? ⟨b, off + i * 4 + 3, none⟩ = some (.int .i64 m.long))
theorem RdMs.keep {w w' : World} {v : Value} {ms : List Lx.Match} {ok ok' : Nat → Prop} (h : RdMs w ok v ms) (hk : ∀ b, ok b → ok' b ∧ w'.heap[b]? = w.heap[b]?) : RdMs w' ok' v ms := by
  obtain ⟨A, c, hv, hl, hc, hh⟩ := h
  refine ⟨A, c, hv, hl, hc, fun h0 => ?_⟩
  obtain ⟨b, off, hA, hb, hcell⟩ := hh h0
  refine ⟨b, off, hA, (hk b hb).1, fun i m hm => ?_⟩
  obtain ⟨h1, h2, ⟨s, h3, h3'⟩, h4⟩ := hcell i m hm
  have e := fun (o : Nat) => World.cell?_of_block (w := w) (w' := w') (a := ⟨b, o, none⟩) (hk b hb).2
  exact ⟨(e _).trans h1, (e _).trans h2, ⟨s, (e _).trans h3, h3'.keep hk⟩, (e _).trans h4⟩

theorem RdMs.form {w : World} {ok : Nat → Prop} {v : Value} {ms : List Lx.Match} (h : RdMs w ok v ms) : ∃ A c, v = .slice A ms.length c := by
  obtain ⟨A, c, hv, _⟩ := h
  exact ⟨A, c, hv⟩

/-- The values read as these lists. -/
inductive RdT (w : World) (ok : Nat → Prop) : List Value → List (List Lx.Match) → Prop
  | nil : RdT w ok [] []
  | cons {v : Value} {ms : List Lx.Match} {vs : List Value} {ls : List (List Lx.Match)} (h : RdMs w ok v ms) (r : RdT w ok vs ls) : RdT w ok (v :: vs) (ms :: ls)
theorem RdT.keep {w w' : World} {ok ok' : Nat → Prop} (hk : ∀ b, ok b → ok' b ∧ w'.heap[b]? = w.heap[b]?) {vs : List Value} {ls : List (List Lx.Match)} (h : RdT w ok vs ls) : RdT w' ok' vs ls := by
  induction h with
  | nil => exact .nil
  | cons h _ ih => exact .cons (h.keep hk) ih
theorem RdT.snoc {w : World} {ok : Nat → Prop} {v : Value} {ms : List Lx.Match} (hv : RdMs w ok v ms) {vs : List Value} {ls : List (List Lx.Match)} (h : RdT w ok vs ls) : RdT w ok (vs ++ [v]) (ls ++ [ms]) := by
  induction h with
  | nil => exact .cons hv .nil
  | cons h _ ih => exact .cons h ih
theorem RdT.at {w : World} {ok : Nat → Prop} {vs : List Value} {ls : List (List Lx.Match)} (h : RdT w ok vs ls) : ∀ {i : Nat} {ms : List Lx.Match}, ls[i]? = some ms → ∃ v, vs[i]? = some v ∧ RdMs w ok v ms := by
  induction h with
  | nil => intro i ms h; simp at h
  | @cons v ms vs ls h _ ih =>
    intro i ms' h'
    cases i with
    | zero => simp at h'; subst h'; exact ⟨v, by simp, h⟩
    | succ i => simp at h'; obtain ⟨u, h1, h2⟩ := ih h'; exact ⟨u, by simpa using h1, h2⟩








end Go.Proofs.Ytenmkbpdkfhbjaa
namespace Go.Proofs.Ytenmkbpdkfhbjaa
open Go.RowKit






end Go.Proofs.Ytenmkbpdkfhbjaa
namespace Go.Proofs.Ytenmkbpdkfhbjaa
open Go.RowKit

theorem keep_own {w w' : World} {base : Nat} {e : TypeId} {size n : Nat} {v : Value} {xs : List Value} (h : w.ownsRow base e size v n xs) (hb : Below w.heap.size w w') : w'.ownsRow base e size v n xs := h.kept (grown_of_below (row := none) hb) (by
  rcases h.2 with ⟨e, _⟩ | ⟨g, cap, cur, e, _⟩
  · rw [e]; exact .inl rfl
  · rw [e]; exact .inr (by simp [Value.ownBlock]))
/-- appended: more than one -/
theorem grows.append {α : Type} {K : RowK α} {w : World} {ok : Nat → Prop} {cs cs' : List Value} {xs ys : List α} (h : grows K w ok cs xs) (h' : grows K w ok cs' ys) : grows K w ok (cs ++ cs') (xs ++ ys) := by
  induction h with
  | nil => exact h'
  | cons h _ ih => rw [List.append_assoc]; exact .cons h ih
theorem OwnG.more {α : Type} {K : RowK α} {e : TypeId} {w w' : World} {base : Nat} {v v' : Value} {xs ys : List α} {cells cs : List Value} (h2 : grows K w (fun b => b < w.heap.size ∧ v.ownBlock ≠ some b ∧ base ≤ b) cells xs)
    (hm : grows K w (fun b => b < w.heap.size ∧ v.ownBlock ≠ some b ∧ base ≤ b) cs ys) (hown : w'.ownsRow base e K.size v' (xs.length + ys.length) (cells ++ cs)) (hg : w.grownBy w' v.ownBlock)
    (hat : v'.ownBlock = v.ownBlock ∨ ∃ g, v'.ownBlock = some g ∧ w.heap.size ≤ g) : OwnG K e w' base v' (xs ++ ys) := by
  have hk : ∀ b, (b < w.heap.size ∧ v.ownBlock ≠ some b ∧ base ≤ b) → (b < w'.heap.size ∧ v'.ownBlock ≠ some b ∧ base ≤ b) ∧ w'.heap[b]? = w.heap[b]? := by
    intro b ⟨hb, hne, hbs⟩
    refine ⟨⟨Nat.lt_of_lt_of_le hb hg.size, ?_, hbs⟩, hg.block b hb (fun e => hne e.symm)⟩
    rcases hat with e | ⟨g, e, hge⟩
    · rw [e]; exact hne
    · rw [e]; intro q; cases q; omega
  exact ⟨_, by rw [List.length_append]; exact hown, (h2.append hm).keep hk⟩






end Go.Proofs.Ytenmkbpdkfhbjaa
namespace Go.Proofs.Ytenmkbpdkfhbjaa
open Go Go.RowKit



end Go.Proofs.Ytenmkbpdkfhbjaa
namespace Go.Proofs.Ytenmkbpdkfhbjaa
open Go Go.RowKit

theorem info_u8 : (Try.prog.info? 5).map (fun i => (i.zero, i.size, i.bytes)) = some (some (.int .u8 0), 1, 1) := by kernel_rfl
theorem size_builder : (Try.prog.info? 85).map (·.size) = some 2 := by kernel_rfl
theorem lies_builder : liesAt Try.prog Try.prog.depth 85 (2 / Try.prog.cellsOf 85) 0 85 1 = true := by kernel_rfl

set_option maxRecDepth 100000 in
set_option maxHeartbeats 2000000 in
theorem copyCheck_used (b : Nat) (w : World) (h0 : w.cell? ⟨b, 0, none⟩ = some (.pointer (some ⟨b, 0, none⟩))) : Calls Try.prog 64 #[.pointer (some ⟨b, 0, none⟩)] w (fun e w' => e = .returned (.tuple #[]) ∧ w' = w) := by
  obtain ⟨j, hj, _⟩ := Option.map_eq_some_iff.1 size_builder
  go_enter Try.func64, Try.ntmps64
  go_wp2_with fail
  rw [Lib.run_neq_ptr_same w _ Try.underlying82 hj]
  go_wp2_with fail
  go_end0
  exact ⟨rfl, rfl⟩
set_option maxRecDepth 100000 in
set_option maxHeartbeats 2000000 in
theorem copyCheck_fresh (b : Nat) (w : World) (h0 : w.cell? ⟨b, 0, none⟩ = some (.pointer none)) (hsh : w.shape? b = some (85, 2)) (hfz : w.frozen? ⟨b, 0, none⟩ = false) : Calls Try.prog 64 #[.pointer (some ⟨b, 0, none⟩)] w (fun e w' => e = .returned (.tuple #[]) ∧ w' = w.setCell ⟨b, 0, none⟩ (.pointer (some ⟨b, 0, none⟩))) := by
  obtain ⟨j, hj, hjs⟩ := Option.map_eq_some_iff.1 size_builder
  go_enter Try.func64, Try.ntmps64
  go_wp2_with fail
  rw [Lib.run_to_unsafe w ⟨b, 0, none⟩ Try.underlying82 Try.underlying131 hj (by rw [hjs]; decide) hsh (Nat.zero_lt_succ 1)]
  simp only [Result.andThen]
  rw [Oper.upon_value]
  go_wp2_with fail
  rw [run_callFunc_extern Try.func69 (by kernel_rfl) (by kernel_rfl) (by kernel_rfl) (e := Extern.AbiNoEscape.same) (by kernel_rfl)]
  rw [Lib.run_noEscape]
  simp only [Result.andThen]
  rw [Oper.upon_value]
  go_wp2_with fail
  rw [Lib.run_from_unsafe w ⟨b, 0, none⟩ Try.underlying131 Try.underlying82 hj hsh lies_builder]
  simp only [Result.andThen]
  rw [Oper.upon_value]
  go_wp2_with fail
  go_end0
  exact ⟨rfl, rfl⟩
theorem cells_append (l : List UInt8) (s : ByteArray) : Lib.byteCells l ++ Lib.strCells s = Lib.byteCells (l ++ s.data.toList) := by simp [Lib.byteCells, Lib.strCells]
end Go.Proofs.Ytenmkbpdkfhbjaa
