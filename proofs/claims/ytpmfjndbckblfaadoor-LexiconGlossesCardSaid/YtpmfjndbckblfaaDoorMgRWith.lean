/- ostraconref05.with: all forms whose sounds are a line. Made by gen_rwith.py from rwith.tpl. -/
import Derived.Test.YtpmfjndbckblfaaDoorMgRTails
import Derived.Test.YtpmfjndbckblfaaDoorMgFitsPlain
import Derived.Test.YtpmfjndbckblfaaDoorMgClone
import Derived.Test.YtpmfjndbckblfaaDoorMgRegion2
namespace Go.Proofs.YtpmfjndbckblfaaDoor
open Go.RowKit

def Lx.rwithN (x : Lx.Lexicon) (t : List UInt8) (n : Nat) : List Lx.Form := (List.range n).flatMap (_root_.Lx.rwithE x t)
def Lx.rwithTo (x : Lx.Lexicon) (t : List UInt8) (i : Nat) (e : Lx.Entry) (n : Nat) : List Lx.Form := (List.range n).flatMap (_root_.Lx.rwithQ x t i e)
theorem Lx.rwithN_succ {x : Lx.Lexicon} {t : List UInt8} {n : Nat} {e : Lx.Entry} (he : x.entries[n]? = some e) : Lx.rwithN x t (n + 1) = Lx.rwithN x t n ++ Lx.rwithTo x t n e (x.endings.length + 1) := by
  unfold Lx.rwithN Lx.rwithTo
  rw [List.range_succ, List.flatMap_append]
  simp [_root_.Lx.rwithE, he]
theorem Lx.rwithTo_next {x : Lx.Lexicon} {t : List UInt8} {i : Nat} {e : Lx.Entry} {p : Int} (h : -1 ≤ p) : Lx.rwithTo x t i e (p + 1 + 1).toNat = Lx.rwithTo x t i e (p + 1).toNat ++ _root_.Lx.rwithQ x t i e (p + 1).toNat := by
  unfold Lx.rwithTo
  rw [show (p + 1 + 1).toNat = (p + 1).toNat + 1 by omega, List.range_succ, List.flatMap_append]
  simp
theorem Lx.rwithQ_skip {x : Lx.Lexicon} {t : List UInt8} {i : Nat} {e : Lx.Entry} {p : Int} (h : -1 ≤ p) (hs : Lx.skipP x e p = true) : _root_.Lx.rwithQ x t i e (p + 1).toNat = [] := by
  rw [_root_.Lx.rwithQ, Lx.skipP_eq x e h, if_pos hs]
theorem Lx.rwithQ_no {x : Lx.Lexicon} {t : List UInt8} {i : Nat} {e : Lx.Entry} {p : Int} (h : -1 ≤ p) (hs : Lx.skipP x e p = false) (hp : (Lx.stemV x ⟨(i : Int), p, []⟩).data.toList.isPrefixOf t = false) : _root_.Lx.rwithQ x t i e (p + 1).toNat = [] := by
  rw [_root_.Lx.rwithQ, Lx.skipP_eq x e h, if_neg (by simp [hs]), show (((p + 1).toNat : Nat) : Int) - 1 = p by omega, if_neg (by simp [hp])]
theorem Lx.rwithQ_yes {x : Lx.Lexicon} {t : List UInt8} {i : Nat} {e : Lx.Entry} {p : Int} (h : -1 ≤ p) (hs : Lx.skipP x e p = false) (hp : (Lx.stemV x ⟨(i : Int), p, []⟩).data.toList.isPrefixOf t = true) :
    _root_.Lx.rwithQ x t i e (p + 1).toNat = (Lx.tailsV x 3 [] 0 (t.drop (Lx.stemV x ⟨(i : Int), p, []⟩).size)).map fun c => ⟨(i : Int), p, c⟩ := by
  rw [_root_.Lx.rwithQ, Lx.skipP_eq x e h, if_neg (by simp [hs]), show (((p + 1).toNat : Nat) : Int) - 1 = p by omega, if_pos hp]

theorem stemV_size' {x : Lx.Lexicon} {f : Lx.Form} (h : Lx.checkV x = 0) : (Lx.stemV x f).size ≤ 12 := by
  obtain ⟨_, h1, h2, _⟩ := Lx.check_parts h
  unfold Lx.stemV
  split
  · decide
  · rename_i e he
    have a := (Lx.ok_entry (Lx.good_at h1 he)).2.1
    split
    · omega
    · split
      · rename_i g hg
        have b := (Lx.ok_ending (Lx.good_at h2 hg)).2.1
        rw [ByteArray.size_append]; omega
      · omega

theorem rdl_keep' {w w1 : World} {v : Value} {x : Lx.Lexicon} (hb : Below w.heap.size w w1) (h : RdL w w.heap.size v x) : RdL w1 w1.heap.size v x := (h.below hb).more hb.size
theorem tailsV_few (x : Lx.Lexicon) : ∀ (k : Nat) (begun : List Int) (first : Nat) (t : List UInt8), ∀ c ∈ Lx.tailsV x k begun first t, c.length ≤ begun.length + k
  | 0, begun, first, t, c, h => by
    unfold Lx.tailsV at h
    split at h
    · simp at h; subst h; omega
    · simp at h
  | k + 1, begun, first, t, c, h => by
    unfold Lx.tailsV at h
    split at h
    · simp at h; subst h; omega
    · rw [List.mem_flatMap] at h
      obtain ⟨i, _, h⟩ := h
      split at h
      · split at h
        · have := tailsV_few x k _ _ _ c h
          simp at this
          omega
        · simp at h
      · simp at h
theorem Lx.rwithQ_len (x : Lx.Lexicon) (t : List UInt8) (hn : x.clitics.length ≤ 10) (i : Nat) (e : Lx.Entry) (q : Nat) : (_root_.Lx.rwithQ x t i e q).length ≤ 1331 := by
  unfold _root_.Lx.rwithQ
  split
  · simp
  · split
    · rw [List.length_map]; exact Lx.tailsV_len x hn 3 _ _ _
    · simp
theorem Lx.rwithTo_len (x : Lx.Lexicon) (t : List UInt8) (hn : x.clitics.length ≤ 10) (i : Nat) (e : Lx.Entry) (n : Nat) : (Lx.rwithTo x t i e n).length ≤ n * 1331 := by
  have := Lx.flatMap_len (f := _root_.Lx.rwithQ x t i e) (B := 1331) (List.range n) (fun a _ => Lx.rwithQ_len x t hn i e a)
  rwa [List.length_range] at this
theorem Lx.rwithN_len (x : Lx.Lexicon) (t : List UInt8) (hn : x.clitics.length ≤ 10) (hm : x.endings.length ≤ 40) (n : Nat) : (Lx.rwithN x t n).length ≤ n * 54571 := by
  have := Lx.flatMap_len (f := _root_.Lx.rwithE x t) (B := 54571) (List.range n) (fun a _ => by
    unfold _root_.Lx.rwithE
    split
    · rename_i e he
      have h := Lx.rwithTo_len x t hn a e (x.endings.length + 1)
      have h2 : (x.endings.length + 1) * 1331 ≤ 41 * 1331 := Nat.mul_le_mul_right _ (by omega)
      exact Nat.le_trans h (by omega)
    · simp)
  rwa [List.length_range] at this
section
variable {α : Type} {K : RowK α}
theorem rdg_keep {w w1 : World} {B : Nat} {v : Value} {xs : List α} (hb : Below w.heap.size w w1) (h : RdG K w (fun b => b < w.heap.size ∧ B ≤ b) v xs) : RdG K w1 (fun b => b < w1.heap.size ∧ B ≤ b) v xs :=
  h.keep fun b hk => ⟨⟨Nat.lt_of_lt_of_le hk.1 hb.size, hk.2⟩, hb.block b hk.1⟩
/-- a list of the call's own that does not lean on one block -/
def OwnGx (K : RowK α) (e : TypeId) (w : World) (base bx : Nat) (v : Value) (xs : List α) : Prop :=
  ∃ cells, w.ownsRow base e K.size v xs.length cells ∧ grows K w (fun b => b < w.heap.size ∧ v.ownBlock ≠ some b ∧ base ≤ b ∧ b ≠ bx) cells xs
theorem OwnGx.of {e : TypeId} {w w' : World} {base bx : Nat} {v : Value} {xs : List α} (h : OwnG K e w base v xs) (hb : Below w.heap.size w w') (hx : w.heap.size ≤ bx) : OwnGx K e w' base bx v xs := by
  obtain ⟨cells, h1, h2⟩ := h
  exact ⟨cells, keep_own h1 hb, h2.keep (fun b hk => ⟨⟨Nat.lt_of_lt_of_le hk.1 hb.size, hk.2.1, hk.2.2, by have := hk.1; omega⟩, hb.block b hk.1⟩)⟩
theorem OwnGx.own {e : TypeId} {w : World} {base bx : Nat} {v : Value} {xs : List α} (h : OwnGx K e w base bx v xs) : OwnG K e w base v xs := by
  obtain ⟨cells, h1, h2⟩ := h
  exact ⟨cells, h1, h2.keep (fun b hk => ⟨⟨hk.1, hk.2.1, hk.2.2.1⟩, rfl⟩)⟩
theorem OwnGx.snoc {e : TypeId} {w w' : World} {base bx : Nat} {v v' : Value} {xs : List α} {a : α} {cells cs : List Value} (h2 : grows K w (fun b => b < w.heap.size ∧ v.ownBlock ≠ some b ∧ base ≤ b ∧ b ≠ bx) cells xs)
    (hm : K.rd w (fun b => b < w.heap.size ∧ v.ownBlock ≠ some b ∧ base ≤ b ∧ b ≠ bx) cs a) (hown : w'.ownsRow base e K.size v' (xs.length + 1) (cells ++ cs)) (hg : w.grownBy w' v.ownBlock)
    (hat : v'.ownBlock = v.ownBlock ∨ ∃ g, v'.ownBlock = some g ∧ w.heap.size ≤ g) : OwnGx K e w' base bx v' (xs ++ [a]) := by
  have hk : ∀ b, (b < w.heap.size ∧ v.ownBlock ≠ some b ∧ base ≤ b ∧ b ≠ bx) → (b < w'.heap.size ∧ v'.ownBlock ≠ some b ∧ base ≤ b ∧ b ≠ bx) ∧ w'.heap[b]? = w.heap[b]? := by
    intro b ⟨hb, hne, hbs⟩
    refine ⟨⟨Nat.lt_of_lt_of_le hb hg.size, ?_, hbs⟩, hg.block b hb (fun e => hne e.symm)⟩
    rcases hat with e | ⟨g, e, hge⟩
    · rw [e]; exact hne
    · rw [e]; intro q; cases q; omega
  exact ⟨_, by rw [List.length_append]; exact hown, (h2.snoc hm).keep hk⟩
end
structure RwR (W0 : World) (s st : ByteArray) (xv vo sv u17 u18 : Value) (bx bf j n : Nat) (p : Int) (ls : List (List Int)) (d : Array Bool) (t : Array Value) (wc : World) : Prop where
  bel : Below (W0).heap.size (W0) wc
  siz : t.size = 76
  k1 : t[1]? = some (.string s)
  k2 : t[2]? = some (.pointer (some ⟨bx, 0, none⟩))
  k5 : t[5]? = some (vo)
  k6 : t[6]? = some (.int .i64 (j : Int))
  k7 : t[7]? = some (.int .i64 p)
  k8 : t[8]? = some (.pointer (some ⟨bf, 0, none⟩))
  k9 : t[9]? = some (.string st)
  k0 : t[0]? = some (xv)
  k3 : t[3]? = some (undef)
  k4 : t[4]? = some (.slice none 0 0)
  k12 : t[12]? = some (.int .i64 (j : Int))
  k13 : t[13]? = some (.pointer (some ⟨bx, 0, none⟩))
  k14 : t[14]? = some (sv)
  k15 : t[15]? = some (.int .i64 (n : Int))
  k16 : t[16]? = some (.bool true)
  k17 : t[17]? = some (u17)
  k18 : t[18]? = some (u18)
  k75 : t[75]? = some (undef)
  p0 : dn d 0 → t[53]? = some (xv)
  p1 : dn d 1 → t[54]? = some (.string s)
  p2 : dn d 2 → t[55]? = some (.string st)
  p3 : dn d 3 → t[56]? = some (.int .i64 (st.size : Int))
  p4 : dn d 4 → t[57]? = some (.string (s.extract st.size s.size))
  p5 : dn d 5 → ∃ v, t[58]? = some v ∧ RdG KInts wc (fun b => b < wc.heap.size ∧ W0.heap.size ≤ b) v ls
  p6 : dn d 6 → ∃ v, t[10]? = some v ∧ RdG KInts wc (fun b => b < wc.heap.size ∧ W0.heap.size ≤ b) v ls
def RwI (W0 : World) (s st : ByteArray) (xv vo sv u17 u18 : Value) (bx bf j n : Nat) (p : Int) (ls : List (List Int)) (d : Array Bool) (a : Act) (wc : World) : Prop := ∃ t : Array Value, a = ⟨t, []⟩ ∧ RwR W0 s st xv vo sv u17 u18 bx bf j n p ls d t wc

set_option maxRecDepth 100000 in
set_option maxHeartbeats 8000000 in
theorem rwith_any (x : Lx.Lexicon) (s : ByteArray) (hchk : Lx.checkV x = 0) (hs : s.size ≤ 1000) (vx : Value) (w : World) (hr : RdL w w.heap.size vx x) :
    Calls Tryd.prog 71 #[vx, .string s] w (fun e w' => ∃ v, e = .returned v ∧ OwnG KForm 29 w' w.heap.size v (Lx.rwithV x s.data.toList) ∧ Below w.heap.size w w') := by
  have HR := Lib.hid hr
  have HCHK := Lib.hid hchk
  obtain ⟨⟨v0, v1, v2, rfl, ⟨A0, c0, rfl, -, -, hc0⟩, ⟨A1, c1, rfl, -, -, hc1⟩, ⟨A2, c2, rfl, -⟩⟩, -, -, -⟩ := hr
  obtain ⟨htm, hok0, hok1, hok2⟩ := Lx.check_parts hchk
  obtain ⟨ht0, ht1, ht2⟩ := Lx.tooMany_no htm
  have hs0 : s.size ≤ 9223372036854775807 := by omega
  have HC0 := Lib.hid hc0
  have HC1 := Lib.hid hc1
  have HOK0 := Lib.hid hok0
  have HOK1 := Lib.hid hok1
  clear hc0 hc1 hchk htm hok0 hok1 hok2
  have cx : ∀ (W : World), W.heap[w.heap.size]? = some (.cells #[.slice A0 x.entries.length c0, .slice A1 x.endings.length c1, .slice A2 x.clitics.length c2] 26 (0, 0)) →
      W.cell? ⟨w.heap.size, 0, none⟩ = some (.slice A0 x.entries.length c0) ∧ W.cell? ⟨w.heap.size, 1, none⟩ = some (.slice A1 x.endings.length c1) ∧ W.cell? ⟨w.heap.size, 2, none⟩ = some (.slice A2 x.clitics.length c2) :=
    fun W h => ⟨by simp [World.cell?, h], by simp [World.cell?, h], by simp [World.cell?, h]⟩
  have CX := Lib.hid cx
  clear cx
  go_enter Tryd.func71, Tryd.ntmps71
  go_wp2_with fail
  go_loopg [5, 6] x.entries.length (fun g v i wr => ∃ j : Nat, j ≤ x.entries.length ∧ g = x.entries.length - j ∧ i = .int .i64 j ∧ (∃ A n c, v = .slice A n c) ∧ OwnG KForm 29 wr (w.heap.size + 1) v (Lx.rwithN x s.data.toList j) ∧
    Below w.heap.size w wr ∧ w.heap.size + 1 ≤ wr.heap.size ∧
    wr.heap[w.heap.size]? = some (.cells #[.slice A0 x.entries.length c0, .slice A1 x.endings.length c1, .slice A2 x.clitics.length c2] 26 (0, 0)))
  case atStart => exact ⟨0, Nat.zero_le _, rfl, rfl, ⟨_, _, _, rfl⟩, OwnG.nil _ _ _, (Below.refl _ _).alloc (Nat.le_refl _) _, by simp, heap_alloc_new _ _⟩
  case round =>
    obtain ⟨j, hj, rfl, rfl, ⟨Av, nv, cv, rfl⟩, hom, hbel, hsz, hx⟩ := hrel
    obtain ⟨x0, x1, x2⟩ := CX.out wr hx
    have HX := Lib.hid hx
    have HOM := Lib.hid hom
    have HBEL := Lib.hid hbel
    clear hom hbel hx
    by_cases hlt : j < x.entries.length
    · obtain ⟨b, off, rfl, hb, hcell⟩ := HC0.out (by omega)
      obtain ⟨e, he⟩ : ∃ e, x.entries[j]? = some e := ⟨_, List.getElem?_eq_getElem hlt⟩
      have hjI : (0 : Int) ≤ (j : Int) := by omega
      have hjJ : (j : Int) < (x.entries.length : Int) := by omega
      have HE := Lib.hid he
      have HCELL : Hid (∀ W, Below w.heap.size w W → W.cell? ⟨b, off + j * 4 + 1, none⟩ = some (.int .i64 e.kind)) := Lib.hid fun W hW => (hW.cell hb).trans (hcell j e he 1 _ rfl)
      have HTN : Hid (Lx.rwithN x s.data.toList (j + 1) = Lx.rwithN x s.data.toList j ++ Lx.rwithTo x s.data.toList j e (x.endings.length + 1)) := Lib.hid (Lx.rwithN_succ he)
      clear hcell he
      go_wp2_with fail
      go_loopg [5, 7] (x.endings.length + 1) (fun g v i wi => ∃ p : Int, -1 ≤ p ∧ p ≤ x.endings.length ∧ g = (x.endings.length - p).toNat ∧ i = .int .i64 p ∧ (∃ A n c, v = .slice A n c) ∧
        OwnG KForm 29 wi (w.heap.size + 1) v (Lx.rwithN x s.data.toList j ++ Lx.rwithTo x s.data.toList j e (p + 1).toNat) ∧ Below w.heap.size w wi ∧ w.heap.size + 1 ≤ wi.heap.size ∧
        wi.heap[w.heap.size]? = some (.cells #[.slice (some ⟨b, off, none⟩) x.entries.length c0, .slice A1 x.endings.length c1, .slice A2 x.clitics.length c2] 26 (0, 0)))
      case atStart => exact ⟨-1, by omega, by omega, by omega, rfl, ⟨_, _, _, rfl⟩, by rw [show ((-1 : Int) + 1).toNat = 0 by decide]; simpa [Lx.rwithTo] using HOM.out, HBEL.out, hsz, HX.out⟩
      case round =>
        rename World => wi
        obtain ⟨p, hp0, hp1, rfl, rfl, ⟨Aq, nq, cq, rfl⟩, hom, hbel, hsz, hx⟩ := hrel
        clear x0 x1 x2
        obtain ⟨x0, x1, x2⟩ := CX.out wi hx
        have y1 := HCELL.out wi hbel
        have HXI := Lib.hid hx
        have HOMI := Lib.hid hom
        have HBELI := Lib.hid hbel
        clear hom hbel hx
        by_cases hp2 : p < (x.endings.length : Int)
        · go_upto_region 8 with fail
          go_cut [42] (fun t wc => t = .bool (Lx.skipP x e p) ∧ ∃ n, wc = wi.drewN n)
          case first =>
            by_cases hq0 : 0 ≤ p
            · obtain ⟨b1, off1, rfl, hb1, hcell1⟩ := HC1.out (by omega)
              have hg : decide ((0 : Int) ≤ p) = true := by simp [hq0]
              obtain ⟨g, he1⟩ : ∃ g, x.endings[p.toNat]? = some g := ⟨_, List.getElem?_eq_getElem (by omega)⟩
              have g0 : wi.cell? ⟨b1, off1 + p.toNat * 4, none⟩ = some (.int .i64 g.kind) := (HBELI.out.cell hb1).trans (hcell1 p.toNat g he1 0 _ rfl)
              have HS : Hid (Lx.skipP x e p = (!(g.kind == e.kind))) := Lib.hid (by
                simp only [Lx.skipP, he1, hq0, decide_true, Bool.true_and]
                by_cases hk : g.kind = e.kind <;> simp [hk])
              clear hcell1 he1
              go_quiet (fail)
              all_goals go_wp2_with fail
              all_goals
                go_meet
                go_light
                refine ⟨?_, _, rfl⟩
                rw [HS.out]
                rfl
            · have hg : decide ((0 : Int) ≤ p) = false := by simp; omega
              have HS : Hid (Lx.skipP x e p = false) := Lib.hid (by simp [Lx.skipP, hq0])
              clear hq0
              go_quiet (fail)
              all_goals go_wp2_with fail
              all_goals
                go_meet
                go_light
                refine ⟨?_, _, rfl⟩
                rw [HS.out]
          case rest =>
            rename World => wk
            obtain ⟨rfl, nd, hwk⟩ := hcut
            have HWK : Hid (Below wi.heap.size wi wk) := Lib.hid (by rw [hwk]; exact below_drewN (Below.refl _ _) _)
            have HBK := Lib.hid (HBELI.out.trans (HWK.out.mono (by omega)))
            have hsk1 : wi.heap.size = wk.heap.size := by rw [hwk]; rfl
            have HOMK := Lib.hid (HOMI.out.kept HWK.out)
            have HXK := Lib.hid ((HWK.out.block _ (by omega)).trans HXI.out)
            clear hwk HOMI HXI HBELI HWK x0 x1 x2 y1
            obtain ⟨x0, x1, x2⟩ := CX.out wk HXK.out
            have hsz4 : w.heap.size < wk.heap.size := by omega
            have hsz5 : w.heap.size < wk.heap.size + 1 := by omega
            cases hsk : Lx.skipP x e p
            · have HSK := Lib.hid hsk
              clear hsk
              go_wp2_with fail
              refine (rstem_any _ (.agg #[.int .i64 (j : Int), .int .i64 p, .slice none 0 0]) x ⟨(j : Int), p, []⟩ _ ((HR.out.below (HBK.out.trans ((Below.refl _ _).alloc (Nat.le_refl _) _ |>.mono (by omega)))).more (by simp; omega)) ⟨⟨_, rfl, none, 0, rfl, by simp, by simp, fun h => absurd h (by simp)⟩⟩ HCHK.out ⟨⟨by show (0 : Int) ≤ (j : Int); omega, hjJ⟩, by show p < 0 ∨ (0 ≤ p ∧ p < (x.endings.length : Int)); omega⟩).mono ?_
              rintro e3 w3 ⟨rfl, hb3⟩
              have hs3 : wk.heap.size + 1 ≤ w3.heap.size := by have := hb3.size; simp at this; omega
              have HF3 : Hid (w3.heap[wk.heap.size]? = some (.cells #[.int .i64 (j : Int), .int .i64 p, .slice none 0 0] 29 (0, 0))) := Lib.hid ((hb3.block _ (by simp)).trans (heap_alloc_new _ _))
              have HB3 : Hid (Below wk.heap.size wk w3) := Lib.hid (((Below.refl _ _).alloc (Nat.le_refl _) _).trans (hb3.mono (by simp)))
              have hst12 : (Lx.stemV x ⟨(j : Int), p, []⟩).size ≤ 12 := stemV_size' HCHK.out
              clear hb3
              generalize hst : Lx.stemV x ⟨(j : Int), p, []⟩ = st at *
              have HST := Lib.hid hst
              clear hst
              have HX3 := Lib.hid ((HB3.out.block _ hsz4).trans HXK.out)
              have HOM3 := Lib.hid (HOMK.out.kept HB3.out)
              have HBE3 := Lib.hid (HBK.out.trans (HB3.out.mono (by omega)))
              have HVLT : Hid (∀ k, (Value.slice Aq nq cq).ownBlock = some k → k < wk.heap.size) := Lib.hid (fun k hk => (HOMK.out.lt k hk).2)
              have HGX : Hid (∀ W, Below wk.heap.size wk W → OwnGx KForm 29 W (w.heap.size + 1) wk.heap.size (.slice Aq nq cq) (Lx.rwithN x s.data.toList j ++ Lx.rwithTo x s.data.toList j e (p + 1).toNat)) := Lib.hid (fun W hW => OwnGx.of HOMK.out hW (Nat.le_refl _))
              clear HXK HOMK HBK x0 x1 x2
              obtain ⟨x0, x1, x2⟩ := CX.out w3 HX3.out
              go_wp2_with fail
              cases hpp : st.data.toList.isPrefixOf s.data.toList
              · have HN : Hid (Lx.rwithTo x s.data.toList j e (p + 1 + 1).toNat = Lx.rwithTo x s.data.toList j e (p + 1).toNat) := Lib.hid (by
                  rw [Lx.rwithTo_next hp0, Lx.rwithQ_no hp0 HSK.out (by rw [HST.out]; exact hpp), List.append_nil])
                have HPP := Lib.hid hpp
                clear hpp
                refine (rbegins_any s st w3 (by simp only [maxLen]; omega) (by simp only [maxLen]; omega)).mono ?_
                rw [HPP.out]
                rintro e1 w2 ⟨rfl, hw2⟩
                subst hw2
                go_wp2_with fail
                go_roundg ((x.endings.length - (p + 1)).toNat)
                case measure => omega
                case rel => exact ⟨p + 1, by omega, by omega, rfl, rfl, ⟨_, _, _, rfl⟩, by rw [HN.out]; exact HOM3.out, HBE3.out, by omega, HX3.out⟩
              · have HN : Hid (Lx.rwithTo x s.data.toList j e (p + 1 + 1).toNat = Lx.rwithTo x s.data.toList j e (p + 1).toNat ++ (Lx.tailsV x 3 [] 0 (s.data.toList.drop st.size)).map fun c => ⟨(j : Int), p, c⟩) := Lib.hid (by
                  rw [Lx.rwithTo_next hp0, Lx.rwithQ_yes hp0 HSK.out (by rw [HST.out]; exact hpp), HST.out])
                have HPP := Lib.hid hpp
                have hgt : st.size ≤ s.size := by
                  rcases Nat.lt_or_ge s.size st.size with q | q
                  · rw [pre_long (by omega)] at hpp; cases hpp
                  · exact q
                clear hpp
                refine (rbegins_any s st w3 (by simp only [maxLen]; omega) (by simp only [maxLen]; omega)).mono ?_
                rw [HPP.out]
                rintro e1 w2 ⟨rfl, hw2⟩
                subst hw2
                go_wp2_with fail
                obtain ⟨ls, hls⟩ : ∃ ls, ls = Lx.tailsV x 3 [] 0 (s.extract st.size s.size).data.toList := ⟨_, rfl⟩
                have HTL : Hid (∀ W, Below w3.heap.size w3 W → Calls Tryd.prog 101 #[(.agg #[.slice (some ⟨b, off, none⟩) x.entries.length c0, .slice A1 x.endings.length c1, .slice A2 x.clitics.length c2]), .slice none 0 0, .int .i64 0, .string (s.extract st.size s.size)] W (fun e w' => ∃ v, e = .returned v ∧ RdG KInts w' (fun b => b < w'.heap.size ∧ w3.heap.size ≤ b) v ls ∧ Below W.heap.size W w')) := Lib.hid fun W hW =>
                  (rtails_any x HCHK.out 3 [] 0 (s.extract st.size s.size) (fun _ => False) _ (.slice none 0 0) W rfl (Nat.zero_le _) (by simp [ByteArray.size_extract]; omega) (rdl_keep' (HBE3.out.trans (hW.mono HBE3.out.size)) HR.out) (fun _ h => h.elim) ⟨none, 0, rfl, by simp, by simp, fun h => absurd h (by simp)⟩).mono (by
                    rintro e1 w1 ⟨v1, h1, h2, h3⟩
                    exact ⟨v1, h1, by rw [hls]; exact h2.keep (fun b hk => ⟨⟨hk.1, hk.2.elim False.elim (fun q => Nat.le_trans hW.size q)⟩, rfl⟩), h3⟩)
                have hll : ls.length ≤ 1331 := by rw [hls]; exact Lx.tailsV_len x ht2 3 _ _ _
                rw [Lib.extract_to_end] at hls
                rw [← hls] at HN
                have HLS := Lib.hid hls
                clear hls
                refine wp_region_inv2 (RwI w3 s st (.agg #[.slice (some ⟨b, off, none⟩) x.entries.length c0, .slice A1 x.endings.length c1, .slice A2 x.clitics.length c2]) (.slice Aq nq cq) (.slice (some ⟨b, off, none⟩) x.entries.length c0) u17 u18 w.heap.size wk.heap.size j x.entries.length p ls) (by kernel_rfl) (by kernel_rfl) ?gh0 ?ghstep ?ghend
                case gh0 =>
                  have hno : ∀ j, ¬ dn (Array.replicate 7 false) j := by
                    intro j; unfold dn; by_cases hj : j < 7 <;> simp [Array.getD, hj]
                  exact ⟨_, rfl, { bel := (Below.refl _ _).drew, siz := rfl, k1 := rfl, k2 := rfl, k5 := rfl, k6 := rfl, k7 := rfl, k8 := rfl, k9 := rfl, k0 := rfl, k3 := rfl, k4 := rfl, k12 := rfl, k13 := rfl, k14 := rfl, k15 := rfl, k16 := rfl, k17 := rfl, k18 := rfl, k75 := rfl, p0 := fun hj => absurd hj (hno _), p1 := fun hj => absurd hj (hno _), p2 := fun hj => absurd hj (hno _), p3 := fun hj => absurd hj (hno _), p4 := fun hj => absurd hj (hno _), p5 := fun hj => absurd hj (hno _), p6 := fun hj => absurd hj (hno _) }⟩
                case ghstep =>
                  intro d a wc i hd hI hi
                  obtain ⟨hlt, hnd, hpre⟩ := mem_ready hi
                  have hd' : d.size = 7 := hd
                  have hin : i < 7 := hlt
                  clear hi hd hlt
                  obtain ⟨t, rfl, h⟩ := hI
                  have hcs : i = 0 ∨ i = 1 ∨ i = 2 ∨ i = 3 ∨ i = 4 ∨ i = 5 ∨ i = 6 := by omega
                  rcases hcs with rfl | rfl | rfl | rfl | rfl | rfl | rfl
                  · have hi : 0 < d.size := by omega
                    obtain ⟨m0, m1, m2⟩ := CX.out wc ((h.bel.block _ (by omega)).trans HX3.out)
                    have q2 := h.k2
                    refine wpOp_plain rfl rfl ?_
                    go_simp
                    exact ⟨_, rfl, { bel := h.bel, siz := (by simpa using h.siz), k1 := (set_other (by decide)).trans h.k1, k2 := (set_other (by decide)).trans h.k2, k5 := (set_other (by decide)).trans h.k5, k6 := (set_other (by decide)).trans h.k6, k7 := (set_other (by decide)).trans h.k7, k8 := (set_other (by decide)).trans h.k8, k9 := (set_other (by decide)).trans h.k9, k0 := (set_other (by decide)).trans h.k0, k3 := (set_other (by decide)).trans h.k3, k4 := (set_other (by decide)).trans h.k4, k12 := (set_other (by decide)).trans h.k12, k13 := (set_other (by decide)).trans h.k13, k14 := (set_other (by decide)).trans h.k14, k15 := (set_other (by decide)).trans h.k15, k16 := (set_other (by decide)).trans h.k16, k17 := (set_other (by decide)).trans h.k17, k18 := (set_other (by decide)).trans h.k18, k75 := (set_other (by decide)).trans h.k75, p0 := fun _ => set_same (by have := h.siz; omega), p1 := fun hj => (set_other (by decide)).trans (h.p1 (dn_of hi hj (by decide))), p2 := fun hj => (set_other (by decide)).trans (h.p2 (dn_of hi hj (by decide))), p3 := fun hj => (set_other (by decide)).trans (h.p3 (dn_of hi hj (by decide))), p4 := fun hj => (set_other (by decide)).trans (h.p4 (dn_of hi hj (by decide))), p5 := fun hj => (by obtain ⟨v, h1, h2⟩ := (h.p5 (dn_of hi hj (by decide))); exact ⟨v, ((set_other (by decide)).trans h1), rdg_keep (Below.refl _ _) h2⟩), p6 := fun hj => (by obtain ⟨v, h1, h2⟩ := (h.p6 (dn_of hi hj (by decide))); exact ⟨v, ((set_other (by decide)).trans h1), rdg_keep (Below.refl _ _) h2⟩) }⟩
                  · have hi : 1 < d.size := by omega
                    have q1 := h.k1
                    refine wpOp_plain rfl rfl ?_
                    go_simp
                    exact ⟨_, rfl, { bel := h.bel, siz := (by simpa using h.siz), k1 := (set_other (by decide)).trans h.k1, k2 := (set_other (by decide)).trans h.k2, k5 := (set_other (by decide)).trans h.k5, k6 := (set_other (by decide)).trans h.k6, k7 := (set_other (by decide)).trans h.k7, k8 := (set_other (by decide)).trans h.k8, k9 := (set_other (by decide)).trans h.k9, k0 := (set_other (by decide)).trans h.k0, k3 := (set_other (by decide)).trans h.k3, k4 := (set_other (by decide)).trans h.k4, k12 := (set_other (by decide)).trans h.k12, k13 := (set_other (by decide)).trans h.k13, k14 := (set_other (by decide)).trans h.k14, k15 := (set_other (by decide)).trans h.k15, k16 := (set_other (by decide)).trans h.k16, k17 := (set_other (by decide)).trans h.k17, k18 := (set_other (by decide)).trans h.k18, k75 := (set_other (by decide)).trans h.k75, p0 := fun hj => (set_other (by decide)).trans (h.p0 (dn_of hi hj (by decide))), p1 := fun _ => set_same (by have := h.siz; omega), p2 := fun hj => (set_other (by decide)).trans (h.p2 (dn_of hi hj (by decide))), p3 := fun hj => (set_other (by decide)).trans (h.p3 (dn_of hi hj (by decide))), p4 := fun hj => (set_other (by decide)).trans (h.p4 (dn_of hi hj (by decide))), p5 := fun hj => (by obtain ⟨v, h1, h2⟩ := (h.p5 (dn_of hi hj (by decide))); exact ⟨v, ((set_other (by decide)).trans h1), rdg_keep (Below.refl _ _) h2⟩), p6 := fun hj => (by obtain ⟨v, h1, h2⟩ := (h.p6 (dn_of hi hj (by decide))); exact ⟨v, ((set_other (by decide)).trans h1), rdg_keep (Below.refl _ _) h2⟩) }⟩
                  · have hi : 2 < d.size := by omega
                    have q9 := h.k9
                    refine wpOp_plain rfl rfl ?_
                    go_simp
                    exact ⟨_, rfl, { bel := h.bel, siz := (by simpa using h.siz), k1 := (set_other (by decide)).trans h.k1, k2 := (set_other (by decide)).trans h.k2, k5 := (set_other (by decide)).trans h.k5, k6 := (set_other (by decide)).trans h.k6, k7 := (set_other (by decide)).trans h.k7, k8 := (set_other (by decide)).trans h.k8, k9 := (set_other (by decide)).trans h.k9, k0 := (set_other (by decide)).trans h.k0, k3 := (set_other (by decide)).trans h.k3, k4 := (set_other (by decide)).trans h.k4, k12 := (set_other (by decide)).trans h.k12, k13 := (set_other (by decide)).trans h.k13, k14 := (set_other (by decide)).trans h.k14, k15 := (set_other (by decide)).trans h.k15, k16 := (set_other (by decide)).trans h.k16, k17 := (set_other (by decide)).trans h.k17, k18 := (set_other (by decide)).trans h.k18, k75 := (set_other (by decide)).trans h.k75, p0 := fun hj => (set_other (by decide)).trans (h.p0 (dn_of hi hj (by decide))), p1 := fun hj => (set_other (by decide)).trans (h.p1 (dn_of hi hj (by decide))), p2 := fun _ => set_same (by have := h.siz; omega), p3 := fun hj => (set_other (by decide)).trans (h.p3 (dn_of hi hj (by decide))), p4 := fun hj => (set_other (by decide)).trans (h.p4 (dn_of hi hj (by decide))), p5 := fun hj => (by obtain ⟨v, h1, h2⟩ := (h.p5 (dn_of hi hj (by decide))); exact ⟨v, ((set_other (by decide)).trans h1), rdg_keep (Below.refl _ _) h2⟩), p6 := fun hj => (by obtain ⟨v, h1, h2⟩ := (h.p6 (dn_of hi hj (by decide))); exact ⟨v, ((set_other (by decide)).trans h1), rdg_keep (Below.refl _ _) h2⟩) }⟩
                  · have hi : 3 < d.size := by omega
                    have e2 := h.p2 (hpre _ rfl ⟨2, .data⟩ (by simp) rfl)
                    refine wpOp_plain rfl rfl ?_
                    go_simp
                    exact ⟨_, rfl, { bel := h.bel, siz := (by simpa using h.siz), k1 := (set_other (by decide)).trans h.k1, k2 := (set_other (by decide)).trans h.k2, k5 := (set_other (by decide)).trans h.k5, k6 := (set_other (by decide)).trans h.k6, k7 := (set_other (by decide)).trans h.k7, k8 := (set_other (by decide)).trans h.k8, k9 := (set_other (by decide)).trans h.k9, k0 := (set_other (by decide)).trans h.k0, k3 := (set_other (by decide)).trans h.k3, k4 := (set_other (by decide)).trans h.k4, k12 := (set_other (by decide)).trans h.k12, k13 := (set_other (by decide)).trans h.k13, k14 := (set_other (by decide)).trans h.k14, k15 := (set_other (by decide)).trans h.k15, k16 := (set_other (by decide)).trans h.k16, k17 := (set_other (by decide)).trans h.k17, k18 := (set_other (by decide)).trans h.k18, k75 := (set_other (by decide)).trans h.k75, p0 := fun hj => (set_other (by decide)).trans (h.p0 (dn_of hi hj (by decide))), p1 := fun hj => (set_other (by decide)).trans (h.p1 (dn_of hi hj (by decide))), p2 := fun hj => (set_other (by decide)).trans (h.p2 (dn_of hi hj (by decide))), p3 := fun _ => set_same (by have := h.siz; omega), p4 := fun hj => (set_other (by decide)).trans (h.p4 (dn_of hi hj (by decide))), p5 := fun hj => (by obtain ⟨v, h1, h2⟩ := (h.p5 (dn_of hi hj (by decide))); exact ⟨v, ((set_other (by decide)).trans h1), rdg_keep (Below.refl _ _) h2⟩), p6 := fun hj => (by obtain ⟨v, h1, h2⟩ := (h.p6 (dn_of hi hj (by decide))); exact ⟨v, ((set_other (by decide)).trans h1), rdg_keep (Below.refl _ _) h2⟩) }⟩
                  · have hi : 4 < d.size := by omega
                    have e1 := h.p1 (hpre _ rfl ⟨1, .data⟩ (by simp) rfl)
                    have e3 := h.p3 (hpre _ rfl ⟨3, .data⟩ (by simp) rfl)
                    refine wpOp_plain rfl rfl ?_
                    go_simp
                    exact ⟨_, rfl, { bel := h.bel, siz := (by simpa using h.siz), k1 := (set_other (by decide)).trans h.k1, k2 := (set_other (by decide)).trans h.k2, k5 := (set_other (by decide)).trans h.k5, k6 := (set_other (by decide)).trans h.k6, k7 := (set_other (by decide)).trans h.k7, k8 := (set_other (by decide)).trans h.k8, k9 := (set_other (by decide)).trans h.k9, k0 := (set_other (by decide)).trans h.k0, k3 := (set_other (by decide)).trans h.k3, k4 := (set_other (by decide)).trans h.k4, k12 := (set_other (by decide)).trans h.k12, k13 := (set_other (by decide)).trans h.k13, k14 := (set_other (by decide)).trans h.k14, k15 := (set_other (by decide)).trans h.k15, k16 := (set_other (by decide)).trans h.k16, k17 := (set_other (by decide)).trans h.k17, k18 := (set_other (by decide)).trans h.k18, k75 := (set_other (by decide)).trans h.k75, p0 := fun hj => (set_other (by decide)).trans (h.p0 (dn_of hi hj (by decide))), p1 := fun hj => (set_other (by decide)).trans (h.p1 (dn_of hi hj (by decide))), p2 := fun hj => (set_other (by decide)).trans (h.p2 (dn_of hi hj (by decide))), p3 := fun hj => (set_other (by decide)).trans (h.p3 (dn_of hi hj (by decide))), p4 := fun _ => set_same (by have := h.siz; omega), p5 := fun hj => (by obtain ⟨v, h1, h2⟩ := (h.p5 (dn_of hi hj (by decide))); exact ⟨v, ((set_other (by decide)).trans h1), rdg_keep (Below.refl _ _) h2⟩), p6 := fun hj => (by obtain ⟨v, h1, h2⟩ := (h.p6 (dn_of hi hj (by decide))); exact ⟨v, ((set_other (by decide)).trans h1), rdg_keep (Below.refl _ _) h2⟩) }⟩
                  · have hi : 5 < d.size := by omega
                    have e0 := h.p0 (hpre _ rfl ⟨0, .data⟩ (by simp) rfl)
                    have e4 := h.p4 (hpre _ rfl ⟨4, .data⟩ (by simp) rfl)
                    refine wpOp_plain rfl rfl ?_
                    go_simp
                    refine (HTL.out wc h.bel).mono ?_
                    rintro e1 w1 ⟨v1, rfl, hrr, hb⟩
                    exact ⟨_, rfl, { bel := h.bel.trans (hb.mono h.bel.size), siz := (by simpa using h.siz), k1 := (set_other (by decide)).trans h.k1, k2 := (set_other (by decide)).trans h.k2, k5 := (set_other (by decide)).trans h.k5, k6 := (set_other (by decide)).trans h.k6, k7 := (set_other (by decide)).trans h.k7, k8 := (set_other (by decide)).trans h.k8, k9 := (set_other (by decide)).trans h.k9, k0 := (set_other (by decide)).trans h.k0, k3 := (set_other (by decide)).trans h.k3, k4 := (set_other (by decide)).trans h.k4, k12 := (set_other (by decide)).trans h.k12, k13 := (set_other (by decide)).trans h.k13, k14 := (set_other (by decide)).trans h.k14, k15 := (set_other (by decide)).trans h.k15, k16 := (set_other (by decide)).trans h.k16, k17 := (set_other (by decide)).trans h.k17, k18 := (set_other (by decide)).trans h.k18, k75 := (set_other (by decide)).trans h.k75, p0 := fun hj => (set_other (by decide)).trans (h.p0 (dn_of hi hj (by decide))), p1 := fun hj => (set_other (by decide)).trans (h.p1 (dn_of hi hj (by decide))), p2 := fun hj => (set_other (by decide)).trans (h.p2 (dn_of hi hj (by decide))), p3 := fun hj => (set_other (by decide)).trans (h.p3 (dn_of hi hj (by decide))), p4 := fun hj => (set_other (by decide)).trans (h.p4 (dn_of hi hj (by decide))), p5 := fun _ => ⟨v1, set_same (by have := h.siz; omega), hrr⟩, p6 := fun hj => (by obtain ⟨v, h1, h2⟩ := (h.p6 (dn_of hi hj (by decide))); exact ⟨v, ((set_other (by decide)).trans h1), rdg_keep hb h2⟩) }⟩
                  · have hi : 6 < d.size := by omega
                    obtain ⟨v5, e5, r5⟩ := h.p5 (hpre _ rfl ⟨5, .data⟩ (by simp) rfl)
                    refine wpOp_plain rfl rfl ?_
                    go_simp
                    exact ⟨_, rfl, { bel := h.bel, siz := (by simpa using h.siz), k1 := (set_other (by decide)).trans h.k1, k2 := (set_other (by decide)).trans h.k2, k5 := (set_other (by decide)).trans h.k5, k6 := (set_other (by decide)).trans h.k6, k7 := (set_other (by decide)).trans h.k7, k8 := (set_other (by decide)).trans h.k8, k9 := (set_other (by decide)).trans h.k9, k0 := (set_other (by decide)).trans h.k0, k3 := (set_other (by decide)).trans h.k3, k4 := (set_other (by decide)).trans h.k4, k12 := (set_other (by decide)).trans h.k12, k13 := (set_other (by decide)).trans h.k13, k14 := (set_other (by decide)).trans h.k14, k15 := (set_other (by decide)).trans h.k15, k16 := (set_other (by decide)).trans h.k16, k17 := (set_other (by decide)).trans h.k17, k18 := (set_other (by decide)).trans h.k18, k75 := (set_other (by decide)).trans h.k75, p0 := fun hj => (set_other (by decide)).trans (h.p0 (dn_of hi hj (by decide))), p1 := fun hj => (set_other (by decide)).trans (h.p1 (dn_of hi hj (by decide))), p2 := fun hj => (set_other (by decide)).trans (h.p2 (dn_of hi hj (by decide))), p3 := fun hj => (set_other (by decide)).trans (h.p3 (dn_of hi hj (by decide))), p4 := fun hj => (set_other (by decide)).trans (h.p4 (dn_of hi hj (by decide))), p5 := fun hj => (by obtain ⟨v, h1, h2⟩ := (h.p5 (dn_of hi hj (by decide))); exact ⟨v, ((set_other (by decide)).trans h1), rdg_keep (Below.refl _ _) h2⟩), p6 := fun _ => ⟨v5, set_same (by have := h.siz; omega), r5⟩ }⟩
                case ghend =>
                  intro d a wc hd hI hall
                  obtain ⟨t, rfl, h⟩ := hI
                  have hdn : ∀ j, j < 7 → dn d j := fun j hj => dn_all hd hall hj
                  have hl : t.toList.length = 76 := h.siz
                  obtain ⟨l⟩ := t
                  simp only [] at hl
                  obtain ⟨t0, l, rfl⟩ := List.exists_cons_of_length_eq_add_one (n := 75) hl; replace hl : l.length = 75 := (by simpa using hl)
                  obtain ⟨t1, l, rfl⟩ := List.exists_cons_of_length_eq_add_one (n := 74) hl; replace hl : l.length = 74 := (by simpa using hl)
                  obtain ⟨t2, l, rfl⟩ := List.exists_cons_of_length_eq_add_one (n := 73) hl; replace hl : l.length = 73 := (by simpa using hl)
                  obtain ⟨t3, l, rfl⟩ := List.exists_cons_of_length_eq_add_one (n := 72) hl; replace hl : l.length = 72 := (by simpa using hl)
                  obtain ⟨t4, l, rfl⟩ := List.exists_cons_of_length_eq_add_one (n := 71) hl; replace hl : l.length = 71 := (by simpa using hl)
                  obtain ⟨t5, l, rfl⟩ := List.exists_cons_of_length_eq_add_one (n := 70) hl; replace hl : l.length = 70 := (by simpa using hl)
                  obtain ⟨t6, l, rfl⟩ := List.exists_cons_of_length_eq_add_one (n := 69) hl; replace hl : l.length = 69 := (by simpa using hl)
                  obtain ⟨t7, l, rfl⟩ := List.exists_cons_of_length_eq_add_one (n := 68) hl; replace hl : l.length = 68 := (by simpa using hl)
                  obtain ⟨t8, l, rfl⟩ := List.exists_cons_of_length_eq_add_one (n := 67) hl; replace hl : l.length = 67 := (by simpa using hl)
                  obtain ⟨t9, l, rfl⟩ := List.exists_cons_of_length_eq_add_one (n := 66) hl; replace hl : l.length = 66 := (by simpa using hl)
                  obtain ⟨t10, l, rfl⟩ := List.exists_cons_of_length_eq_add_one (n := 65) hl; replace hl : l.length = 65 := (by simpa using hl)
                  obtain ⟨t11, l, rfl⟩ := List.exists_cons_of_length_eq_add_one (n := 64) hl; replace hl : l.length = 64 := (by simpa using hl)
                  obtain ⟨t12, l, rfl⟩ := List.exists_cons_of_length_eq_add_one (n := 63) hl; replace hl : l.length = 63 := (by simpa using hl)
                  obtain ⟨t13, l, rfl⟩ := List.exists_cons_of_length_eq_add_one (n := 62) hl; replace hl : l.length = 62 := (by simpa using hl)
                  obtain ⟨t14, l, rfl⟩ := List.exists_cons_of_length_eq_add_one (n := 61) hl; replace hl : l.length = 61 := (by simpa using hl)
                  obtain ⟨t15, l, rfl⟩ := List.exists_cons_of_length_eq_add_one (n := 60) hl; replace hl : l.length = 60 := (by simpa using hl)
                  obtain ⟨t16, l, rfl⟩ := List.exists_cons_of_length_eq_add_one (n := 59) hl; replace hl : l.length = 59 := (by simpa using hl)
                  obtain ⟨t17, l, rfl⟩ := List.exists_cons_of_length_eq_add_one (n := 58) hl; replace hl : l.length = 58 := (by simpa using hl)
                  obtain ⟨t18, l, rfl⟩ := List.exists_cons_of_length_eq_add_one (n := 57) hl; replace hl : l.length = 57 := (by simpa using hl)
                  obtain ⟨t19, l, rfl⟩ := List.exists_cons_of_length_eq_add_one (n := 56) hl; replace hl : l.length = 56 := (by simpa using hl)
                  obtain ⟨t20, l, rfl⟩ := List.exists_cons_of_length_eq_add_one (n := 55) hl; replace hl : l.length = 55 := (by simpa using hl)
                  obtain ⟨t21, l, rfl⟩ := List.exists_cons_of_length_eq_add_one (n := 54) hl; replace hl : l.length = 54 := (by simpa using hl)
                  obtain ⟨t22, l, rfl⟩ := List.exists_cons_of_length_eq_add_one (n := 53) hl; replace hl : l.length = 53 := (by simpa using hl)
                  obtain ⟨t23, l, rfl⟩ := List.exists_cons_of_length_eq_add_one (n := 52) hl; replace hl : l.length = 52 := (by simpa using hl)
                  obtain ⟨t24, l, rfl⟩ := List.exists_cons_of_length_eq_add_one (n := 51) hl; replace hl : l.length = 51 := (by simpa using hl)
                  obtain ⟨t25, l, rfl⟩ := List.exists_cons_of_length_eq_add_one (n := 50) hl; replace hl : l.length = 50 := (by simpa using hl)
                  obtain ⟨t26, l, rfl⟩ := List.exists_cons_of_length_eq_add_one (n := 49) hl; replace hl : l.length = 49 := (by simpa using hl)
                  obtain ⟨t27, l, rfl⟩ := List.exists_cons_of_length_eq_add_one (n := 48) hl; replace hl : l.length = 48 := (by simpa using hl)
                  obtain ⟨t28, l, rfl⟩ := List.exists_cons_of_length_eq_add_one (n := 47) hl; replace hl : l.length = 47 := (by simpa using hl)
                  obtain ⟨t29, l, rfl⟩ := List.exists_cons_of_length_eq_add_one (n := 46) hl; replace hl : l.length = 46 := (by simpa using hl)
                  obtain ⟨t30, l, rfl⟩ := List.exists_cons_of_length_eq_add_one (n := 45) hl; replace hl : l.length = 45 := (by simpa using hl)
                  obtain ⟨t31, l, rfl⟩ := List.exists_cons_of_length_eq_add_one (n := 44) hl; replace hl : l.length = 44 := (by simpa using hl)
                  obtain ⟨t32, l, rfl⟩ := List.exists_cons_of_length_eq_add_one (n := 43) hl; replace hl : l.length = 43 := (by simpa using hl)
                  obtain ⟨t33, l, rfl⟩ := List.exists_cons_of_length_eq_add_one (n := 42) hl; replace hl : l.length = 42 := (by simpa using hl)
                  obtain ⟨t34, l, rfl⟩ := List.exists_cons_of_length_eq_add_one (n := 41) hl; replace hl : l.length = 41 := (by simpa using hl)
                  obtain ⟨t35, l, rfl⟩ := List.exists_cons_of_length_eq_add_one (n := 40) hl; replace hl : l.length = 40 := (by simpa using hl)
                  obtain ⟨t36, l, rfl⟩ := List.exists_cons_of_length_eq_add_one (n := 39) hl; replace hl : l.length = 39 := (by simpa using hl)
                  obtain ⟨t37, l, rfl⟩ := List.exists_cons_of_length_eq_add_one (n := 38) hl; replace hl : l.length = 38 := (by simpa using hl)
                  obtain ⟨t38, l, rfl⟩ := List.exists_cons_of_length_eq_add_one (n := 37) hl; replace hl : l.length = 37 := (by simpa using hl)
                  obtain ⟨t39, l, rfl⟩ := List.exists_cons_of_length_eq_add_one (n := 36) hl; replace hl : l.length = 36 := (by simpa using hl)
                  obtain ⟨t40, l, rfl⟩ := List.exists_cons_of_length_eq_add_one (n := 35) hl; replace hl : l.length = 35 := (by simpa using hl)
                  obtain ⟨t41, l, rfl⟩ := List.exists_cons_of_length_eq_add_one (n := 34) hl; replace hl : l.length = 34 := (by simpa using hl)
                  obtain ⟨t42, l, rfl⟩ := List.exists_cons_of_length_eq_add_one (n := 33) hl; replace hl : l.length = 33 := (by simpa using hl)
                  obtain ⟨t43, l, rfl⟩ := List.exists_cons_of_length_eq_add_one (n := 32) hl; replace hl : l.length = 32 := (by simpa using hl)
                  obtain ⟨t44, l, rfl⟩ := List.exists_cons_of_length_eq_add_one (n := 31) hl; replace hl : l.length = 31 := (by simpa using hl)
                  obtain ⟨t45, l, rfl⟩ := List.exists_cons_of_length_eq_add_one (n := 30) hl; replace hl : l.length = 30 := (by simpa using hl)
                  obtain ⟨t46, l, rfl⟩ := List.exists_cons_of_length_eq_add_one (n := 29) hl; replace hl : l.length = 29 := (by simpa using hl)
                  obtain ⟨t47, l, rfl⟩ := List.exists_cons_of_length_eq_add_one (n := 28) hl; replace hl : l.length = 28 := (by simpa using hl)
                  obtain ⟨t48, l, rfl⟩ := List.exists_cons_of_length_eq_add_one (n := 27) hl; replace hl : l.length = 27 := (by simpa using hl)
                  obtain ⟨t49, l, rfl⟩ := List.exists_cons_of_length_eq_add_one (n := 26) hl; replace hl : l.length = 26 := (by simpa using hl)
                  obtain ⟨t50, l, rfl⟩ := List.exists_cons_of_length_eq_add_one (n := 25) hl; replace hl : l.length = 25 := (by simpa using hl)
                  obtain ⟨t51, l, rfl⟩ := List.exists_cons_of_length_eq_add_one (n := 24) hl; replace hl : l.length = 24 := (by simpa using hl)
                  obtain ⟨t52, l, rfl⟩ := List.exists_cons_of_length_eq_add_one (n := 23) hl; replace hl : l.length = 23 := (by simpa using hl)
                  obtain ⟨t53, l, rfl⟩ := List.exists_cons_of_length_eq_add_one (n := 22) hl; replace hl : l.length = 22 := (by simpa using hl)
                  obtain ⟨t54, l, rfl⟩ := List.exists_cons_of_length_eq_add_one (n := 21) hl; replace hl : l.length = 21 := (by simpa using hl)
                  obtain ⟨t55, l, rfl⟩ := List.exists_cons_of_length_eq_add_one (n := 20) hl; replace hl : l.length = 20 := (by simpa using hl)
                  obtain ⟨t56, l, rfl⟩ := List.exists_cons_of_length_eq_add_one (n := 19) hl; replace hl : l.length = 19 := (by simpa using hl)
                  obtain ⟨t57, l, rfl⟩ := List.exists_cons_of_length_eq_add_one (n := 18) hl; replace hl : l.length = 18 := (by simpa using hl)
                  obtain ⟨t58, l, rfl⟩ := List.exists_cons_of_length_eq_add_one (n := 17) hl; replace hl : l.length = 17 := (by simpa using hl)
                  obtain ⟨t59, l, rfl⟩ := List.exists_cons_of_length_eq_add_one (n := 16) hl; replace hl : l.length = 16 := (by simpa using hl)
                  obtain ⟨t60, l, rfl⟩ := List.exists_cons_of_length_eq_add_one (n := 15) hl; replace hl : l.length = 15 := (by simpa using hl)
                  obtain ⟨t61, l, rfl⟩ := List.exists_cons_of_length_eq_add_one (n := 14) hl; replace hl : l.length = 14 := (by simpa using hl)
                  obtain ⟨t62, l, rfl⟩ := List.exists_cons_of_length_eq_add_one (n := 13) hl; replace hl : l.length = 13 := (by simpa using hl)
                  obtain ⟨t63, l, rfl⟩ := List.exists_cons_of_length_eq_add_one (n := 12) hl; replace hl : l.length = 12 := (by simpa using hl)
                  obtain ⟨t64, l, rfl⟩ := List.exists_cons_of_length_eq_add_one (n := 11) hl; replace hl : l.length = 11 := (by simpa using hl)
                  obtain ⟨t65, l, rfl⟩ := List.exists_cons_of_length_eq_add_one (n := 10) hl; replace hl : l.length = 10 := (by simpa using hl)
                  obtain ⟨t66, l, rfl⟩ := List.exists_cons_of_length_eq_add_one (n := 9) hl; replace hl : l.length = 9 := (by simpa using hl)
                  obtain ⟨t67, l, rfl⟩ := List.exists_cons_of_length_eq_add_one (n := 8) hl; replace hl : l.length = 8 := (by simpa using hl)
                  obtain ⟨t68, l, rfl⟩ := List.exists_cons_of_length_eq_add_one (n := 7) hl; replace hl : l.length = 7 := (by simpa using hl)
                  obtain ⟨t69, l, rfl⟩ := List.exists_cons_of_length_eq_add_one (n := 6) hl; replace hl : l.length = 6 := (by simpa using hl)
                  obtain ⟨t70, l, rfl⟩ := List.exists_cons_of_length_eq_add_one (n := 5) hl; replace hl : l.length = 5 := (by simpa using hl)
                  obtain ⟨t71, l, rfl⟩ := List.exists_cons_of_length_eq_add_one (n := 4) hl; replace hl : l.length = 4 := (by simpa using hl)
                  obtain ⟨t72, l, rfl⟩ := List.exists_cons_of_length_eq_add_one (n := 3) hl; replace hl : l.length = 3 := (by simpa using hl)
                  obtain ⟨t73, l, rfl⟩ := List.exists_cons_of_length_eq_add_one (n := 2) hl; replace hl : l.length = 2 := (by simpa using hl)
                  obtain ⟨t74, l, rfl⟩ := List.exists_cons_of_length_eq_add_one (n := 1) hl; replace hl : l.length = 1 := (by simpa using hl)
                  obtain ⟨t75, l, rfl⟩ := List.exists_cons_of_length_eq_add_one (n := 0) hl; replace hl : l.length = 0 := (by simpa using hl)
                  obtain rfl := List.eq_nil_of_length_eq_zero hl
                  clear hl
                  obtain rfl : t1 = .string s := by have e := h.k1; simpa using e
                  obtain rfl : t2 = .pointer (some ⟨w.heap.size, 0, none⟩) := by have e := h.k2; simpa using e
                  obtain rfl : t5 = .slice Aq nq cq := by have e := h.k5; simpa using e
                  obtain rfl : t6 = .int .i64 (j : Int) := by have e := h.k6; simpa using e
                  obtain rfl : t7 = .int .i64 p := by have e := h.k7; simpa using e
                  obtain rfl : t8 = .pointer (some ⟨wk.heap.size, 0, none⟩) := by have e := h.k8; simpa using e
                  obtain rfl : t9 = .string st := by have e := h.k9; simpa using e
                  obtain rfl : t0 = (.agg #[.slice (some ⟨b, off, none⟩) x.entries.length c0, .slice A1 x.endings.length c1, .slice A2 x.clitics.length c2]) := by have e := h.k0; simpa using e
                  obtain rfl : t3 = undef := by have e := h.k3; simpa using e
                  obtain rfl : t4 = .slice none 0 0 := by have e := h.k4; simpa using e
                  obtain rfl : t12 = .int .i64 (j : Int) := by have e := h.k12; simpa using e
                  obtain rfl : t13 = .pointer (some ⟨w.heap.size, 0, none⟩) := by have e := h.k13; simpa using e
                  obtain rfl : t14 = .slice (some ⟨b, off, none⟩) x.entries.length c0 := by have e := h.k14; simpa using e
                  obtain rfl : t15 = .int .i64 (x.entries.length : Int) := by have e := h.k15; simpa using e
                  obtain rfl : t16 = .bool true := by have e := h.k16; simpa using e
                  obtain rfl : t17 = u17 := by have e := h.k17; simpa using e
                  obtain rfl : t18 = u18 := by have e := h.k18; simpa using e
                  obtain rfl : t75 = undef := by have e := h.k75; simpa using e
                  obtain ⟨vl, e6, rl⟩ := h.p6 (hdn 6 (by omega))
                  obtain rfl : t10 = vl := by simpa using e6
                  have hbc := h.bel
                  clear h hdn hall
                  obtain ⟨b0, hb0⟩ : ∃ b0, b0 = Lx.rwithN x s.data.toList j ++ Lx.rwithTo x s.data.toList j e (p + 1).toNat := ⟨_, rfl⟩
                  have hbl0 : b0.length ≤ 20000000 := by
                    rw [hb0, List.length_append]
                    have h1 := Lx.rwithN_len x s.data.toList ht2 ht1 j
                    have h2 := Lx.rwithTo_len x s.data.toList ht2 j e (p + 1).toNat
                    have h3 : j * 54571 ≤ 200 * 54571 := Nat.mul_le_mul_right _ (by omega)
                    have h4 : (p + 1).toNat * 1331 ≤ 41 * 1331 := Nat.mul_le_mul_right _ (by omega)
                    omega
                  have HB0 := Lib.hid hb0
                  have hgx0 : OwnGx KForm 29 wc (w.heap.size + 1) wk.heap.size (.slice Aq nq cq) b0 := by rw [hb0]; exact HGX.out wc (HB3.out.trans (hbc.mono HB3.out.size))
                  obtain ⟨Al, cl, rfl⟩ := rl.form
                  have HRL : Hid (∀ W : World, (∀ b, w3.heap.size ≤ b → b < wc.heap.size → W.heap[b]? = wc.heap[b]?) → RdG KInts W (fun b => b < wc.heap.size ∧ w3.heap.size ≤ b) (.slice Al ls.length cl) ls) :=
                    Lib.hid fun W hW => rl.keep (fun b hk => ⟨hk, hW b hk.2 hk.1⟩)
                  have HBC := Lib.hid hbc
                  have hsc := hbc.size
                  have HXC := Lib.hid ((hbc.block _ (by omega)).trans HX3.out)
                  have HFC := Lib.hid ((hbc.block _ (by omega)).trans HF3.out)
                  have HBEC := Lib.hid (HBE3.out.trans (hbc.mono HBE3.out.size))
                  obtain ⟨i1, hi1, hz1, hs1, hb1⟩ := info_parts info_int
                  obtain ⟨i3, hi3, hz3, hs3', hb3'⟩ := info_parts info_Form
                  clear hbc rl hb0
                  go_wp2_with fail
                  go_loopg [5, 11] ls.length (fun g v i wz => ∃ q : Nat, q ≤ ls.length ∧ g = ls.length - q ∧ i = .int .i64 q ∧ (∃ A n c, v = .slice A n c) ∧
                    OwnGx KForm 29 wz (w.heap.size + 1) wk.heap.size v (b0 ++ (ls.take q).map fun c => ⟨(j : Int), p, c⟩) ∧ Below w.heap.size w wz ∧ wc.heap.size ≤ wz.heap.size ∧
                    wz.heap[w.heap.size]? = some (.cells #[.slice (some ⟨b, off, none⟩) x.entries.length c0, .slice A1 x.endings.length c1, .slice A2 x.clitics.length c2] 26 (0, 0)) ∧
                    (∃ u, wz.heap[wk.heap.size]? = some (.cells #[.int .i64 (j : Int), .int .i64 p, u] 29 (0, 0))) ∧ (∀ b, w3.heap.size ≤ b → b < wc.heap.size → wz.heap[b]? = wc.heap[b]?) ∧
                    (∀ k, v.ownBlock = some k → k < wk.heap.size ∨ wc.heap.size ≤ k))
                  case atStart => exact ⟨0, Nat.zero_le _, rfl, rfl, ⟨_, _, _, rfl⟩, by simpa using hgx0, HBEC.out, Nat.le_refl _, HXC.out, ⟨_, HFC.out⟩, fun _ _ _ => rfl, fun k hk => .inl (HVLT.out k hk)⟩
                  case round =>
                    rename World => wz
                    obtain ⟨q, hq, rfl, rfl, ⟨Av, nv, cv, rfl⟩, hog, hbel, hsz9, hx9, ⟨u9, hf9⟩, hsame, hvlt⟩ := hrel
                    have HBEL := Lib.hid hbel
                    have HX9 := Lib.hid hx9
                    have HSAME := Lib.hid hsame
                    have HVL := Lib.hid hvlt
                    clear x0 x1 x2 hgx0
                    by_cases hlt : q < ls.length
                    · obtain ⟨c, hc⟩ : ∃ c, ls[q]? = some c := ⟨_, List.getElem?_eq_getElem hlt⟩
                      obtain ⟨bl, ol, rfl, hbl, hcell⟩ := (HRL.out wz hsame).at (by omega)
                      obtain ⟨cs, ⟨vc, rfl, hrx⟩, hcell'⟩ := hcell q c hc
                      have y0 : wz.cell? ⟨bl, ol + q, none⟩ = some vc := by have := hcell' 0 vc rfl; simpa [KInts] using this
                      have hc3 : c.length ≤ 3 := tailsV_few x 3 [] 0 _ c (by rw [← HLS.out]; exact List.mem_of_getElem? hc)
                      have hqI : (q : Int) < (ls.length : Int) := by omega
                      have hrs : RdS wz wc.heap.size 1 encInt vc c := hrx.to (fun b hb => hb.1)
                      have HRS := Lib.hid hrs
                      have hf0 : wz.cell? ⟨wk.heap.size, 0, none⟩ = some (.int .i64 (j : Int)) := by simp [World.cell?, hf9]
                      have HF9 := Lib.hid hf9
                      have HC := Lib.hid hc
                      obtain ⟨Ac, cc, rfl, -⟩ := hrx
                      obtain ⟨cells, hownF, hrowsF⟩ := hog
                      obtain ⟨out, hout⟩ : ∃ out, out = b0 ++ (ls.take q).map fun c => (⟨(j : Int), p, c⟩ : Lx.Form) := ⟨_, rfl⟩
                      have hol : out.length ≤ 20001331 := by rw [hout, List.length_append, List.length_map, List.length_take]; omega
                      rw [← hout] at hownF hrowsF
                      obtain rfl : nv = out.length := by
                        obtain ⟨_, _, e⟩ := own_form hownF
                        injection e
                      have HOUT := Lib.hid hout
                      have HOWNF := Lib.hid hownF
                      have HROWSF := Lib.hid hrowsF
                      clear hownF hrowsF hout hc hrs hcell hcell' hbel hx9 hsame hvlt hf9 hf0
                      go_wp2_with (at_builtin; go_must (refine wpList_append_rd (enc := encInt) rfl (.const (.slice none 0 0)) (.tmp 68) _ rfl wz.heap.size 3 i1 _ 1 8 len_int one_int Tryd.underlying27 hi1 hz1 hs1 hb1 rfl (by decide) (.slice none 0 0) 0 [] rfl (World.ownsRow_nil wz wz.heap.size _ _) wc.heap.size _ c rfl HRS.out ?h63 ?hb (Nat.le_refl _) ?_))
                      case h63 => simp only [maxLen]; omega
                      case hb => omega
                      intro v6 w6 hown6 hg6 hat6
                      obtain ⟨A6, c6, rfl⟩ := own_form hown6
                      have hb6 : Below wz.heap.size wz w6 := below_own_grown (Below.refl _ _) hg6 (World.ownsRow_nil wz wz.heap.size 3 1) (Nat.le_refl _) (Nat.le_refl _)
                      have hs6 := hb6.size
                      have hf6 : w6.heap[wk.heap.size]? = some (.cells #[.int .i64 (j : Int), .int .i64 p, u9] 29 (0, 0)) := (hb6.block _ (by omega)).trans HF9.out
                      have l0 : w6.cell? ⟨wk.heap.size, 0, none⟩ = some (.int .i64 (j : Int)) := by simp [World.cell?, hf6]
                      have l1 : w6.cell? ⟨wk.heap.size, 1, none⟩ = some (.int .i64 p) := by simp [World.cell?, hf6]
                      have l2 : w6.cell? ⟨wk.heap.size, 2, none⟩ = some u9 := by simp [World.cell?, hf6]
                      have lz : w6.frozen? ⟨wk.heap.size, 2, none⟩ = false := by simp [World.frozen?, hf6]
                      have HOWN6 := Lib.hid hown6
                      have HB6 := Lib.hid hb6
                      have HF6 := Lib.hid hf6
                      clear hown6 hg6 hat6 hb6 hf6
                      obtain ⟨W7, hW7⟩ : ∃ W7, W7 = (w6.setCell ⟨wk.heap.size, 2, none⟩ (.slice A6 c.length c6)).alloc (.cells #[.int .i64 (j : Int), .int .i64 p, .slice A6 c.length c6] 29) := ⟨_, rfl⟩
                      have hs7 : W7.heap.size = w6.heap.size + 1 := by rw [hW7]; simp [World.setCell]
                      have hgF : w6.grownBy W7 (some wk.heap.size) := by
                        rw [hW7]
                        exact grown_after (grown_setCell _ _ _ _) (grown_of_below ((Below.refl _ _).alloc (Nat.le_refl _) _)) (.inl rfl)
                      have hvb : ∀ k, (Value.slice Av out.length cv).ownBlock = some k → w.heap.size + 1 ≤ k ∧ k < wz.heap.size := fun k hk => HOWNF.out.lt k hk
                      have hown7 : W7.ownsRow (w.heap.size + 1) 29 3 (.slice Av out.length cv) out.length cells := by
                        refine (keep_own HOWNF.out HB6.out).kept hgF ?_
                        rcases HOWNF.out.2 with ⟨e, _⟩ | ⟨g, cap, cur, e, _⟩
                        · rw [e]; exact .inl rfl
                        · rw [e]; refine .inr (fun q => ?_)
                          have := HVL.out g (by rw [e]; rfl)
                          simp [Value.ownBlock] at q
                          omega
                      have HB7 : Hid (Below w.heap.size w W7) := Lib.hid (by
                        rw [hW7]
                        exact ((HBEL.out.trans (HB6.out.mono (by omega))).setCell (by show w.heap.size ≤ wk.heap.size; omega) _).alloc (by simp [World.setCell]; omega) _)
                      have HK7 : Hid (∀ b, b < wz.heap.size → b ≠ wk.heap.size → W7.heap[b]? = wz.heap[b]?) := Lib.hid (fun b hb hne => (hgF.block b (by omega) (fun e => by cases e; exact hne rfl)).trans (HB6.out.block b hb))
                      have HF7 : Hid (W7.heap[wk.heap.size]? = some (.cells #[.int .i64 (j : Int), .int .i64 p, .slice A6 c.length c6] 29 (0, 0))) := Lib.hid (by
                        rw [hW7, Below.heap_alloc _ _ _ (by simp [World.setCell]; omega)]
                        simp [World.setCell, Array.getElem?_modify, HF6.out])
                      have hr7 : RdS W7 (w6.heap.size + 1) 3 enc3 (.slice (some ⟨w6.heap.size, 0, none⟩) 1 1) [((j : Int), p, (A6, c.length, c6))] := by
                        have hn := heap_alloc_new (w6.setCell ⟨wk.heap.size, 2, none⟩ (.slice A6 c.length c6)) (.cells #[.int .i64 (j : Int), .int .i64 p, .slice A6 c.length c6] 29)
                        rw [show (w6.setCell ⟨wk.heap.size, 2, none⟩ (.slice A6 c.length c6)).heap.size = w6.heap.size by simp [World.setCell]] at hn
                        rw [hW7]
                        exact rds_block (xs := [((j : Int), p, (A6, c.length, c6))]) len_3 hn rfl (by omega) (Nat.le_refl 1) (by decide)
                      have hrx7 : RdX W7 (fun b => b < W7.heap.size ∧ (Value.slice Av out.length cv).ownBlock ≠ some b ∧ w.heap.size + 1 ≤ b ∧ b ≠ wk.heap.size) 1 encInt (.slice A6 c.length c6) c :=
                        (rdx_of_own len_int HOWN6.out).keep (fun b hb => ⟨⟨by omega, (fun e => by have := (hvb _ e).2; omega), by omega, by omega⟩, hgF.block b hb.2 (fun e => by cases e; omega)⟩)
                      have HRX7 := Lib.hid hrx7
                      have HR7 := Lib.hid hr7
                      have HOWN7 := Lib.hid hown7
                      have HW7 := Lib.hid hW7
                      clear hr7 hrx7 hown7 hgF hW7
                      go_wp2_with (at_builtin; go_must (rw [← HW7.out]; refine wpList_append_rd (enc := enc3) rfl (.tmp 71) (.tmp 73) _ rfl (w.heap.size + 1) 29 i3 _ 3 40 len_3 one_3 Tryd.underlying48 hi3 hz3 hs3' hb3' rfl (by decide) (.slice Av out.length cv) out.length cells rfl HOWN7.out (w6.heap.size + 1) (.slice (some ⟨w6.heap.size, 0, none⟩) 1 1) [((j : Int), p, (A6, c.length, c6))] ?hsv HR7.out ?h63 ?hb ?hB ?_))
                      case hsv => rfl
                      case h63 => simp only [maxLen]; show out.length + 1 ≤ _; omega
                      case hb => show (out.length + 1) * 40 ≤ _; omega
                      case hB => omega
                      intro v8 w8 hown8 hg8 hat8
                      obtain ⟨A8, c8, rfl⟩ := own_form hown8
                      have hs8 : W7.heap.size ≤ w8.heap.size := hg8.size
                      have HOG8 : Hid (OwnGx KForm 29 w8 (w.heap.size + 1) wk.heap.size (.slice A8 (out.length + 1) c8) (b0 ++ (ls.take (q + 1)).map fun c => ⟨(j : Int), p, c⟩)) := Lib.hid (by
                        have he : b0 ++ (ls.take (q + 1)).map (fun c => (⟨(j : Int), p, c⟩ : Lx.Form)) = out ++ [⟨(j : Int), p, c⟩] := by
                          obtain ⟨hq', hq2⟩ := List.getElem?_eq_some_iff.1 HC.out
                          rw [HOUT.out, List.take_succ_eq_append_getElem hq', List.map_append, ← List.append_assoc, hq2]
                          rfl
                        rw [he]
                        refine OwnGx.snoc (K := KForm) (w := W7) (v := .slice Av out.length cv) (cells := cells) (cs := [.int .i64 (j : Int), .int .i64 p, .slice A6 c.length c6]) ?_ ⟨_, rfl, HRX7.out⟩ ?_ hg8 (hat8.imp id fun e => ⟨_, e, by omega⟩)
                        · exact HROWSF.out.keep (fun b hb => ⟨⟨by omega, hb.2⟩, HK7.out b hb.1 hb.2.2.2⟩)
                        · have h8 : w8.ownsRow (w.heap.size + 1) 29 3 (.slice A8 (out.length + 1) c8) (out.length + 1) (cells ++ [.int .i64 (j : Int), .int .i64 p, .slice A6 c.length c6]) := by simpa [enc3] using hown8
                          exact h8)
                      have HB8 : Hid (Below w.heap.size w w8) := Lib.hid (HB7.out.grown hg8 (by omega) (fun k hk => by have := (hvb k hk).1; omega))
                      have HK8 : Hid (∀ b, b < wz.heap.size → b ≠ wk.heap.size → (Value.slice Av out.length cv).ownBlock ≠ some b → w8.heap[b]? = wz.heap[b]?) := Lib.hid (fun b hb hne hno => (hg8.block b (by omega) (fun e => hno e.symm)).trans (HK7.out b hb hne))
                      have HF8 : Hid (w8.heap[wk.heap.size]? = some (.cells #[.int .i64 (j : Int), .int .i64 p, .slice A6 c.length c6] 29 (0, 0))) := Lib.hid ((hg8.block _ (by omega) (fun e => by have := HVL.out _ e.symm; omega)).trans HF7.out)
                      have hv8 : ∀ k, (Value.slice A8 (out.length + 1) c8).ownBlock = some k → k < wk.heap.size ∨ wc.heap.size ≤ k := fun k hk => by
                        rcases hat8 with e | e
                        · rw [e] at hk; exact HVL.out k hk
                        · rw [e] at hk; cases hk; right; omega
                      have HX8 : Hid (w8.heap[w.heap.size]? = some (.cells #[.slice (some ⟨b, off, none⟩) x.entries.length c0, .slice A1 x.endings.length c1, .slice A2 x.clitics.length c2] 26 (0, 0))) :=
                        Lib.hid ((HK8.out _ (by omega) (by omega) (fun e => by have := (hvb _ e).1; omega)).trans HX9.out)
                      have HS8 : Hid (∀ b, w3.heap.size ≤ b → b < wc.heap.size → w8.heap[b]? = wc.heap[b]?) := Lib.hid (fun b h1 h2 => (HK8.out b (by omega) (by omega) (fun e => by have := HVL.out _ e; omega)).trans (HSAME.out b h1 h2))
                      clear hown8 hg8 hat8 l0 l1 l2 lz y0 hbl
                      go_wp2_with fail
                      go_roundg (ls.length - (q + 1))
                      case measure => omega
                      case rel => exact ⟨q + 1, by omega, rfl, by go_num, ⟨_, _, _, rfl⟩, HOG8.out, HB8.out, by omega, HX8.out, ⟨_, HF8.out⟩, HS8.out, hv8⟩
                    · have HFIN : Hid (OwnG KForm 29 wz (w.heap.size + 1) (.slice Av nv cv) (Lx.rwithN x s.data.toList j ++ Lx.rwithTo x s.data.toList j e (p + 1 + 1).toNat)) := Lib.hid (by
                        rw [HN.out, ← List.append_assoc, ← HB0.out]
                        have := hog.own
                        rwa [List.take_of_length_le (by omega)] at this)
                      clear hog hbel hx9 hsame hvlt hf9
                      go_wp2_with fail
                      go_roundg ((x.endings.length - (p + 1)).toNat)
                      case measure => omega
                      case rel => exact ⟨p + 1, by omega, by omega, rfl, rfl, ⟨_, _, _, rfl⟩, HFIN.out, HBEL.out, by omega, HX9.out⟩
            · have HN : Hid (Lx.rwithTo x s.data.toList j e (p + 1 + 1).toNat = Lx.rwithTo x s.data.toList j e (p + 1).toNat) := Lib.hid (by
                rw [Lx.rwithTo_next hp0, Lx.rwithQ_skip hp0 hsk, List.append_nil])
              clear hsk
              go_wp2_with fail
              go_roundg ((x.endings.length - (p + 1)).toNat)
              case measure => omega
              case rel => exact ⟨p + 1, by omega, by omega, rfl, rfl, ⟨_, _, _, rfl⟩, by rw [HN.out]; exact HOMK.out, HBK.out, by omega, HXK.out⟩
        · have HT : Hid (OwnG KForm 29 wi (w.heap.size + 1) (.slice Aq nq cq) (Lx.rwithN x s.data.toList (j + 1))) := Lib.hid (by rw [HTN.out, show x.endings.length + 1 = (p + 1).toNat by omega]; exact HOMI.out)
          go_wp2_with fail
          go_roundg (x.entries.length - (j + 1))
          case measure => omega
          case rel => exact ⟨j + 1, by omega, rfl, by go_num, ⟨_, _, _, rfl⟩, HT.out, HBELI.out, by omega, HXI.out⟩
    · have hjn : j = x.entries.length := by omega
      have HF : Hid (OwnG KForm 29 wr (w.heap.size + 1) (.slice Av nv cv) (Lx.rwithV x s.data.toList)) := Lib.hid (by
        have : Lx.rwithV x s.data.toList = Lx.rwithN x s.data.toList j := by rw [hjn]; rfl
        rw [this]; exact HOM.out)
      clear hjn
      go_wp2_with fail
      go_ret
      exact ⟨_, rfl, HF.out.mono (by omega), HBEL.out⟩
end Go.Proofs.YtpmfjndbckblfaaDoor
