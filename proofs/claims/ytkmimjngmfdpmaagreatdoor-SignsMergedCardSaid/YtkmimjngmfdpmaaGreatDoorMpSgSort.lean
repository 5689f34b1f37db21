/- ostraconref01.less, put. Made by gen_sgput.py. DERIVED: THE SHELF's CONTRACTS AT THIS DUMP, IN PLAIN WORDS (tools/lay-plain.mjs out of 'TryzShelf.lean', which tools/lay-shelf.mjs wrote): THE SAME DECLARATIONS UNDER THE SAME NAMES: 'import', 'namespace', 'open', 'def', 'theorem' AND NOTHING ELSE: no command of the shelf's: FOR A HAND-IN. Each laying: the table of numbers ('.._ren') and one .. -/
import Derived.Test.YtkmimjngmfdpmaaGreatDoorMpSgCmp
import Derived.Test.YtkmimjngmfdpmaaGreatDoorMpEqual
import Derived.Test.YtkmimjngmfdpmaaGreatDoorMpTrimPlain
import Derived.Test.YtkmimjngmfdpmaaGreatDoorMpSgSame
import Derived.Shelf.SlSortCmp.NoneTotal
import Derived.Shelf.SlSortCmp.WholeK
import Derived.Shelf.SlicesE.Clone
import Derived.Test.YtkmimjngmfdpmaaGreatDoorProg
import Derived.Lib.OwnBridge
namespace Go.Proofs.YtkmimjngmfdpmaaGreatDoor
open Go Go.RowKit

theorem rds_void {w : World} {B c : Nat} {A : Option Addr} (h : c ≤ 9223372036854775807) : RdS w B 4 encValue (.slice A 0 c) ([] : List Sg.Value) := ⟨A, c, rfl, Nat.zero_le _, h, fun h => absurd h (by simp)⟩
end Go.Proofs.YtkmimjngmfdpmaaGreatDoor
namespace Go.Proofs
open Go.Shelf
def Tryz.sortV_ren : Go.Shelf.Ren := ⟨fun | 6 => 121 | 15 => 147 | 14 => 146 | 28 => 174 | 29 => 175 | 20 => 166 | 21 => 167 | 22 => 168 | 23 => 169 | 24 => 170 | 25 => 171 | 26 => 172 | 27 => 173 | 46 => 186 | 47 => 187 | 48 => 188 | 49 => 189 | 50 => 190 | 57 => 194 | n => n, fun | 22 => 47 | 24 => 60 | 25 => 137 | 3 => 3 | 39 => 147 | 0 => 0 | 53 => 184 | 55 => 164 | 4 => 4 | 46 => 178 | 45 => 177 | 50 => 79 | 5 => 5 | 9 => 9 | 66 => 196 | 70 => 200 | 76 => 204 | 77 => 205 | n => n, fun | n => n⟩
theorem Tryz.sortV : Go.Proofs.SlLaysF0.n6 Tryz.prog Tryz.sortV_ren := {
  mixed := by kernel_rfl
  f6 := ⟨Tryz.f121.name, by decide, Tryz.func121.trans (congrArg some (by kernel_rfl))⟩
  f14 := ⟨Tryz.f146.name, by decide, Tryz.func146.trans (congrArg some (by kernel_rfl))⟩
  f15 := Tryz.func147.trans (congrArg some (by kernel_rfl))
  f20 := ⟨Tryz.f166.name, by decide, Tryz.func166.trans (congrArg some (by kernel_rfl))⟩
  f21 := ⟨Tryz.f167.name, by decide, Tryz.func167.trans (congrArg some (by kernel_rfl))⟩
  f22 := ⟨Tryz.f168.name, by decide, Tryz.func168.trans (congrArg some (by kernel_rfl))⟩
  f23 := ⟨Tryz.f169.name, by decide, Tryz.func169.trans (congrArg some (by kernel_rfl))⟩
  f24 := ⟨Tryz.f170.name, by decide, Tryz.func170.trans (congrArg some (by kernel_rfl))⟩
  f25 := ⟨Tryz.f171.name, by decide, Tryz.func171.trans (congrArg some (by kernel_rfl))⟩
  f26 := ⟨Tryz.f172.name, by decide, Tryz.func172.trans (congrArg some (by kernel_rfl))⟩
  f27 := ⟨Tryz.f173.name, by decide, Tryz.func173.trans (congrArg some (by kernel_rfl))⟩
  f28 := Tryz.func174.trans (congrArg some (by kernel_rfl))
  f29 := Tryz.func175.trans (congrArg some (by kernel_rfl))
  f46 := ⟨Tryz.f186.name, by decide, Tryz.func186.trans (congrArg some (by kernel_rfl))⟩
  f47 := Tryz.func187.trans (congrArg some (by kernel_rfl))
  f48 := Tryz.func188.trans (congrArg some (by kernel_rfl))
  f49 := ⟨Tryz.f189.name, by decide, Tryz.func189.trans (congrArg some (by kernel_rfl))⟩
  f50 := ⟨Tryz.f190.name, by decide, Tryz.func190.trans (congrArg some (by kernel_rfl))⟩
  f57 := ⟨Tryz.f194.name, by decide, Tryz.func194.trans (congrArg some (by kernel_rfl))⟩
  t0 := Tryz.underlying0
  a0 := Tryz.isAgg0
  z0 := Tryz.sizeOf0
  v0 := Tryz.zeroValue0
  t3 := Tryz.underlying3
  a3 := Tryz.isAgg3
  z3 := Tryz.sizeOf3
  v3 := Tryz.zeroValue3
  t4 := Tryz.underlying4
  a4 := Tryz.isAgg4
  z4 := Tryz.sizeOf4
  v4 := Tryz.zeroValue4
  t5 := Tryz.underlying5
  a5 := Tryz.isAgg5
  z5 := Tryz.sizeOf5
  v5 := Tryz.zeroValue5
  t9 := Tryz.underlying9
  a9 := Tryz.isAgg9
  z9 := Tryz.sizeOf9
  v9 := Tryz.zeroValue9
  t22 := Tryz.underlying47
  a22 := Tryz.isAgg47
  z22 := Tryz.sizeOf47
  v22 := Tryz.zeroValue47
  t25 := Tryz.underlying137
  a25 := Tryz.isAgg137
  z25 := Tryz.sizeOf137
  v25 := Tryz.zeroValue137
  t39 := Tryz.underlying147
  a39 := Tryz.isAgg147
  z39 := Tryz.sizeOf147
  v39 := Tryz.zeroValue147
  t45 := Tryz.underlying177
  a45 := Tryz.isAgg177
  z45 := Tryz.sizeOf177
  v45 := Tryz.zeroValue177
  t46 := Tryz.underlying178
  a46 := Tryz.isAgg178
  z46 := Tryz.sizeOf178
  v46 := Tryz.zeroValue178
  t50 := Tryz.underlying79
  a50 := Tryz.isAgg79
  z50 := Tryz.sizeOf79
  v50 := Tryz.zeroValue79
  t53 := Tryz.underlying184
  a53 := Tryz.isAgg184
  z53 := Tryz.sizeOf184
  v53 := Tryz.zeroValue184
  t55 := Tryz.underlying164
  a55 := Tryz.isAgg164
  z55 := Tryz.sizeOf164
  v55 := Tryz.zeroValue164
  t66 := Tryz.underlying196
  a66 := Tryz.isAgg196
  z66 := Tryz.sizeOf196
  v66 := Tryz.zeroValue196
  t70 := Tryz.underlying200
  a70 := Tryz.isAgg200
  z70 := Tryz.sizeOf200
  v70 := Tryz.zeroValue200
  t76 := Tryz.underlying204
  a76 := Tryz.isAgg204
  z76 := Tryz.sizeOf204
  v76 := Tryz.zeroValue204
  t77 := Tryz.underlying205
  a77 := Tryz.isAgg205
  z77 := Tryz.sizeOf205
  v77 := Tryz.zeroValue205 }
def Tryz.cloneV_ren : Go.Shelf.Ren := ⟨fun | 41 => 86 | n => n, fun | 22 => 47 | 23 => 60 | 4 => 4 | n => n, fun | n => n⟩
theorem Tryz.cloneV : Go.Proofs.SlLaysE0.n41 Tryz.prog Tryz.cloneV_ren := {
  mixed := by kernel_rfl
  f41 := ⟨Tryz.f86.name, by decide, Tryz.func86.trans (congrArg some (by kernel_rfl))⟩
  t4 := Tryz.underlying4
  a4 := Tryz.isAgg4
  z4 := Tryz.sizeOf4
  v4 := Tryz.zeroValue4
  t22 := Tryz.underlying47
  a22 := Tryz.isAgg47
  z22 := Tryz.sizeOf47
  v22 := Tryz.zeroValue47 }
end Go.Proofs
namespace Go.Proofs.YtkmimjngmfdpmaaGreatDoor
open Go Go.RowKit Go.Sort

instance : Inhabited Sg.Value := ⟨⟨0, ⟨#[]⟩, 0, 0⟩⟩
theorem flatK_list {α : Type} [Inhabited α] {enc : α → List Value} {k : Nat} (hk : 0 < k) (hu : ∀ x, (enc x).length = k) (L : List α) : (flatK enc k L.toArray).toList = L.flatMap enc := by
  refine List.ext_getElem? fun t => ?_
  by_cases ht : t < L.length * k
  · have h1 : (flatK enc k L.toArray).toList[t]? = some ((flatK enc k L.toArray)[t]!) := by
      rw [Array.getElem?_toList, Array.getElem?_eq_getElem (by simpa using ht), getElem!_pos _ _ (by simpa using ht)]
    have hi : t / k < L.length := (Nat.div_lt_iff_lt_mul hk).2 ht
    have hj : t % k < (enc L[t / k]).length := by rw [hu]; exact Nat.mod_lt _ hk
    have h2 := flat_at hu L (t / k) L[t / k] (List.getElem?_eq_getElem hi) (t % k) _ (List.getElem?_eq_getElem hj)
    rw [show t / k * k + t % k = t by have := Nat.div_add_mod t k; rw [Nat.mul_comm] at this; exact this] at h2
    rw [h1, h2, get_flatK enc k L.toArray t (by simpa using ht)]
    simp [getElem!_pos, hi, hj]
  · rw [List.getElem?_eq_none (by simp; omega), List.getElem?_eq_none (by rw [flat_len hu]; omega)]
theorem holdsK_of_own {w : World} {base g n cap : Nat} {L : List Sg.Value} (h : w.ownsRow base 60 4 (.slice (some ⟨g, 0, none⟩) n cap) n (L.flatMap encValue)) : HoldsK encValue 4 w g 0 L.toArray ∧ g < w.heap.size ∧ base ≤ g := by
  have hlt := h.lt g rfl
  refine ⟨fun j hj => ?_, hlt.2, hlt.1⟩
  have hj' : j < (flatK encValue 4 L.toArray).size := hj
  have h1 : (flatK encValue 4 L.toArray).toList[j]? = some ((flatK encValue 4 L.toArray)[j]!) := by
    rw [Array.getElem?_toList, Array.getElem?_eq_getElem hj', getElem!_pos (flatK encValue 4 L.toArray) j hj']
  rw [flatK_list (by decide) len_value] at h1
  have h2 := h.cells rfl j _ h1
  rw [addr_add] at h2
  refine ⟨h2, ?_⟩
  rcases h.2 with ⟨e, -⟩ | ⟨g', cap', cur, e, hg, hh, -⟩
  · cases e
  · cases e
    simp [World.frozen?, hh]
theorem own_putK {w : World} {base g n cap q : Nat} {L S : List Sg.Value} (os : Array Obj) (h : w.ownsRow base 60 4 (.slice (some ⟨g, 0, none⟩) n cap) n (L.flatMap encValue)) (hS : S.length = n) :
    (grow (putRowK encValue 4 (Sort.ahead w q) g 0 S.toArray) os).ownsRow base 60 4 (.slice (some ⟨g, 0, none⟩) n cap) n (S.flatMap encValue) := by
  have hlt := h.lt g rfl
  rcases h.2 with ⟨e, -⟩ | ⟨g', cap', cur, e, hg, hh, hle, hm, hs, ht⟩
  · cases e
  · cases e
    refine ⟨by rw [flat_len len_value, hS], .inr ⟨g, cap, putCells id 0 (flatK encValue 4 S.toArray) cur, rfl, hg, ?_, hle, hm, by simpa [putCells] using hs, ?_⟩⟩
    · have : (putRowK encValue 4 (Sort.ahead w q) g 0 S.toArray).heap[g]? = some (.cells (putCells id 0 (flatK encValue 4 S.toArray) cur) 60 (0, 0)) := by
        simp [putRowK, putRow, mapBlock, Sort.ahead, Array.getElem?_modify, hh, onCells]
      show ((putRowK encValue 4 (Sort.ahead w q) g 0 S.toArray).heap ++ os)[g]? = _
      rw [Array.getElem?_append_left (by rw [size_putRowK]; exact hlt.2), this]
    · rw [← flatK_list (by decide) len_value S]
      refine List.ext_getElem? fun j => ?_
      rw [List.getElem?_take, Array.getElem?_toList, Array.getElem?_toList]
      have hsz : (flatK encValue 4 S.toArray).size = n * 4 := by simp [hS]
      split
      · rename_i hj
        have hjc : j < cur.size := by have : n * 4 ≤ cap * 4 := Nat.mul_le_mul_right 4 hle; omega
        simp only [putCells, Array.getElem?_mapIdx, Array.getElem?_eq_getElem hjc, Option.map_some]
        rw [if_pos ⟨Nat.zero_le _, by rw [hsz]; omega⟩, Array.getElem?_eq_getElem (by omega)]
        rw [Nat.sub_zero]
        exact congrArg some (getElem!_pos _ _ (by omega))
      · rename_i hj
        rw [Array.getElem?_eq_none (by omega)]
theorem below_putK {B : Nat} {w : World} {g q : Nat} {d : Array Sg.Value} (os : Array Obj) (hg : B ≤ g) (hB : B ≤ w.heap.size) : Below B w (grow (putRowK encValue 4 (Sort.ahead w q) g 0 d) os) := by
  have h : Below B w (putRowK encValue 4 (Sort.ahead w q) g 0 d) := Lib.below_putRow (Below.refl B w) hg
  refine ⟨h.os, h.tape, h.output, Nat.le_trans h.size (by simp [grow]), fun k hk => ?_⟩
  have hsz := h.size
  show ((putRowK encValue 4 (Sort.ahead w q) g 0 d).heap ++ os)[k]? = _
  rw [Array.getElem?_append_left (by omega)]
  exact h.block k hk

theorem Sg.cmpInt_lt (a b : Int) : Lib.compareInt a b = 0 ↔ a = b := by unfold Lib.compareInt; split <;> (try split) <;> simp <;> omega
theorem Sg.cmp_klt (x y : Sg.Value) : Sg.cmpV x y < 0 ↔ Sg.klt x y := by
  unfold Sg.cmpV Lx.orV Lx.orV Lx.orV Sg.klt Sg.nlt Sg.neq
  have hi : ∀ a b : Int, Lib.compareInt a b = 0 ↔ a = b := Sg.cmpInt_lt
  have hl : ∀ a b : Int, Lib.compareInt a b < 0 ↔ a < b := fun a b => by unfold Lib.compareInt; split <;> (try split) <;> simp <;> omega
  by_cases h1 : x.kind = y.kind
  · rw [if_pos ((hi _ _).2 h1)]
    by_cases h2 : Sg.cb x.text y.text = 0
    · have ht := Sg.cb_eq h2
      rw [if_pos h2]
      by_cases h3 : x.lo = y.lo
      · rw [if_pos ((hi _ _).2 h3)]
        simp only [Lx.orV]
        constructor
        · intro h; omega
        · rintro ((h | ⟨-, h⟩) | ⟨-, h⟩) <;> omega
      · rw [if_neg fun q => h3 ((hi _ _).1 q), hl]
        constructor
        · exact fun h => .inr ⟨⟨h1, ht⟩, h⟩
        · rintro ((h | ⟨-, h⟩) | ⟨-, h⟩)
          · omega
          · omega
          · exact h
    · rw [if_neg h2]
      constructor
      · exact fun h => .inl (.inr ⟨h1, h⟩)
      · rintro ((h | ⟨-, h⟩) | ⟨⟨-, ht⟩, h⟩)
        · omega
        · exact h
        · rw [ht, Sg.cb_self] at h2; exact absurd rfl h2
  · rw [if_neg fun q => h1 ((hi _ _).1 q), hl]
    constructor
    · exact fun h => .inl (.inl h)
    · rintro ((h | ⟨h, -⟩) | ⟨⟨h, -⟩, -⟩)
      · exact h
      · exact absurd h h1
      · exact absurd h h1
theorem Sg.not_klt {a b : Sg.Value} : ¬ Sg.klt a b ↔ Sg.kle b a := by
  constructor
  · intro h
    rcases Sg.k_cases a b with q | ⟨q, q'⟩ | q
    · exact absurd q h
    · exact .inr ⟨Sg.neq_symm q, by omega⟩
    · rcases q with q | ⟨q, q'⟩
      · exact .inl q
      · exact .inr ⟨q, by omega⟩
  · rintro (h | ⟨h, h'⟩) (q | ⟨q, q'⟩)
    · exact Sg.nlt_asymm h q
    · exact Sg.nlt_irr h (Sg.neq_symm q)
    · exact Sg.nlt_irr q (Sg.neq_symm h)
    · omega
theorem Sg.cmp_swo : SWO (ltOf Sg.cmpV) where
  irrefl x := by unfold ltOf; rw [decide_eq_false_iff_not, Sg.cmp_klt]; exact Sg.klt_irr
  trans x y z h1 h2 := by
    unfold ltOf at *
    rw [decide_eq_true_eq, Sg.cmp_klt] at *
    exact Sg.klt_trans h1 h2
  ntrans x y z h1 h2 := by
    unfold ltOf at *
    rw [decide_eq_false_iff_not, Sg.cmp_klt, Sg.not_klt] at *
    exact Sg.kle_trans h2 h1
set_option maxRecDepth 100000 in
set_option maxHeartbeats 2000000 in
theorem gCloneV_any (v : Value) (L : List Sg.Value) (w : World) (hr : RdS w w.heap.size 4 encValue v L) (hlen : L.length ≤ 1000) : Calls Tryz.prog 86 #[v] w (RetVals L w) := by
  have hr' := hr
  obtain ⟨A, c, rfl, hl, hc, hh⟩ := hr
  cases A with
  | none =>
    have h0 : L.length = 0 := by
      refine Decidable.byContradiction fun h => ?_
      obtain ⟨b, off, e, -⟩ := hh (by omega)
      cases e
    obtain rfl : L = [] := List.length_eq_zero_iff.1 h0
    refine (AnyE.slices_Clone_nil Tryz.cloneV 0 c w).mono ?_
    rintro e w' ⟨rfl, rfl⟩
    exact ⟨_, rfl, World.ownsRow_nil _ _ _ _, Below.refl _ _⟩
  | some a =>
    obtain ⟨i1, hi1, hz1, hs1', hb1'⟩ := info_parts info_Value
    have HOE : Hid ((w.alloc (.cells #[] 60)).ownsRow w.heap.size 60 4 (.slice (some ⟨w.heap.size, 0, none⟩) 0 0) 0 []) := Lib.hid (own_empty (Nat.le_refl _))
    have HRV : Hid (RdS (w.alloc (.cells #[] 60)) w.heap.size 4 encValue (.slice (some a) L.length c) L) := Lib.hid ((show RdS w w.heap.size 4 encValue (.slice (some a) L.length c) L from hr').below ((Below.refl _ _).alloc (Nat.le_refl _) _))
    have q22 := fun (w : World) (n c n' c' : Nat) => Lib.run_eql_slice_nil (P := Tryz.prog) w 47 _ (some a) n c n' c' Tryz.underlying47
    have hk1 : 0 + L.length ≤ maxLen := by simp only [maxLen]; omega
    have hk2 : (0 + L.length) * 40 ≤ 140737488355328 := by omega
    have hbase : w.heap.size ≤ (w.alloc (.cells #[] 60)).heap.size := by simp
    clear hh hl hc hr'
    go_enter Tryz.func86, Tryz.ntmps86
    go_wp2_with (at_builtin; go_must (refine wpList_append_rd (enc := encValue) rfl (.tmp 5) (.tmp 6) _ rfl w.heap.size 60 i1 _ 4 40 len_value one_value Tryz.underlying47 hi1 hz1 hs1' hb1' rfl (by decide) (.slice (some ⟨w.heap.size, 0, none⟩) 0 0) 0 [] rfl HOE.out w.heap.size (.slice (some a) L.length c) L rfl HRV.out hk1 hk2 hbase ?_))
    intro v8 w8 hown8 hg8 hat8
    have HO8 : Hid (w8.ownsRow w.heap.size 60 4 v8 L.length (L.flatMap encValue)) := Lib.hid (by simpa using hown8)
    have HB8 : Hid (Below w.heap.size w w8) := Lib.hid (((Below.refl w.heap.size w).alloc (Nat.le_refl _) (.cells #[] 60)).grown hg8 (by simp) (fun q hq => by simp [Value.ownBlock] at hq; omega))
    clear hown8 hg8 hat8
    go_wp2_with fail
    go_ret
    exact ⟨_, rfl, HO8.out, HB8.out⟩
def RetSort (base : Nat) (v : Value) (L : List Sg.Value) (w : World) (e : Ending) (w' : World) : Prop := e = .returned (.tuple #[]) ∧ ∃ S : List Sg.Value, S.Perm L ∧ S.Pairwise Sg.kle ∧ w'.ownsRow base 60 4 v S.length (S.flatMap encValue) ∧ Below base w w'
theorem gSortV_any (v : Value) (L : List Sg.Value) (base : Nat) (w : World) (h : w.ownsRow base 60 4 v L.length (L.flatMap encValue)) (hlen : L.length ≤ 1000) (hbw : base ≤ w.heap.size) : Calls Tryz.prog 121 #[v, .func (.func 122) #[] #[]] w (RetSort base v L w) := by
  by_cases h0 : L.length = 0
  · obtain rfl : L = [] := List.length_eq_zero_iff.1 h0
    obtain ⟨A, c, rfl⟩ := own_form h
    refine (AnyF.slices_SortFunc_none Tryz.sortV A c _ w).mono ?_
    rintro e w' ⟨rfl, rfl⟩
    exact ⟨rfl, [], List.Perm.refl _, List.Pairwise.nil, h, Below.refl _ _⟩
  · obtain ⟨g, cap, rfl⟩ : ∃ g cap, v = .slice (some ⟨g, 0, none⟩) L.length cap := by
      rcases h.2 with ⟨-, e⟩ | ⟨g, cap, cur, e, -⟩
      · omega
      · exact ⟨g, cap, e⟩
    obtain ⟨hH, hlt, hb⟩ := holdsK_of_own h
    have eg : ∀ args w, (callFunc 122 args).run Tryz.prog w = .ok (.enter 122 args) w := enters_of Tryz.func122 (by kernel_rfl) rfl
    have hcmp : CmpLays Tryz.prog 122 #[] encValue 4 Sg.cmpV g 0 L.toArray.size w := fun m os dk _ x y => gCompare_any x y _
    have := AnyQ.slices_SortFunc Tryz.sortV 4 Tryz.isAgg60 Tryz.sizeOf60 encValue len_value one_value Sg.cmpV Sg.cmp_swo 122 #[] g 0 cap L.toArray w eg hcmp hH hlt (by simp; omega)
    refine this.mono ?_
    rintro e w' ⟨rfl, d', n, os, hp, hs, rfl⟩
    have hsz : d'.toList.length = L.length := by simpa using hp.1
    have hperm : d'.toList.Perm L := by
      have := hp.2.2
      have e1 : d'.extract 0 L.toArray.size = d' := by rw [← hp.1]; simp
      have e2 : L.toArray.extract 0 L.toArray.size = L.toArray := by simp
      rw [e1, e2] at this
      simpa using this
    refine ⟨rfl, d'.toList, hperm, ?_, ?_, ?_⟩
    · rw [List.pairwise_iff_getElem]
      intro i j hi hj hij
      have := hs i j (Nat.zero_le _) hij (by simpa [hsz] using hj)
      unfold ltOf at this
      rw [decide_eq_false_iff_not, Sg.cmp_klt, Sg.not_klt] at this
      simpa [getElem!_pos, show i < d'.size by simpa using hi, show j < d'.size by simpa using hj] using this
    · rw [hsz]
      exact own_putK (S := d'.toList) os h hsz
    · exact below_putK os hb hbw
end Go.Proofs.YtkmimjngmfdpmaaGreatDoor
