/- ostraconlaw01.Big. DERIVED: THE SHELF's CONTRACTS AT THIS DUMP, IN PLAIN WORDS (tools/lay-plain.mjs out of 'TryzShelf.lean', which tools/lay-shelf.mjs wrote): THE SAME DECLARATIONS UNDER THE SAME NAMES: 'import', 'namespace', 'open', 'def', 'theorem' AND NOTHING ELSE: no command of the shelf's: FOR A HAND-IN. Each laying: the table of numbers ('.._ren') and one theorem, a field a fact of the .. -/
import Derived.Test.YtkmimjngmfdpmaaGreatDoorMpSgCopy
import Derived.Shelf.Strings.Builder1
import Derived.Shelf.LaysM
import Derived.Shelf.Strconv.Itoa3
import Derived.Ground.Names2Prog
import Derived.Test.YtkmimjngmfdpmaaGreatDoorProg
namespace Go.Proofs.YtkmimjngmfdpmaaGreatDoor
open Go Go.RowKit

def Sg.longV (v : Sg.Value) : Bool := decide (100 < v.text.size)
def Sg.bigS (s : Sg.Sign) : Bool := decide (20 < s.values.length) || decide (100 < s.code.size) || s.values.any Sg.longV
def Sg.bigV (l : Sg.SList) : Bool := decide (210 < l.signs.length) || l.signs.any Sg.bigS
theorem Sg.big_small {l : Sg.SList} (h : Sg.bigV l = false) : Sg.Small l ∧ l.signs.length ≤ 210 ∧ ∀ s ∈ l.signs, s.values.length ≤ 20 ∧ s.code.size ≤ 100 ∧ ∀ v ∈ s.values, v.text.size ≤ 100 := by
  unfold Sg.bigV at h
  rw [Bool.or_eq_false_iff, decide_eq_false_iff_not, List.any_eq_false] at h
  obtain ⟨h1, h2⟩ := h
  have h3 : ∀ s ∈ l.signs, s.values.length ≤ 20 ∧ s.code.size ≤ 100 ∧ ∀ v ∈ s.values, v.text.size ≤ 100 := fun s hs => by
    have := h2 s hs
    rw [Bool.not_eq_true] at this
    unfold Sg.bigS at this
    rw [Bool.or_eq_false_iff, Bool.or_eq_false_iff, decide_eq_false_iff_not, decide_eq_false_iff_not, List.any_eq_false] at this
    refine ⟨by omega, by omega, fun v hv => ?_⟩
    have := this.2 v hv
    unfold Sg.longV at this
    simp at this
    omega
  exact ⟨⟨by omega, fun s hs => by have := (h3 s hs).1; omega⟩, by omega, h3⟩
theorem any_at {α : Type} {p : α → Bool} {l : List α} {k : Nat} {a : α} (h : l[k]? = some a) (hp : p a = true) : l.any p = true := by
  rw [List.any_eq_true]
  exact ⟨a, List.mem_of_getElem? h, hp⟩
theorem any_no {α : Type} {p : α → Bool} {l : List α} (h : ∀ (j : Nat) a, j < l.length → l[j]? = some a → p a = false) : l.any p = false := by
  rw [List.any_eq_false]
  intro a ha
  obtain ⟨j, hj, e⟩ := List.getElem_of_mem ha
  rw [h j a hj (by rw [List.getElem?_eq_getElem hj, e])]
  simp
set_option maxRecDepth 100000 in
set_option maxHeartbeats 8000000 in
theorem l1Big_any (v : Value) (l : Sg.SList) (w : World) (hr : RdSL w w.heap.size v l) : Calls Tryz.prog 16 #[v] w (RetBB (Sg.bigV l) w) := by
  obtain ⟨⟨u, rfl, hg⟩, hf⟩ := hr
  have hn0 := hg.len
  obtain ⟨A0, c0, rfl⟩ := hg.form
  have HG0 := Lib.hid hg
  obtain ⟨W1, hW1⟩ : ∃ W1, W1 = w.alloc (.cells #[.int .i64 l.periods, .slice A0 l.signs.length c0] 24) := ⟨_, rfl⟩
  have hb1 : Below w.heap.size w W1 := by rw [hW1]; exact (Below.refl _ _).alloc (Nat.le_refl _) _
  have hX : W1.heap[w.heap.size]? = some (.cells #[.int .i64 l.periods, .slice A0 l.signs.length c0] 24 (0, 0)) := by rw [hW1]; exact heap_alloc_new _ _
  have x1 : W1.cell? ⟨w.heap.size, 1, none⟩ = some (.slice A0 l.signs.length c0) := by simp [World.cell?, hX]
  have HB1 := Lib.hid hb1
  have HW1 := Lib.hid hW1
  clear hg hf hW1 hb1 hX
  by_cases h210 : 210 < l.signs.length
  · have HV : Hid (Sg.bigV l = true) := Lib.hid (by unfold Sg.bigV; simp [h210])
    have i1 : (210 : Int) < (l.signs.length : Int) := by omega
    clear h210
    go_enter Tryz.func16, Tryz.ntmps16
    go_upto_region 1 with fail
    rw [← HW1.out]
    go_wp2_with fail
    go_ret
    exact ⟨ret_bool HV.out.symm, HB1.out⟩
  have HBV : Hid (Sg.bigV l = l.signs.any Sg.bigS) := Lib.hid (by unfold Sg.bigV; simp [h210])
  have i1 : ¬ (210 : Int) < (l.signs.length : Int) := by omega
  clear h210
  go_enter Tryz.func16, Tryz.ntmps16
  go_upto_region 1 with fail
  rw [← HW1.out]
  go_wp2_with fail
  go_loopg [3] l.signs.length (fun g i wr => ∃ k : Nat, k ≤ l.signs.length ∧ g = l.signs.length - k ∧ i = .int .i64 k ∧ wr = W1 ∧ ∀ j s, j < k → l.signs[j]? = some s → Sg.bigS s = false)
  case atStart => exact ⟨0, Nat.zero_le _, rfl, rfl, rfl, fun j s hj => absurd hj (Nat.not_lt_zero j)⟩
  case round =>
    obtain ⟨k, hk, rfl, rfl, hwr, hno⟩ := hrel
    subst hwr
    have HNO := Lib.hid hno
    clear hno
    by_cases hlt : k < l.signs.length
    · obtain ⟨b, off, rfl, hb, hcell⟩ := HG0.out.five (by omega)
      obtain ⟨s, hs⟩ : ∃ s, l.signs[k]? = some s := ⟨_, List.getElem?_eq_getElem hlt⟩
      obtain ⟨uv, hrd, g0, g1, g2, g3, g4⟩ := hcell k s hs
      have f0 := (HB1.out.cell (p := ⟨b, off + k * 5, none⟩) hb).trans g0
      have f4 := (HB1.out.cell (p := ⟨b, off + k * 5 + 4, none⟩) hb).trans g4
      obtain ⟨A2, c2, rfl, hvc, hvm⟩ := rds_form hrd.rds
      have HRV := Lib.hid hrd.rds
      have HS := Lib.hid hs
      have hkI : (0 : Int) ≤ (k : Int) := by omega
      have hkJ : (k : Int) < (l.signs.length : Int) := by omega
      clear hcell hs g0 g1 g2 g3 g4 hrd
      by_cases h20 : 20 < s.values.length
      · have HV : Hid (Sg.bigV l = true) := Lib.hid (by rw [HBV.out]; exact any_at HS.out (by unfold Sg.bigS; simp [h20]))
        have j1 : (20 : Int) < (s.values.length : Int) := by omega
        clear h20
        go_wp2_with fail
        go_ret
        exact ⟨ret_bool HV.out.symm, HB1.out⟩
      have j1 : ¬ (20 : Int) < (s.values.length : Int) := by omega
      by_cases h100 : 100 < s.code.size
      · have HV : Hid (Sg.bigV l = true) := Lib.hid (by rw [HBV.out]; exact any_at HS.out (by unfold Sg.bigS; simp [h100]))
        have j2 : (100 : Int) < (s.code.size : Int) := by omega
        clear h20 h100
        go_wp2_with fail
        go_ret
        exact ⟨ret_bool HV.out.symm, HB1.out⟩
      have j2 : ¬ (100 : Int) < (s.code.size : Int) := by omega
      have HBS : Hid (Sg.bigS s = s.values.any Sg.longV) := Lib.hid (by unfold Sg.bigS; simp [h20, h100])
      clear h20 h100
      go_wp2_with fail
      clear j2 f0
      go_loopg [4] s.values.length (fun g i wi => ∃ j : Nat, j ≤ s.values.length ∧ g = s.values.length - j ∧ i = .int .i64 j ∧ wi = wr ∧ ∀ i z, i < j → s.values[i]? = some z → Sg.longV z = false)
      case atStart => exact ⟨0, Nat.zero_le _, rfl, rfl, rfl, fun j z hj => absurd hj (Nat.not_lt_zero j)⟩
      case round =>
        rename World => wi
        obtain ⟨j, hj, rfl, rfl, hwi, hnj⟩ := hrel
        subst hwi
        have HNJ := Lib.hid hnj
        clear hnj
        by_cases hltj : j < s.values.length
        · obtain ⟨y, hy⟩ : ∃ y, s.values[j]? = some y := ⟨_, List.getElem?_eq_getElem hltj⟩
          obtain ⟨bv, ov, rfl, hbv, hcv⟩ := RdX.four HRV.out (by omega)
          obtain ⟨g0, g1, g2, g3⟩ := hcv j y hy
          have f1 := (HB1.out.cell (p := ⟨bv, ov + j * 4 + 1, none⟩) hbv).trans g1
          have HY := Lib.hid hy
          have hjI : (0 : Int) ≤ (j : Int) := by omega
          have hjJ : (j : Int) < (s.values.length : Int) := by omega
          clear hcv hy g0 g1 g2 g3
          by_cases hl : 100 < y.text.size
          · have HV : Hid (Sg.bigV l = true) := Lib.hid (by rw [HBV.out]; exact any_at HS.out (by rw [HBS.out]; exact any_at HY.out (by unfold Sg.longV; simp [hl])))
            have j3 : (100 : Int) < (y.text.size : Int) := by omega
            clear hl
            go_wp2_with fail
            go_ret
            exact ⟨ret_bool HV.out.symm, HB1.out⟩
          · have j3 : ¬ (100 : Int) < (y.text.size : Int) := by omega
            have HN2 : Hid (∀ i z, i < j + 1 → s.values[i]? = some z → Sg.longV z = false) := Lib.hid fun i z hi hz => by
              by_cases e : i = j
              · subst e; rw [HY.out] at hz; cases hz; unfold Sg.longV; simp; omega
              · exact HNJ.out i z (by omega) hz
            clear hl
            go_wp2_with fail
            go_roundg (s.values.length - (j + 1))
            case measure => omega
            case rel => exact ⟨j + 1, by omega, rfl, by go_num, rfl, HN2.out⟩
        · have HN2 : Hid (∀ j s, j < k + 1 → l.signs[j]? = some s → Sg.bigS s = false) := Lib.hid fun i z hi hz => by
            by_cases e : i = k
            · subst e; rw [HS.out] at hz; cases hz; rw [HBS.out]; exact any_no fun q a hq ha => HNJ.out q a (by omega) ha
            · exact HNO.out i z (by omega) hz
          go_wp2_with fail
          go_roundg (l.signs.length - (k + 1))
          case measure => omega
          case rel => exact ⟨k + 1, by omega, rfl, by go_num, rfl, HN2.out⟩
    · have HV : Hid (Sg.bigV l = false) := Lib.hid (by rw [HBV.out]; exact any_no fun j s hj hs => HNO.out j s (by omega) hs)
      go_wp2_with fail
      go_ret
      exact ⟨ret_bool HV.out.symm, HB1.out⟩
end Go.Proofs.YtkmimjngmfdpmaaGreatDoor
namespace Go.Proofs
open Go.Shelf
def Tryz.laysM171_ren : Go.Shelf.Ren := ⟨fun | 171 => 54 | 243 => 90 | 246 => 125 | 283 => 152 | 284 => 153 | 285 => 154 | 286 => 155 | 129 => 175 | 317 => 178 | 318 => 179 | 319 => 180 | 320 => 181 | 337 => 191 | 338 => 192 | n => n, fun | 3 => 3 | 9 => 9 | 2 => 2 | 4 => 4 | 171 => 163 | 0 => 0 | 53 => 164 | 37 => 104 | 5 => 5 | 173 => 167 | 212 => 186 | 51 => 184 | 20 => 20 | 213 => 187 | 46 => 147 | 232 => 207 | 233 => 208 | n => n, fun | 17 => 4 | 18 => 7 | 19 => 8 | n => n⟩
theorem Tryz.laysM171 : Go.Proofs.LaysM.n171 Tryz.prog Tryz.laysM171_ren := {
  mixed := by kernel_rfl
  f129 := Tryz.func175.trans (congrArg some (by kernel_rfl))
  f171 := Tryz.func54.trans (congrArg some (by kernel_rfl))
  f243 := Tryz.func90.trans (congrArg some (by kernel_rfl))
  f246 := Tryz.func125.trans (congrArg some (by kernel_rfl))
  f283 := Tryz.func152.trans (congrArg some (by kernel_rfl))
  f284 := Tryz.func153.trans (congrArg some (by kernel_rfl))
  f285 := Tryz.func154.trans (congrArg some (by kernel_rfl))
  f286 := Tryz.func155.trans (congrArg some (by kernel_rfl))
  f317 := Tryz.func178.trans (congrArg some (by kernel_rfl))
  f318 := Tryz.func179.trans (congrArg some (by kernel_rfl))
  f319 := Tryz.func180.trans (congrArg some (by kernel_rfl))
  f320 := Tryz.func181.trans (congrArg some (by kernel_rfl))
  f337 := Tryz.func191.trans (congrArg some (by kernel_rfl))
  f338 := Tryz.func192.trans (congrArg some (by kernel_rfl))
  t0 := Tryz.underlying0
  a0 := Tryz.isAgg0
  z0 := Tryz.sizeOf0
  v0 := Tryz.zeroValue0
  t2 := Tryz.underlying2
  a2 := Tryz.isAgg2
  z2 := Tryz.sizeOf2
  v2 := Tryz.zeroValue2
  t3 := Tryz.underlying3
  a3 := Tryz.isAgg3
  z3 := Tryz.sizeOf3
  v3 := Tryz.zeroValue3
  t4 := Tryz.underlying4
  a4 := Tryz.isAgg4
  z4 := Tryz.sizeOf4
  v4 := Tryz.zeroValue4
  t5 := Tryz.underlying5
  a5 := Tryz.isAgg5
  z5 := Tryz.sizeOf5
  v5 := Tryz.zeroValue5
  t9 := Tryz.underlying9
  a9 := Tryz.isAgg9
  z9 := Tryz.sizeOf9
  v9 := Tryz.zeroValue9
  t20 := Tryz.underlying20
  a20 := Tryz.isAgg20
  z20 := Tryz.sizeOf20
  v20 := Tryz.zeroValue20
  t37 := Tryz.underlying104
  a37 := Tryz.isAgg104
  z37 := Tryz.sizeOf104
  v37 := Tryz.zeroValue104
  t46 := Tryz.underlying147
  a46 := Tryz.isAgg147
  z46 := Tryz.sizeOf147
  v46 := Tryz.zeroValue147
  t51 := Tryz.underlying184
  a51 := Tryz.isAgg184
  z51 := Tryz.sizeOf184
  v51 := Tryz.zeroValue184
  t53 := Tryz.underlying164
  a53 := Tryz.isAgg164
  z53 := Tryz.sizeOf164
  v53 := Tryz.zeroValue164
  t171 := Tryz.underlying163
  a171 := Tryz.isAgg163
  z171 := Tryz.sizeOf163
  v171 := Tryz.zeroValue163
  t173 := Tryz.underlying167
  a173 := Tryz.isAgg167
  z173 := Tryz.sizeOf167
  v173 := Tryz.zeroValue167
  t212 := Tryz.underlying186
  a212 := Tryz.isAgg186
  z212 := Tryz.sizeOf186
  v212 := Tryz.zeroValue186
  t213 := Tryz.underlying187
  a213 := Tryz.isAgg187
  z213 := Tryz.sizeOf187
  t232 := Tryz.underlying207
  a232 := Tryz.isAgg207
  z232 := Tryz.sizeOf207
  v232 := Tryz.zeroValue207
  t233 := Tryz.underlying208
  a233 := Tryz.isAgg208
  z233 := Tryz.sizeOf208
  v233 := Tryz.zeroValue208
  g17 := by kernel_rfl
  g18 := by kernel_rfl
  g19 := by kernel_rfl
  i0 := by kernel_rfl
  i2 := by kernel_rfl
  i3 := by kernel_rfl
  i4 := by kernel_rfl
  i5 := by kernel_rfl
  i9 := by kernel_rfl
  i20 := by kernel_rfl
  i37 := by kernel_rfl
  i46 := by kernel_rfl
  i51 := by kernel_rfl
  i53 := by kernel_rfl
  i171 := by kernel_rfl
  i173 := by kernel_rfl
  i212 := by kernel_rfl
  i232 := by kernel_rfl
  i233 := by kernel_rfl
  m17 := by kernel_rfl
  m18 := by kernel_rfl
  m19 := by kernel_rfl }
open Go.RowKit Go.Sort Go.Lib in
/-- strconv.Itoa: "Itoa is equivalent to FormatInt(int64(i), 10).": i's DECIMAL NUMERAL ('Lib.itoa': a '-' where i is negative, then the digits), FOR EVERY int. The world behind the call: the world before it, new blocks behind the heap (the library's 'var a [24]byte'), draws. (LAID: no walk: one application.) -/
theorem Tryz.strconv_Itoa (n : Int) (h0 : -9223372036854775808 ≤ n) (h1 : n ≤ 9223372036854775807) (w : World) (htab : Lib.TabIs Tryz.prog w "internal/strconv.uint64pow10" .u64 Lib.pow10Tab) :
    Calls Tryz.prog 54 #[.int .i64 n] w fun e w' => e = .returned (.string ⟨(Lib.itoa n).toArray⟩) ∧ ∃ k os, w' = grow (w.drewN k) os := Any.strconv_Itoa Tryz.laysM171 n h0 h1 w htab
end Go.Proofs
