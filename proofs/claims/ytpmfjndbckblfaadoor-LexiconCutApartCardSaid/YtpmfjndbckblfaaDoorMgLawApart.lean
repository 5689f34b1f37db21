/- ostraconlaw05.LexiconCutApart: the walk. Made by gen_lawapart.py. -/
import Derived.Test.YtpmfjndbckblfaaDoorMgApart
import Derived.Test.YtpmfjndbckblfaaDoorMgWorks
import Derived.Test.YtpmfjndbckblfaaDoorMgCopy
import Derived.Test.YtpmfjndbckblfaaDoorMgRegion4
namespace Go.Proofs.YtpmfjndbckblfaaDoor
open Go.RowKit

theorem heavy_bound {x : Lx.Lexicon} {l : List Lx.Form} (h : Lx.checkV x = 0) (hf : ∀ g ∈ l, g.clitics.length ≤ 3) : ∀ k : Nat, 0 ≤ Lx.heavyAll x (l.take k) ∧ Lx.heavyAll x (l.take k) ≤ 5000 * (k : Int)
  | 0 => by simp [Lx.heavyAll]
  | k + 1 => by
    have ih := heavy_bound h hf k
    cases hk : l[k]? with
    | none =>
      rw [List.getElem?_eq_none_iff] at hk
      rw [List.take_of_length_le (by omega : l.length ≤ k)] at ih
      rw [List.take_of_length_le (by omega : l.length ≤ k + 1)]
      omega
    | some f =>
      rw [Lx.heavyAll_succ hk]
      have := Lx.heavyV_le (f := f) h (hf f (List.mem_of_getElem? hk))
      omega
structure CpaR (T0 : Array Value) (W0 : World) (xv : Value) (bs ba oa n ca i bf of_ nf cfa k : Nat) (y0 : Int × Int × (Option Addr × Nat × Nat)) (d : Array Bool) (t : Array Value) (wc : World) : Prop where
  bel : Below W0.heap.size W0 wc
  siz : t.size = 197
  kp : ∀ i, i ∉ ([113, 114, 115, 116, 117, 118, 119, 120, 121, 122, 123, 124] : List Nat) → t[i]? = T0[i]?
  k2 : t[2]? = some (.pointer (some ⟨bs, 0, none⟩))
  k6 : t[6]? = some (.slice (some ⟨ba, oa, none⟩) n ca)
  k12 : t[12]? = some (.int .i64 (i : Int))
  k15 : t[15]? = some (.int .i64 (k : Int))
  p0 : dn d 0 → t[113]? = some (.pointer (some ⟨bs, 0, none⟩))
  p1 : dn d 1 → t[114]? = some (xv)
  p2 : dn d 2 → t[115]? = some (.slice (some ⟨ba, oa, none⟩) n ca)
  p3 : dn d 3 → t[116]? = some (.int .i64 (i : Int))
  p4 : dn d 4 → t[117]? = some (.pointer (some ⟨ba, oa + i * 2, none⟩))
  p5 : dn d 5 → t[118]? = some (.pointer (some ⟨ba, oa + i * 2, none⟩))
  p6 : dn d 6 → t[119]? = some (.slice (some ⟨bf, of_, none⟩) nf cfa)
  p7 : dn d 7 → t[120]? = some (.int .i64 (k : Int))
  p8 : dn d 8 → t[121]? = some (.pointer (some ⟨bf, of_ + k * 3, none⟩))
  p9 : dn d 9 → t[122]? = some (.agg #[.int .i64 y0.1, .int .i64 y0.2.1, .slice y0.2.2.1 y0.2.2.2.1 y0.2.2.2.2])
  p10 : dn d 10 → t[123]? = some (.int .i64 0)
  p11 : dn d 11 → t[124]? = some (.bool false)
def CpaI (T0 : Array Value) (W0 : World) (xv : Value) (bs ba oa n ca i bf of_ nf cfa k : Nat) (y0 : Int × Int × (Option Addr × Nat × Nat)) (d : Array Bool) (a : Act) (wc : World) : Prop := ∃ t : Array Value, a = ⟨t, []⟩ ∧ CpaR T0 W0 xv bs ba oa n ca i bf of_ nf cfa k y0 d t wc
structure CpbR (T0 : Array Value) (W0 : World) (xv : Value) (bs ba oa n ca i bf of_ nf cfa k : Nat) (y0 : Int × Int × (Option Addr × Nat × Nat)) (ts sd : ByteArray) (d : Array Bool) (t : Array Value) (wc : World) : Prop where
  bel : Below W0.heap.size W0 wc
  siz : t.size = 197
  kp : ∀ i, i ∉ ([13, 125, 126, 127, 128, 129, 130, 131, 132, 133, 134, 135, 136, 137] : List Nat) → t[i]? = T0[i]?
  k2 : t[2]? = some (.pointer (some ⟨bs, 0, none⟩))
  k6 : t[6]? = some (.slice (some ⟨ba, oa, none⟩) n ca)
  k12 : t[12]? = some (.int .i64 (i : Int))
  k15 : t[15]? = some (.int .i64 (k : Int))
  p0 : dn d 0 → t[125]? = some (.string ts)
  p1 : dn d 1 → t[126]? = some (.pointer (some ⟨bs, 0, none⟩))
  p2 : dn d 2 → t[127]? = some (xv)
  p3 : dn d 3 → t[128]? = some (.slice (some ⟨ba, oa, none⟩) n ca)
  p4 : dn d 4 → t[129]? = some (.int .i64 (i : Int))
  p5 : dn d 5 → t[130]? = some (.pointer (some ⟨ba, oa + i * 2, none⟩))
  p6 : dn d 6 → t[131]? = some (.pointer (some ⟨ba, oa + i * 2, none⟩))
  p7 : dn d 7 → t[132]? = some (.slice (some ⟨bf, of_, none⟩) nf cfa)
  p8 : dn d 8 → t[133]? = some (.int .i64 (k : Int))
  p9 : dn d 9 → t[134]? = some (.pointer (some ⟨bf, of_ + k * 3, none⟩))
  p10 : dn d 10 → t[135]? = some (.agg #[.int .i64 y0.1, .int .i64 y0.2.1, .slice y0.2.2.1 y0.2.2.2.1 y0.2.2.2.2])
  p11 : dn d 11 → t[136]? = some (.string sd)
  p12 : dn d 12 → t[137]? = some (.string (ts ++ sd))
  p13 : dn d 13 → t[13]? = some (.string (ts ++ sd))
  kk : ¬ dn d 0 → t[13]? = some (.string ts)
  l12 : dn d 12 → dn d 0
def CpbI (T0 : Array Value) (W0 : World) (xv : Value) (bs ba oa n ca i bf of_ nf cfa k : Nat) (y0 : Int × Int × (Option Addr × Nat × Nat)) (ts sd : ByteArray) (d : Array Bool) (a : Act) (wc : World) : Prop := ∃ t : Array Value, a = ⟨t, []⟩ ∧ CpbR T0 W0 xv bs ba oa n ca i bf of_ nf cfa k y0 ts sd d t wc
structure CpcR (T0 : Array Value) (W0 : World) (xv : Value) (bs ba oa n ca i bf of_ nf cfa k : Nat) (y0 : Int × Int × (Option Addr × Nat × Nat)) (ws hv : Int) (d : Array Bool) (t : Array Value) (wc : World) : Prop where
  bel : Below W0.heap.size W0 wc
  siz : t.size = 197
  kp : ∀ i, i ∉ ([14, 138, 139, 140, 141, 142, 143, 144, 145, 146, 147, 148, 149, 150] : List Nat) → t[i]? = T0[i]?
  k2 : t[2]? = some (.pointer (some ⟨bs, 0, none⟩))
  k6 : t[6]? = some (.slice (some ⟨ba, oa, none⟩) n ca)
  k12 : t[12]? = some (.int .i64 (i : Int))
  k15 : t[15]? = some (.int .i64 (k : Int))
  p0 : dn d 0 → t[138]? = some (.int .i64 ws)
  p1 : dn d 1 → t[139]? = some (.pointer (some ⟨bs, 0, none⟩))
  p2 : dn d 2 → t[140]? = some (xv)
  p3 : dn d 3 → t[141]? = some (.slice (some ⟨ba, oa, none⟩) n ca)
  p4 : dn d 4 → t[142]? = some (.int .i64 (i : Int))
  p5 : dn d 5 → t[143]? = some (.pointer (some ⟨ba, oa + i * 2, none⟩))
  p6 : dn d 6 → t[144]? = some (.pointer (some ⟨ba, oa + i * 2, none⟩))
  p7 : dn d 7 → t[145]? = some (.slice (some ⟨bf, of_, none⟩) nf cfa)
  p8 : dn d 8 → t[146]? = some (.int .i64 (k : Int))
  p9 : dn d 9 → t[147]? = some (.pointer (some ⟨bf, of_ + k * 3, none⟩))
  p10 : dn d 10 → t[148]? = some (.agg #[.int .i64 y0.1, .int .i64 y0.2.1, .slice y0.2.2.1 y0.2.2.2.1 y0.2.2.2.2])
  p11 : dn d 11 → t[149]? = some (.int .i64 hv)
  p12 : dn d 12 → t[150]? = some (.int .i64 (ws + hv))
  p13 : dn d 13 → t[14]? = some (.int .i64 (ws + hv))
  kk : ¬ dn d 0 → t[14]? = some (.int .i64 ws)
  l12 : dn d 12 → dn d 0
def CpcI (T0 : Array Value) (W0 : World) (xv : Value) (bs ba oa n ca i bf of_ nf cfa k : Nat) (y0 : Int × Int × (Option Addr × Nat × Nat)) (ws hv : Int) (d : Array Bool) (a : Act) (wc : World) : Prop := ∃ t : Array Value, a = ⟨t, []⟩ ∧ CpcR T0 W0 xv bs ba oa n ca i bf of_ nf cfa k y0 ws hv d t wc
structure CpdR (T0 : Array Value) (W0 : World) (bs ba oa n ca i j : Nat) (s : ByteArray) (wt wp : Int) (Fa : Option Addr) (nf cfa : Nat) (Fp : Option Addr) (np cfp : Nat) (d : Array Bool) (t : Array Value) (wc : World) : Prop where
  bel : Below W0.heap.size W0 wc
  siz : t.size = 197
  kp : ∀ i, i ∉ ([151, 152, 153, 154, 155, 156, 157, 158, 159, 160, 161, 162, 163, 164, 165, 166, 167, 168, 169, 170, 171, 172, 173, 174, 175, 176, 177, 178, 179, 180, 181, 182, 183, 184, 185, 186, 187, 188, 189, 190, 191, 192, 193, 194, 195] : List Nat) → t[i]? = T0[i]?
  k2 : t[2]? = some (.pointer (some ⟨bs, 0, none⟩))
  k6 : t[6]? = some (.slice (some ⟨ba, oa, none⟩) n ca)
  k12 : t[12]? = some (.int .i64 (i : Int))
  k13 : t[13]? = some (.string s)
  k14 : t[14]? = some (.int .i64 (wt : Int))
  p0 : dn d 0 → t[151]? = some (.string s)
  p1 : dn d 1 → t[152]? = some (.pointer (some ⟨bs, 3, none⟩))
  p2 : dn d 2 → t[153]? = some (.string s)
  p3 : dn d 3 → t[154]? = some (.bool false)
  p4 : dn d 4 → t[155]? = some (.bool false)
  p5 : dn d 5 → t[156]? = some (.int .i64 (wt : Int))
  p6 : dn d 6 → t[157]? = some (.slice (some ⟨ba, oa, none⟩) n ca)
  p7 : dn d 7 → t[158]? = some (.int .i64 (i : Int))
  p8 : dn d 8 → t[159]? = some (.pointer (some ⟨ba, oa + i * 2, none⟩))
  p9 : dn d 9 → t[160]? = some (.pointer (some ⟨ba, oa + i * 2 + 1, none⟩))
  p10 : dn d 10 → t[161]? = some (.int .i64 (wt : Int))
  p11 : dn d 11 → t[162]? = some (.bool false)
  p12 : dn d 12 → t[163]? = some (.bool false)
  p13 : dn d 13 → t[164]? = some (.bool false)
  p14 : dn d 14 → t[165]? = some (.int .i64 (i : Int))
  p15 : dn d 15 → t[166]? = some (.bool true)
  p16 : dn d 16 → t[167]? = some (.bool true)
  p17 : dn d 17 → t[168]? = some (.int .i64 (wt : Int))
  p18 : dn d 18 → t[169]? = some (.slice (some ⟨ba, oa, none⟩) n ca)
  p19 : dn d 19 → t[170]? = some (.int .i64 (i : Int))
  p20 : dn d 20 → t[171]? = some (.int .i64 (j : Int))
  p21 : dn d 21 → t[172]? = some (.pointer (some ⟨ba, oa + j * 2, none⟩))
  p22 : dn d 22 → t[173]? = some (.pointer (some ⟨ba, oa + j * 2 + 1, none⟩))
  p23 : dn d 23 → t[174]? = some (.int .i64 wp)
  p24 : dn d 24 → t[175]? = some (.bool false)
  p25 : dn d 25 → t[176]? = some (.bool false)
  p26 : dn d 26 → t[177]? = some (.bool false)
  p27 : dn d 27 → t[178]? = some (.bool false)
  p28 : dn d 28 → t[179]? = some (.int .i64 (i : Int))
  p29 : dn d 29 → t[180]? = some (.bool true)
  p30 : dn d 30 → t[181]? = some (.bool true)
  p31 : dn d 31 → t[182]? = some (.slice (some ⟨ba, oa, none⟩) n ca)
  p32 : dn d 32 → t[183]? = some (.int .i64 (i : Int))
  p33 : dn d 33 → t[184]? = some (.pointer (some ⟨ba, oa + i * 2, none⟩))
  p34 : dn d 34 → t[185]? = some (.pointer (some ⟨ba, oa + i * 2, none⟩))
  p35 : dn d 35 → t[186]? = some (.slice Fa nf cfa)
  p36 : dn d 36 → t[187]? = some (.slice (some ⟨ba, oa, none⟩) n ca)
  p37 : dn d 37 → t[188]? = some (.int .i64 (i : Int))
  p38 : dn d 38 → t[189]? = some (.int .i64 (j : Int))
  p39 : dn d 39 → t[190]? = some (.pointer (some ⟨ba, oa + j * 2, none⟩))
  p40 : dn d 40 → t[191]? = some (.pointer (some ⟨ba, oa + j * 2, none⟩))
  p41 : dn d 41 → t[192]? = some (.slice Fp np cfp)
  p42 : dn d 42 → t[193]? = some (.bool false)
  p43 : dn d 43 → t[194]? = some (.bool false)
  p44 : dn d 44 → t[195]? = some (.bool false)
def CpdI (T0 : Array Value) (W0 : World) (bs ba oa n ca i j : Nat) (s : ByteArray) (wt wp : Int) (Fa : Option Addr) (nf cfa : Nat) (Fp : Option Addr) (np cfp : Nat) (d : Array Bool) (a : Act) (wc : World) : Prop := ∃ t : Array Value, a = ⟨t, []⟩ ∧ CpdR T0 W0 bs ba oa n ca i j s wt wp Fa nf cfa Fp np cfp d t wc
structure CpeR (T0 : Array Value) (W0 : World) (bs ba oa n ca i j : Nat) (s : ByteArray) (wt wp : Int) (Fa : Option Addr) (nf cfa : Nat) (Fp : Option Addr) (np cfp : Nat) (d : Array Bool) (t : Array Value) (wc : World) : Prop where
  bel : Below W0.heap.size W0 wc
  siz : t.size = 197
  kp : ∀ i, i ∉ ([151, 152, 153, 154, 155, 156, 157, 158, 159, 160, 161, 162, 163, 164, 165, 166, 167, 168, 169, 170, 171, 172, 173, 174, 175, 176, 177, 178, 179, 180, 181, 182, 183, 184, 185, 186, 187, 188, 189, 190, 191, 192, 193, 194, 195] : List Nat) → t[i]? = T0[i]?
  k2 : t[2]? = some (.pointer (some ⟨bs, 0, none⟩))
  k6 : t[6]? = some (.slice (some ⟨ba, oa, none⟩) n ca)
  k12 : t[12]? = some (.int .i64 (i : Int))
  k13 : t[13]? = some (.string s)
  k14 : t[14]? = some (.int .i64 (wt : Int))
  p0 : dn d 0 → t[151]? = some (.string s)
  p1 : dn d 1 → t[152]? = some (.pointer (some ⟨bs, 3, none⟩))
  p2 : dn d 2 → t[153]? = some (.string s)
  p3 : dn d 3 → t[154]? = some (.bool false)
  p4 : dn d 4 → t[155]? = some (.bool false)
  p5 : dn d 5 → t[156]? = some (.int .i64 (wt : Int))
  p6 : dn d 6 → t[157]? = some (.slice (some ⟨ba, oa, none⟩) n ca)
  p7 : dn d 7 → t[158]? = some (.int .i64 (i : Int))
  p8 : dn d 8 → t[159]? = some (.pointer (some ⟨ba, oa + i * 2, none⟩))
  p9 : dn d 9 → t[160]? = some (.pointer (some ⟨ba, oa + i * 2 + 1, none⟩))
  p10 : dn d 10 → t[161]? = some (.int .i64 (wt : Int))
  p11 : dn d 11 → t[162]? = some (.bool false)
  p12 : dn d 12 → t[163]? = some (.bool false)
  p13 : dn d 13 → t[164]? = some (.bool false)
  p14 : dn d 14 → t[165]? = some (.int .i64 (i : Int))
  p15 : dn d 15 → t[166]? = some (.bool false)
  p16 : dn d 16 → t[167]? = some (.bool false)
  p17 : dn d 17 → t[168]? = some (undef)
  p18 : dn d 18 → t[169]? = some (undef)
  p19 : dn d 19 → t[170]? = some (undef)
  p20 : dn d 20 → t[171]? = some (undef)
  p21 : dn d 21 → t[172]? = some (undef)
  p22 : dn d 22 → t[173]? = some (undef)
  p23 : dn d 23 → t[174]? = some (undef)
  p24 : dn d 24 → t[175]? = some (undef)
  p25 : dn d 25 → t[176]? = some (.bool false)
  p26 : dn d 26 → t[177]? = some (.bool false)
  p27 : dn d 27 → t[178]? = some (.bool false)
  p28 : dn d 28 → t[179]? = some (.int .i64 (i : Int))
  p29 : dn d 29 → t[180]? = some (.bool false)
  p30 : dn d 30 → t[181]? = some (.bool false)
  p31 : dn d 31 → t[182]? = some (undef)
  p32 : dn d 32 → t[183]? = some (undef)
  p33 : dn d 33 → t[184]? = some (undef)
  p34 : dn d 34 → t[185]? = some (undef)
  p35 : dn d 35 → t[186]? = some (undef)
  p36 : dn d 36 → t[187]? = some (undef)
  p37 : dn d 37 → t[188]? = some (undef)
  p38 : dn d 38 → t[189]? = some (undef)
  p39 : dn d 39 → t[190]? = some (undef)
  p40 : dn d 40 → t[191]? = some (undef)
  p41 : dn d 41 → t[192]? = some (undef)
  p42 : dn d 42 → t[193]? = some (undef)
  p43 : dn d 43 → t[194]? = some (.bool false)
  p44 : dn d 44 → t[195]? = some (.bool false)
def CpeI (T0 : Array Value) (W0 : World) (bs ba oa n ca i j : Nat) (s : ByteArray) (wt wp : Int) (Fa : Option Addr) (nf cfa : Nat) (Fp : Option Addr) (np cfp : Nat) (d : Array Bool) (a : Act) (wc : World) : Prop := ∃ t : Array Value, a = ⟨t, []⟩ ∧ CpeR T0 W0 bs ba oa n ca i j s wt wp Fa nf cfa Fp np cfp d t wc

set_option maxRecDepth 100000 in
set_option maxHeartbeats 8000000 in
theorem LexiconCutApart_any (vs : Value) (x : Lx.Lexicon) (s : ByteArray) (most : Int) (w : World) (hs : ∃ v0 v1 v2, vs = .agg #[v0, v1, v2, .string s] ∧ RdL w w.heap.size (.agg #[v0, v1, v2]) x) (hsz : s.size ≤ maxLen) :
    Calls Tryd.prog 7 #[vs, .int .i64 most] w (RetBB true w) := by
  obtain ⟨v0, v1, v2, rfl, hr⟩ := hs
  have HR := Lib.hid hr
  obtain ⟨⟨_, _, _, e, ⟨A0, c0, rfl, -⟩, ⟨A1, c1, rfl, -⟩, ⟨A2, c2, rfl, -⟩⟩, -, -, -⟩ := hr
  cases e
  have hs0 : s.size ≤ 9223372036854775807 := by simpa [maxLen] using hsz
  obtain ⟨wA, hwA⟩ : ∃ wA, wA = w.alloc (.cells #[.slice A0 x.entries.length c0, .slice A1 x.endings.length c1, .slice A2 x.clitics.length c2, .string s] 40) := ⟨_, rfl⟩
  have hba : Below w.heap.size w wA := by rw [hwA]; exact (Below.refl _ _).alloc (Nat.le_refl _) _
  have hsa : wA.heap.size = w.heap.size + 1 := by rw [hwA]; simp
  have hX : wA.heap[w.heap.size]? = some (.cells #[.slice A0 x.entries.length c0, .slice A1 x.endings.length c1, .slice A2 x.clitics.length c2, .string s] 40 (0, 0)) := by rw [hwA]; exact heap_alloc_new _ _
  have BXA : Hid (∀ W, Below wA.heap.size wA W → W.cell? ⟨w.heap.size, 0, none⟩ = some (.slice A0 x.entries.length c0) ∧ W.cell? ⟨w.heap.size, 1, none⟩ = some (.slice A1 x.endings.length c1) ∧ W.cell? ⟨w.heap.size, 2, none⟩ = some (.slice A2 x.clitics.length c2) ∧
      W.cell? ⟨w.heap.size, 3, none⟩ = some (.string s)) := Lib.hid fun W hW => by
    have a := (hW.block w.heap.size (by omega)).trans hX
    exact ⟨by simp [World.cell?, a], by simp [World.cell?, a], by simp [World.cell?, a], by simp [World.cell?, a]⟩
  have HBA := Lib.hid hba
  have HGL := Lib.hid (fun (W : World) (hW : Below wA.heap.size wA W) => rdl_keep' (hba.trans (hW.mono hba.size)) HR.out)
  have HFAR := Lib.hid (fun (W : World) (hW : Below wA.heap.size wA W) => far_any _ _ _ x s W (HGL.out W hW) hsz)
  have HWA := Lib.hid hwA
  clear hba hX hsz
  go_enter Tryd.func7, Tryd.ntmps7
  go_wp2_with fail
  rw [← HWA.out]
  obtain ⟨g0, g1, g2, g3⟩ := BXA.out wA (Below.refl _ _)
  go_wp2_with fail
  refine (HFAR.out wA (Below.refl _ _)).mono ?_
  rintro e1 w1 ⟨rfl, hb1⟩
  have H1 := Lib.hid hb1
  clear g0 g1 g2 g3 hb1 hwA HWA hsa
  cases hfar : Lx.farV x s
  · have hsmall : x.entries.length ≤ 210 ∧ x.endings.length ≤ 50 ∧ x.clitics.length ≤ 15 ∧ s.size ≤ 100 := by
      simp [Lx.farV, Lx.largeV, Lx.bigV] at hfar; omega
    obtain ⟨hs1, hs2, hs3, hs4⟩ := hsmall
    clear hfar
    have HCPY := Lib.hid (fun (W : World) (hW : Below wA.heap.size wA W) => rCopy_any _ x W (HGL.out W hW) (by omega) (by omega) (by omega))
    obtain ⟨g0, g1, g2, g3⟩ := BXA.out w1 H1.out
    go_wp2_with fail
    refine (HCPY.out w1 H1.out).mono ?_
    rintro e2 w2 ⟨v2, rfl, hr2, hb2⟩
    obtain ⟨⟨_, _, _, rfl, ⟨B0, d0, rfl, -⟩, ⟨B1, d1, rfl, -⟩, ⟨B2, d2, rfl, -⟩⟩, -, -, -⟩ := id hr2
    have hb2A := H1.out.trans (hb2.mono H1.out.size)
    obtain ⟨w3, hw3⟩ : ∃ w3, w3 = w2.alloc (.cells #[.slice B0 x.entries.length d0, .slice B1 x.endings.length d1, .slice B2 x.clitics.length d2] 26) := ⟨_, rfl⟩
    have hb23 : Below w2.heap.size w2 w3 := by rw [hw3]; exact (Below.refl _ _).alloc (Nat.le_refl _) _
    have hs3w : w3.heap.size = w2.heap.size + 1 := by rw [hw3]; simp
    have hX3 : w3.heap[w2.heap.size]? = some (.cells #[.slice B0 x.entries.length d0, .slice B1 x.endings.length d1, .slice B2 x.clitics.length d2] 26 (0, 0)) := by rw [hw3]; exact heap_alloc_new _ _
    have HXC : Hid (∀ W, Below w3.heap.size w3 W → W.cell? ⟨w2.heap.size, 0, none⟩ = some (.slice B0 x.entries.length d0) ∧ W.cell? ⟨w2.heap.size, 1, none⟩ = some (.slice B1 x.endings.length d1) ∧ W.cell? ⟨w2.heap.size, 2, none⟩ = some (.slice B2 x.clitics.length d2)) := Lib.hid fun W hW => by
      have a := (hW.block w2.heap.size (by omega)).trans hX3
      exact ⟨by simp [World.cell?, a], by simp [World.cell?, a], by simp [World.cell?, a]⟩
    have HR3 : Hid (∀ W, Below w3.heap.size w3 W → RdL W W.heap.size (.agg #[.slice B0 x.entries.length d0, .slice B1 x.endings.length d1, .slice B2 x.clitics.length d2]) x) := Lib.hid fun W hW => rdl_keep' (hb23.trans (hW.mono hb23.size)) hr2
    have H3 : Hid (Below wA.heap.size wA w3) := Lib.hid (hb2A.trans (hb23.mono hb2A.size))
    have HW3 := Lib.hid hw3
    clear hb2 hb2A hr2 hw3 hb23 hs3w hX3 g0 g1 g2 g3
    go_upto_region 4 with fail
    rw [← HW3.out]
    obtain ⟨g0, g1, g2, g3⟩ := BXA.out w3 H3.out
    obtain ⟨j0, j1, j2⟩ := HXC.out w3 (Below.refl _ _)
    go_wp2_with fail
    refine (CutsF_any x s most _ w3 (HR3.out w3 (Below.refl _ _)) (by omega)).mono ?_
    rintro e4 w4 ⟨va, rfl, hra, hb4⟩
    have H4 := Lib.hid hb4
    have H4a := Lib.hid (H3.out.trans (hb4.mono H3.out.size))
    clear g0 g1 g2 g3 j0 j1 j2 hb4
    by_cases hz : Lx.cutsN x s most = 0
    · obtain ⟨hsp, hap⟩ := Lx.apart x s most hz
      have HAP := Lib.hid hap
      have HFI := Lib.hid (Lx.cutsR_fine x s most)
      have HSP := Lib.hid hsp
      obtain ⟨Ua, Ka, rfl⟩ := hra.form
      have HRA := Lib.hid hra
      rw [hz]
      obtain ⟨n, hn⟩ : ∃ n, n = (Lx.cutsR x s most).length := ⟨_, rfl⟩
      have HN := Lib.hid hn
      rw [← hn]
      have hn64 : n ≤ 64 := by rw [hn]; exact HFI.out.1
      clear hra hap hsp hz hn
      obtain ⟨g0, g1, g2, g3⟩ := BXA.out w4 H4a.out
      obtain ⟨j0, j1, j2⟩ := HXC.out w4 H4.out
      go_wp2_with fail
      refine (Ways_any x s _ w4 (HR3.out w4 H4.out) (by omega)).mono ?_
      rintro e5 w5 ⟨rfl, hb5⟩
      have H5 := Lib.hid (H4.out.trans (hb5.mono H4.out.size))
      have H5a := Lib.hid (H4a.out.trans (hb5.mono H4a.out.size))
      clear g0 g1 g2 g3 j0 j1 j2
      obtain ⟨g0, g1, g2, g3⟩ := BXA.out w5 H5a.out
      obtain ⟨j0, j1, j2⟩ := HXC.out w5 H5.out
      rw [HSP.out]
      obtain ⟨Wn, hWn⟩ : ∃ Wn, Wn = Lx.wayT (Lx.ats x s) s.size s.size 0 := ⟨_, rfl⟩
      obtain ⟨Rn, hRn⟩ : ∃ Rn, Rn = Lx.farT (Lx.reachT (Lx.ats x s) s.size) s.size := ⟨_, rfl⟩
      rw [show Lx.waysV x s = ((Wn : Nat) : Int) by unfold Lx.waysV; rw [if_pos HSP.out, hWn]]
      have HWR : Hid (1 ≤ most ∧ n = min most.toNat Wn ∧ (0 < Wn ↔ Rn = s.size)) := Lib.hid ⟨HAP.out.m1, by rw [HN.out, hWn]; exact HAP.out.len, by rw [hWn, hRn]; exact HAP.out.far⟩
      have HRN : Hid (Lx.farestV x s = ((Rn : Nat) : Int)) := Lib.hid (by unfold Lx.farestV; rw [if_pos HSP.out, hRn])
      clear hWn hRn
      go_wp2_with fail
      refine (Reach_any x s _ w5 (HR3.out w5 H5.out) (by omega)).mono ?_
      rintro e6 w6 ⟨rfl, hb6⟩
      have H6 := Lib.hid (H5.out.trans (hb6.mono H5.out.size))
      have H6a := Lib.hid (H5a.out.trans (hb6.mono H5a.out.size))
      have HRA6 : Hid (RdG KCut w6 (fun b => b < w6.heap.size) (.slice Ua n Ka) (Lx.cutsR x s most)) := Lib.hid (by
        have := HRA.out
        rw [← HN.out] at this
        exact this.keep fun b hb => ⟨by have := hb5.size; have := hb6.size; omega, (hb6.block b (by have := hb5.size; omega)).trans (hb5.block b hb)⟩)
      rw [HSP.out, HRN.out]
      clear g0 g1 g2 g3 j0 j1 j2 hb5 hb6 HRN HRA
      obtain ⟨g0, g1, g2, g3⟩ := BXA.out w6 H6a.out
      go_upto_region 9 with fail
      go_cut [96] (fun t wc => t = .bool false ∧ wc = w6)
      case first =>
        obtain ⟨hm1, hnm, hiff⟩ := HWR.out
        have q1 : ¬ most < (n : Int) := by omega
        by_cases h0 : 0 < Wn
        · have hR : Rn = s.size := hiff.1 h0
          subst hR
          have h0I : 0 < (Wn : Int) := by omega
          by_cases hlt : (n : Int) < most
          · have hw : Wn = n := by omega
            subst hw
            have hne : ¬ (Wn : Int) = most := by omega
            clear hnm hiff
            go_wp2_with fail
            go_meet
            go_light
            exact ⟨by simp, rfl⟩
          · have he : most = (n : Int) := by omega
            have hge : ¬ (Wn : Int) < (n : Int) := by omega
            subst he
            clear hnm hiff
            go_wp2_with fail
            go_meet
            go_light
            exact ⟨by simp, rfl⟩
        · have hw : Wn = 0 := by omega
          subst hw
          have hR : ¬ (Rn : Int) = (s.size : Int) := fun e => h0 (hiff.2 (by omega))
          have hn0 : n = 0 := by omega
          subst hn0
          have hlt : (0 : Int) < most := by omega
          have hne : ¬ (0 : Int) = most := by omega
          clear hnm hiff
          go_wp2_with fail
          go_meet
          go_light
          exact ⟨by simp; omega, rfl⟩
      case rest =>
        obtain ⟨rfl, hwc⟩ := hcut
        have hwc' := hwc.symm
        subst hwc'
        go_wp2_with fail
        go_loopg [12] n (fun g i wr => ∃ k : Nat, k ≤ n ∧ g = n - k ∧ i = .int .i64 k ∧ Below w6.heap.size w6 wr)
        case atStart => exact ⟨0, Nat.zero_le _, rfl, rfl, Below.refl _ _⟩
        case round =>
          obtain ⟨i, hi, rfl, rfl, hbr⟩ := hrel
          have HBR := Lib.hid hbr
          by_cases hlt : i < n
          · have hltI : (i : Int) < (n : Int) := by omega
            obtain ⟨c, hc⟩ : ∃ c, (Lx.cutsR x s most)[i]? = some c := ⟨_, List.getElem?_eq_getElem (by rw [← HN.out]; exact hlt)⟩
            obtain ⟨ba, oa, va, hUa, hba, ka0, ka1, hfa⟩ := rdg_cut HRA6.out hc
            subst hUa
            obtain ⟨Fa, cfa, rfl⟩ := hfa.form
            obtain ⟨nf, hnf⟩ : ∃ nf, nf = c.1.length := ⟨_, rfl⟩
            rw [← hnf] at ka0
            have HNF := Lib.hid hnf
            have HC := Lib.hid hc
            have HMC := Lib.hid (List.mem_of_getElem? hc)
            have HFA := Lib.hid hfa
            have HOK := Lib.hid (HAP.out.ok c HMC.out)
            have hnf64 : nf ≤ 64 := by rw [hnf]; exact HAP.out.few c HMC.out
            have HCI : Hid (∀ W : World, Below w6.heap.size w6 W → W.cell? ⟨ba, oa + i * 2, none⟩ = some (.slice Fa nf cfa) ∧ W.cell? ⟨ba, oa + i * 2 + 1, none⟩ = some (.int .i64 c.2)) := Lib.hid fun W hW =>
              ⟨(hW.cell (p := ⟨ba, _, none⟩) hba).trans ka0, (hW.cell (p := ⟨ba, _, none⟩) hba).trans ka1⟩
            clear hbr ka0 ka1 hfa hnf hc hlt
            go_wp2_with fail
            go_loopg [13, 14, 15] nf (fun g tt wv kv wy => ∃ (k : Nat) (ts : ByteArray), k ≤ nf ∧ g = nf - k ∧ tt = .string ts ∧ ts.data.toList = Lx.saidAll x (c.1.take k) ∧ wv = .int .i64 (Lx.heavyAll x (c.1.take k)) ∧ kv = .int .i64 k ∧ Below w6.heap.size w6 wy)
            case atStart => exact ⟨0, ⟨#[]⟩, Nat.zero_le _, rfl, rfl, rfl, rfl, rfl, HBR.out⟩
            case round =>
              rename World => wy
              obtain ⟨k, ts, hk, rfl, rfl, hts, rfl, rfl, hby⟩ := hrel
              have HBY := Lib.hid hby
              obtain ⟨p0, p1⟩ := HCI.out wy hby
              have HTS0 := Lib.hid hts
              by_cases hlk : k < nf
              · have hlkI : (k : Int) < (nf : Int) := by omega
                obtain ⟨f, hf⟩ : ∃ f, c.1[k]? = some f := ⟨_, List.getElem?_eq_getElem (by rw [← HNF.out]; exact hlk)⟩
                obtain ⟨bf, of_, hFa, hbf, hcellf⟩ := HFA.out.at (by rw [← HNF.out]; omega)
                subst hFa
                obtain ⟨csf, ⟨sv, rfl, hsv⟩, hcsf⟩ := hcellf k f hf
                obtain ⟨Ak, ck, rfl, -⟩ := id hsv
                obtain ⟨y0, hy0⟩ : ∃ y0 : Int × Int × (Option Addr × Nat × Nat), y0 = (f.entry, f.ending, (Ak, f.clitics.length, ck)) := ⟨_, rfl⟩
                have hfm := List.mem_of_getElem? hf
                have hfv := HOK.out.ok f hfm
                have hval := Lx.valid_of hfv
                have hhv := Lx.heavyV_le (f := f) hval.chk hval.few
                have hsl := Lx.saidAll_le (x := x) c.1 (k + 1)
                rw [Lx.saidAll_succ hf, List.length_append, HOK.out.said, ← hts] at hsl
                have hsz64 := HAP.out.size.2
                have CL : Hid (∀ W : World, Below w6.heap.size w6 W → W.cell? ⟨w.heap.size, 0, none⟩ = some (.slice A0 x.entries.length c0) ∧ W.cell? ⟨w.heap.size, 1, none⟩ = some (.slice A1 x.endings.length c1) ∧ W.cell? ⟨w.heap.size, 2, none⟩ = some (.slice A2 x.clitics.length c2) ∧
                    W.cell? ⟨w.heap.size, 3, none⟩ = some (.string s) ∧ W.cell? ⟨ba, oa + i * 2, none⟩ = some (.slice (some ⟨bf, of_, none⟩) nf cfa) ∧ W.cell? ⟨ba, oa + i * 2 + 1, none⟩ = some (.int .i64 c.2) ∧
                    W.cell? ⟨bf, of_ + k * 3, none⟩ = some (.int .i64 y0.1) ∧ W.cell? ⟨bf, of_ + k * 3 + 1, none⟩ = some (.int .i64 y0.2.1) ∧ W.cell? ⟨bf, of_ + k * 3 + 2, none⟩ = some (.slice y0.2.2.1 y0.2.2.2.1 y0.2.2.2.2)) := Lib.hid fun W hW => by
                  obtain ⟨m0, m1, m2, m3⟩ := BXA.out W (H6a.out.trans (hW.mono H6a.out.size))
                  obtain ⟨n0, n1⟩ := HCI.out W hW
                  have ef := fun (o : Nat) => hW.cell (p := ⟨bf, o, none⟩) hbf
                  rw [hy0]
                  exact ⟨m0, m1, m2, m3, n0, n1, (ef _).trans (hcsf 0 _ rfl), (ef _).trans (hcsf 1 _ rfl), (ef _).trans (hcsf 2 _ rfl)⟩
                have HRF : Hid (∀ W : World, Below w6.heap.size w6 W → RdF W W.heap.size (.agg #[.int .i64 y0.1, .int .i64 y0.2.1, .slice y0.2.2.1 y0.2.2.2.1 y0.2.2.2.2]) f) := Lib.hid fun W hW =>
                  ⟨⟨_, by rw [hy0], (hsv.keep (ok' := fun b => b < W.heap.size) fun b hb => ⟨Nat.lt_of_lt_of_le hb hW.size, hW.block b hb⟩).to fun b hb => hb⟩⟩
                have HCF : Hid (∀ W : World, Below w6.heap.size w6 W → Calls Tryd.prog 18 #[(.agg #[.slice A0 x.entries.length c0, .slice A1 x.endings.length c1, .slice A2 x.clitics.length c2]), .agg #[.int .i64 y0.1, .int .i64 y0.2.1, .slice y0.2.2.1 y0.2.2.2.1 y0.2.2.2.2]] W (RetIB 0 W)) := Lib.hid fun W hW => by
                  have := rCheckForm_any _ _ x f W (HGL.out W (H6a.out.trans (hW.mono H6a.out.size))) (HRF.out W hW)
                  rwa [hfv] at this
                obtain ⟨sd, hsd⟩ : ∃ sd, sd = Lx.saidV x f := ⟨_, rfl⟩
                obtain ⟨hv, hhvE⟩ : ∃ hv, hv = Lx.heavyV x f := ⟨_, rfl⟩
                obtain ⟨ws, hws⟩ : ∃ ws, ws = Lx.heavyAll x (c.1.take k) := ⟨_, rfl⟩
                have HSD : Hid (∀ W : World, Below w6.heap.size w6 W → Calls Tryd.prog 34 #[(.agg #[.slice A0 x.entries.length c0, .slice A1 x.endings.length c1, .slice A2 x.clitics.length c2]), .agg #[.int .i64 y0.1, .int .i64 y0.2.1, .slice y0.2.2.1 y0.2.2.2.1 y0.2.2.2.2]] W (RetS sd W)) := Lib.hid fun W hW => by
                  rw [hsd]
                  exact rSaid_any _ _ x f W (HGL.out W (H6a.out.trans (hW.mono H6a.out.size))) (HRF.out W hW) hval.chk hval.fitsC
                have HHV : Hid (∀ W : World, Below w6.heap.size w6 W → Calls Tryd.prog 35 #[(.agg #[.slice A0 x.entries.length c0, .slice A1 x.endings.length c1, .slice A2 x.clitics.length c2]), .agg #[.int .i64 y0.1, .int .i64 y0.2.1, .slice y0.2.2.1 y0.2.2.2.1 y0.2.2.2.2]] W (RetIB hv W)) := Lib.hid fun W hW => by
                  rw [hhvE]
                  exact rHeavy_any _ _ x f W (HGL.out W (H6a.out.trans (hW.mono H6a.out.size))) (HRF.out W hW) hval.chk hval.fitsC
                have hts64 : ts.size ≤ 64 := by have e : ts.data.toList.length = ts.size := rfl; have e2 : s.data.toList.length = s.size := rfl; omega
                have hsd64 : sd.size ≤ 64 := by rw [hsd]; have e : (Lx.saidV x f).data.toList.length = (Lx.saidV x f).size := rfl; have e2 : s.data.toList.length = s.size := rfl; omega
                have hhv0 : 0 ≤ hv ∧ hv ≤ 5000 := by rw [hhvE]; exact hhv
                obtain ⟨hhv1, hhv2⟩ := hhv0
                have hwsb : 0 ≤ ws ∧ ws ≤ 5000 * (k : Int) := by
                  rw [hws]
                  exact heavy_bound hval.chk (fun g hg => (Lx.valid_of (HOK.out.ok g hg)).few) k
                obtain ⟨hws1, hws2⟩ := hwsb
                have HTS : Hid ((ts ++ sd).data.toList = Lx.saidAll x (c.1.take (k + 1))) := Lib.hid (by rw [Lx.saidAll_succ hf, ByteArray.data_append, Array.toList_append, hts, hsd])
                have HWS : Hid (Lx.heavyAll x (c.1.take (k + 1)) = ws + hv) := Lib.hid (by rw [Lx.heavyAll_succ hf, hws, hhvE])
                rw [← hws]
                clear hby hts hf hbf hcellf hcsf hsv hy0 hfm hfv hval hhv hsl hsd hhvE hws hlk p1
                go_upto_region 18 with fail
                refine wp_region_inv2T (fun T0 => CpaI T0 wy (.agg #[.slice A0 x.entries.length c0, .slice A1 x.endings.length c1, .slice A2 x.clitics.length c2]) w.heap.size ba oa n Ka i bf of_ nf cfa k y0) (by kernel_rfl) (by kernel_rfl) ?g0a ?gstepa ?genda
                case g0a =>
                  have hno : ∀ j, ¬ dn (Array.replicate 12 false) j := by
                    intro j; unfold dn; by_cases hj : j < 12 <;> simp [Array.getD, hj]
                  have na : ∀ {j : Nat} {Z : Prop}, dn (Array.replicate 12 false) j → Z := fun hj => absurd hj (hno _)
                  exact ⟨_, rfl, { bel := (Below.refl _ _).drew, siz := rfl, kp := fun _ _ => rfl, k2 := rfl, k6 := rfl, k12 := rfl, k15 := rfl, p0 := na, p1 := na, p2 := na, p3 := na, p4 := na, p5 := na, p6 := na, p7 := na, p8 := na, p9 := na, p10 := na, p11 := na }⟩
                case gstepa =>
                  intro T0 d a wc i hd hI hi
                  obtain ⟨hlt, hnd, hpre⟩ := mem_ready hi
                  have hd' : d.size = 12 := hd
                  have hin : i < 12 := hlt
                  clear hi hd hlt
                  obtain ⟨t, rfl, h⟩ := hI
                  have hcs : i = 0 ∨ i = 1 ∨ i = 2 ∨ i = 3 ∨ i = 4 ∨ i = 5 ∨ i = 6 ∨ i = 7 ∨ i = 8 ∨ i = 9 ∨ i = 10 ∨ i = 11 := by omega
                  rcases hcs with rfl | rfl | rfl | rfl | rfl | rfl | rfl | rfl | rfl | rfl | rfl | rfl
                  · have hi : 0 < d.size := by omega
                    have q2 := h.k2
                    refine wpOp_plain rfl rfl ?_
                    go_simp
                    exact ⟨_, rfl, { bel := h.bel, siz := (by simpa using h.siz), kp := rk h.kp, k2 := rs h.k2, k6 := rs h.k6, k12 := rs h.k12, k15 := rs h.k15, p0 := fun _ => set_same (by have := h.siz; omega), p1 := rp hi h.p1, p2 := rp hi h.p2, p3 := rp hi h.p3, p4 := rp hi h.p4, p5 := rp hi h.p5, p6 := rp hi h.p6, p7 := rp hi h.p7, p8 := rp hi h.p8, p9 := rp hi h.p9, p10 := rp hi h.p10, p11 := rp hi h.p11 }⟩
                  · have hi : 1 < d.size := by omega
                    have e0 := h.p0 (hpre _ rfl ⟨0, .data⟩ (by simp) rfl)
                    obtain ⟨k0, k1, k2, k3, k4, k5, k6, k7, k8⟩ := CL.out wc (HBY.out.trans (h.bel.mono HBY.out.size))
                    refine wpOp_plain rfl rfl ?_
                    go_simp
                    exact ⟨_, rfl, { bel := h.bel, siz := (by simpa using h.siz), kp := rk h.kp, k2 := rs h.k2, k6 := rs h.k6, k12 := rs h.k12, k15 := rs h.k15, p0 := rp hi h.p0, p1 := fun _ => set_same (by have := h.siz; omega), p2 := rp hi h.p2, p3 := rp hi h.p3, p4 := rp hi h.p4, p5 := rp hi h.p5, p6 := rp hi h.p6, p7 := rp hi h.p7, p8 := rp hi h.p8, p9 := rp hi h.p9, p10 := rp hi h.p10, p11 := rp hi h.p11 }⟩
                  · have hi : 2 < d.size := by omega
                    have q6 := h.k6
                    refine wpOp_plain rfl rfl ?_
                    go_simp
                    exact ⟨_, rfl, { bel := h.bel, siz := (by simpa using h.siz), kp := rk h.kp, k2 := rs h.k2, k6 := rs h.k6, k12 := rs h.k12, k15 := rs h.k15, p0 := rp hi h.p0, p1 := rp hi h.p1, p2 := fun _ => set_same (by have := h.siz; omega), p3 := rp hi h.p3, p4 := rp hi h.p4, p5 := rp hi h.p5, p6 := rp hi h.p6, p7 := rp hi h.p7, p8 := rp hi h.p8, p9 := rp hi h.p9, p10 := rp hi h.p10, p11 := rp hi h.p11 }⟩
                  · have hi : 3 < d.size := by omega
                    have q12 := h.k12
                    refine wpOp_plain rfl rfl ?_
                    go_simp
                    exact ⟨_, rfl, { bel := h.bel, siz := (by simpa using h.siz), kp := rk h.kp, k2 := rs h.k2, k6 := rs h.k6, k12 := rs h.k12, k15 := rs h.k15, p0 := rp hi h.p0, p1 := rp hi h.p1, p2 := rp hi h.p2, p3 := fun _ => set_same (by have := h.siz; omega), p4 := rp hi h.p4, p5 := rp hi h.p5, p6 := rp hi h.p6, p7 := rp hi h.p7, p8 := rp hi h.p8, p9 := rp hi h.p9, p10 := rp hi h.p10, p11 := rp hi h.p11 }⟩
                  · have hi : 4 < d.size := by omega
                    have e2 := h.p2 (hpre _ rfl ⟨2, .data⟩ (by simp) rfl)
                    have e3 := h.p3 (hpre _ rfl ⟨3, .data⟩ (by simp) rfl)
                    have hx1 : (i : Int) < (n : Int) := by omega
                    refine wpOp_plain rfl rfl ?_
                    go_simp
                    exact ⟨_, rfl, { bel := h.bel, siz := (by simpa using h.siz), kp := rk h.kp, k2 := rs h.k2, k6 := rs h.k6, k12 := rs h.k12, k15 := rs h.k15, p0 := rp hi h.p0, p1 := rp hi h.p1, p2 := rp hi h.p2, p3 := rp hi h.p3, p4 := fun _ => set_same (by have := h.siz; omega), p5 := rp hi h.p5, p6 := rp hi h.p6, p7 := rp hi h.p7, p8 := rp hi h.p8, p9 := rp hi h.p9, p10 := rp hi h.p10, p11 := rp hi h.p11 }⟩
                  · have hi : 5 < d.size := by omega
                    have e4 := h.p4 (hpre _ rfl ⟨4, .data⟩ (by simp) rfl)
                    refine wpOp_plain rfl rfl ?_
                    go_simp
                    exact ⟨_, rfl, { bel := h.bel, siz := (by simpa using h.siz), kp := rk h.kp, k2 := rs h.k2, k6 := rs h.k6, k12 := rs h.k12, k15 := rs h.k15, p0 := rp hi h.p0, p1 := rp hi h.p1, p2 := rp hi h.p2, p3 := rp hi h.p3, p4 := rp hi h.p4, p5 := fun _ => set_same (by have := h.siz; omega), p6 := rp hi h.p6, p7 := rp hi h.p7, p8 := rp hi h.p8, p9 := rp hi h.p9, p10 := rp hi h.p10, p11 := rp hi h.p11 }⟩
                  · have hi : 6 < d.size := by omega
                    have e5 := h.p5 (hpre _ rfl ⟨5, .data⟩ (by simp) rfl)
                    obtain ⟨k0, k1, k2, k3, k4, k5, k6, k7, k8⟩ := CL.out wc (HBY.out.trans (h.bel.mono HBY.out.size))
                    refine wpOp_plain rfl rfl ?_
                    go_simp
                    exact ⟨_, rfl, { bel := h.bel, siz := (by simpa using h.siz), kp := rk h.kp, k2 := rs h.k2, k6 := rs h.k6, k12 := rs h.k12, k15 := rs h.k15, p0 := rp hi h.p0, p1 := rp hi h.p1, p2 := rp hi h.p2, p3 := rp hi h.p3, p4 := rp hi h.p4, p5 := rp hi h.p5, p6 := fun _ => set_same (by have := h.siz; omega), p7 := rp hi h.p7, p8 := rp hi h.p8, p9 := rp hi h.p9, p10 := rp hi h.p10, p11 := rp hi h.p11 }⟩
                  · have hi : 7 < d.size := by omega
                    have q15 := h.k15
                    refine wpOp_plain rfl rfl ?_
                    go_simp
                    exact ⟨_, rfl, { bel := h.bel, siz := (by simpa using h.siz), kp := rk h.kp, k2 := rs h.k2, k6 := rs h.k6, k12 := rs h.k12, k15 := rs h.k15, p0 := rp hi h.p0, p1 := rp hi h.p1, p2 := rp hi h.p2, p3 := rp hi h.p3, p4 := rp hi h.p4, p5 := rp hi h.p5, p6 := rp hi h.p6, p7 := fun _ => set_same (by have := h.siz; omega), p8 := rp hi h.p8, p9 := rp hi h.p9, p10 := rp hi h.p10, p11 := rp hi h.p11 }⟩
                  · have hi : 8 < d.size := by omega
                    have e6 := h.p6 (hpre _ rfl ⟨6, .data⟩ (by simp) rfl)
                    have e7 := h.p7 (hpre _ rfl ⟨7, .data⟩ (by simp) rfl)
                    have hx1 : (k : Int) < (nf : Int) := by omega
                    refine wpOp_plain rfl rfl ?_
                    go_simp
                    exact ⟨_, rfl, { bel := h.bel, siz := (by simpa using h.siz), kp := rk h.kp, k2 := rs h.k2, k6 := rs h.k6, k12 := rs h.k12, k15 := rs h.k15, p0 := rp hi h.p0, p1 := rp hi h.p1, p2 := rp hi h.p2, p3 := rp hi h.p3, p4 := rp hi h.p4, p5 := rp hi h.p5, p6 := rp hi h.p6, p7 := rp hi h.p7, p8 := fun _ => set_same (by have := h.siz; omega), p9 := rp hi h.p9, p10 := rp hi h.p10, p11 := rp hi h.p11 }⟩
                  · have hi : 9 < d.size := by omega
                    have e8 := h.p8 (hpre _ rfl ⟨8, .data⟩ (by simp) rfl)
                    obtain ⟨k0, k1, k2, k3, k4, k5, k6, k7, k8⟩ := CL.out wc (HBY.out.trans (h.bel.mono HBY.out.size))
                    refine wpOp_plain rfl rfl ?_
                    go_simp
                    exact ⟨_, rfl, { bel := h.bel, siz := (by simpa using h.siz), kp := rk h.kp, k2 := rs h.k2, k6 := rs h.k6, k12 := rs h.k12, k15 := rs h.k15, p0 := rp hi h.p0, p1 := rp hi h.p1, p2 := rp hi h.p2, p3 := rp hi h.p3, p4 := rp hi h.p4, p5 := rp hi h.p5, p6 := rp hi h.p6, p7 := rp hi h.p7, p8 := rp hi h.p8, p9 := fun _ => set_same (by have := h.siz; omega), p10 := rp hi h.p10, p11 := rp hi h.p11 }⟩
                  · have hi : 10 < d.size := by omega
                    have e1 := h.p1 (hpre _ rfl ⟨1, .data⟩ (by simp) rfl)
                    have e9 := h.p9 (hpre _ rfl ⟨9, .data⟩ (by simp) rfl)
                    refine wpOp_plain rfl rfl ?_
                    go_simp
                    refine (HCF.out wc (HBY.out.trans (h.bel.mono HBY.out.size))).mono ?_
                    rintro e1 w1 ⟨rfl, hb⟩
                    exact ⟨_, rfl, { bel := h.bel.trans (hb.mono h.bel.size), siz := (by simpa using h.siz), kp := rk h.kp, k2 := rs h.k2, k6 := rs h.k6, k12 := rs h.k12, k15 := rs h.k15, p0 := rp hi h.p0, p1 := rp hi h.p1, p2 := rp hi h.p2, p3 := rp hi h.p3, p4 := rp hi h.p4, p5 := rp hi h.p5, p6 := rp hi h.p6, p7 := rp hi h.p7, p8 := rp hi h.p8, p9 := rp hi h.p9, p10 := fun _ => set_same (by have := h.siz; omega), p11 := rp hi h.p11 }⟩
                  · have hi : 11 < d.size := by omega
                    have e10 := h.p10 (hpre _ rfl ⟨10, .data⟩ (by simp) rfl)
                    refine wpOp_plain rfl rfl ?_
                    go_simp
                    exact ⟨_, rfl, { bel := h.bel, siz := (by simpa using h.siz), kp := rk h.kp, k2 := rs h.k2, k6 := rs h.k6, k12 := rs h.k12, k15 := rs h.k15, p0 := rp hi h.p0, p1 := rp hi h.p1, p2 := rp hi h.p2, p3 := rp hi h.p3, p4 := rp hi h.p4, p5 := rp hi h.p5, p6 := rp hi h.p6, p7 := rp hi h.p7, p8 := rp hi h.p8, p9 := rp hi h.p9, p10 := rp hi h.p10, p11 := fun _ => set_same (by have := h.siz; omega) }⟩
                case genda =>
                  intro d a wc hd hI hall
                  obtain ⟨t, rfl, h⟩ := hI
                  have hdn : ∀ j, j < 12 → dn d j := fun j hj => dn_all hd hall hj
                  have hd : ∀ j, (_ : j < 12 := by decide) → dn d j := fun j hj => hdn j hj
                  have hfe := frame_eq [(113, _), (114, _), (115, _), (116, _), (117, _), (118, _), (119, _), (120, _), (121, _), (122, _), (123, _), (124, _)] (h.siz.trans rfl) h.kp rfl ⟨h.p0 (hd 0), h.p1 (hd 1), h.p2 (hd 2), h.p3 (hd 3), h.p4 (hd 4), h.p5 (hd 5), h.p6 (hd 6), h.p7 (hd 7), h.p8 (hd 8), h.p9 (hd 9), h.p10 (hd 10), h.p11 (hd 11), trivial⟩
                  simp only [List.foldl_cons, List.foldl_nil, List.setIfInBounds_toArray, List.set_cons_succ, List.set_cons_zero] at hfe
                  have hbc := h.bel
                  subst hfe
                  clear h hdn hd hall
                  replace HBY := Lib.hid (HBY.out.trans (hbc.mono HBY.out.size))
                  clear hbc
                  rename World => wy
                  go_upto_region 20 with fail
                  refine wp_region_inv2T (fun T0 => CpbI T0 wy (.agg #[.slice A0 x.entries.length c0, .slice A1 x.endings.length c1, .slice A2 x.clitics.length c2]) w.heap.size ba oa n Ka i bf of_ nf cfa k y0 ts sd) (by kernel_rfl) (by kernel_rfl) ?g0b ?gstepb ?gendb
                  case g0b =>
                    have hno : ∀ j, ¬ dn (Array.replicate 14 false) j := by
                      intro j; unfold dn; by_cases hj : j < 14 <;> simp [Array.getD, hj]
                    have na : ∀ {j : Nat} {Z : Prop}, dn (Array.replicate 14 false) j → Z := fun hj => absurd hj (hno _)
                    exact ⟨_, rfl, { bel := (Below.refl _ _).drew, siz := rfl, kp := fun _ _ => rfl, k2 := rfl, k6 := rfl, k12 := rfl, k15 := rfl, p0 := na, p1 := na, p2 := na, p3 := na, p4 := na, p5 := na, p6 := na, p7 := na, p8 := na, p9 := na, p10 := na, p11 := na, p12 := na, p13 := na, kk := fun _ => rfl, l12 := fun hj => absurd hj (hno _) }⟩
                  case gstepb =>
                    intro T0 d a wc i hd hI hi
                    obtain ⟨hlt, hnd, hpre⟩ := mem_ready hi
                    have hd' : d.size = 14 := hd
                    have hin : i < 14 := hlt
                    clear hi hd hlt
                    obtain ⟨t, rfl, h⟩ := hI
                    have hcs : i = 0 ∨ i = 1 ∨ i = 2 ∨ i = 3 ∨ i = 4 ∨ i = 5 ∨ i = 6 ∨ i = 7 ∨ i = 8 ∨ i = 9 ∨ i = 10 ∨ i = 11 ∨ i = 12 ∨ i = 13 := by omega
                    rcases hcs with rfl | rfl | rfl | rfl | rfl | rfl | rfl | rfl | rfl | rfl | rfl | rfl | rfl | rfl
                    · have hi : 0 < d.size := by omega
                      have hnd' := not_dn hi hnd
                      have q13 := h.kk hnd'
                      refine wpOp_plain rfl rfl ?_
                      go_simp
                      exact ⟨_, rfl, { bel := h.bel, siz := (by simpa using h.siz), kp := rk h.kp, k2 := rs h.k2, k6 := rs h.k6, k12 := rs h.k12, k15 := rs h.k15, kk := fun hk => absurd (dn_self hi) hk, l12 := fun hj => dn_up (h.l12 (dn_of hi hj (by decide))), p0 := fun _ => set_same (by have := h.siz; omega), p1 := rp hi h.p1, p2 := rp hi h.p2, p3 := rp hi h.p3, p4 := rp hi h.p4, p5 := rp hi h.p5, p6 := rp hi h.p6, p7 := rp hi h.p7, p8 := rp hi h.p8, p9 := rp hi h.p9, p10 := rp hi h.p10, p11 := rp hi h.p11, p12 := rp hi h.p12, p13 := rp hi h.p13 }⟩
                    · have hi : 1 < d.size := by omega
                      have q2 := h.k2
                      refine wpOp_plain rfl rfl ?_
                      go_simp
                      exact ⟨_, rfl, { bel := h.bel, siz := (by simpa using h.siz), kp := rk h.kp, k2 := rs h.k2, k6 := rs h.k6, k12 := rs h.k12, k15 := rs h.k15, kk := fun hk => (set_other (by decide)).trans (h.kk (fun q => hk (dn_up q))), l12 := fun hj => dn_up (h.l12 (dn_of hi hj (by decide))), p0 := rp hi h.p0, p1 := fun _ => set_same (by have := h.siz; omega), p2 := rp hi h.p2, p3 := rp hi h.p3, p4 := rp hi h.p4, p5 := rp hi h.p5, p6 := rp hi h.p6, p7 := rp hi h.p7, p8 := rp hi h.p8, p9 := rp hi h.p9, p10 := rp hi h.p10, p11 := rp hi h.p11, p12 := rp hi h.p12, p13 := rp hi h.p13 }⟩
                    · have hi : 2 < d.size := by omega
                      have e1 := h.p1 (hpre _ rfl ⟨1, .data⟩ (by simp) rfl)
                      obtain ⟨k0, k1, k2, k3, k4, k5, k6, k7, k8⟩ := CL.out wc (HBY.out.trans (h.bel.mono HBY.out.size))
                      refine wpOp_plain rfl rfl ?_
                      go_simp
                      exact ⟨_, rfl, { bel := h.bel, siz := (by simpa using h.siz), kp := rk h.kp, k2 := rs h.k2, k6 := rs h.k6, k12 := rs h.k12, k15 := rs h.k15, kk := fun hk => (set_other (by decide)).trans (h.kk (fun q => hk (dn_up q))), l12 := fun hj => dn_up (h.l12 (dn_of hi hj (by decide))), p0 := rp hi h.p0, p1 := rp hi h.p1, p2 := fun _ => set_same (by have := h.siz; omega), p3 := rp hi h.p3, p4 := rp hi h.p4, p5 := rp hi h.p5, p6 := rp hi h.p6, p7 := rp hi h.p7, p8 := rp hi h.p8, p9 := rp hi h.p9, p10 := rp hi h.p10, p11 := rp hi h.p11, p12 := rp hi h.p12, p13 := rp hi h.p13 }⟩
                    · have hi : 3 < d.size := by omega
                      have q6 := h.k6
                      refine wpOp_plain rfl rfl ?_
                      go_simp
                      exact ⟨_, rfl, { bel := h.bel, siz := (by simpa using h.siz), kp := rk h.kp, k2 := rs h.k2, k6 := rs h.k6, k12 := rs h.k12, k15 := rs h.k15, kk := fun hk => (set_other (by decide)).trans (h.kk (fun q => hk (dn_up q))), l12 := fun hj => dn_up (h.l12 (dn_of hi hj (by decide))), p0 := rp hi h.p0, p1 := rp hi h.p1, p2 := rp hi h.p2, p3 := fun _ => set_same (by have := h.siz; omega), p4 := rp hi h.p4, p5 := rp hi h.p5, p6 := rp hi h.p6, p7 := rp hi h.p7, p8 := rp hi h.p8, p9 := rp hi h.p9, p10 := rp hi h.p10, p11 := rp hi h.p11, p12 := rp hi h.p12, p13 := rp hi h.p13 }⟩
                    · have hi : 4 < d.size := by omega
                      have q12 := h.k12
                      refine wpOp_plain rfl rfl ?_
                      go_simp
                      exact ⟨_, rfl, { bel := h.bel, siz := (by simpa using h.siz), kp := rk h.kp, k2 := rs h.k2, k6 := rs h.k6, k12 := rs h.k12, k15 := rs h.k15, kk := fun hk => (set_other (by decide)).trans (h.kk (fun q => hk (dn_up q))), l12 := fun hj => dn_up (h.l12 (dn_of hi hj (by decide))), p0 := rp hi h.p0, p1 := rp hi h.p1, p2 := rp hi h.p2, p3 := rp hi h.p3, p4 := fun _ => set_same (by have := h.siz; omega), p5 := rp hi h.p5, p6 := rp hi h.p6, p7 := rp hi h.p7, p8 := rp hi h.p8, p9 := rp hi h.p9, p10 := rp hi h.p10, p11 := rp hi h.p11, p12 := rp hi h.p12, p13 := rp hi h.p13 }⟩
                    · have hi : 5 < d.size := by omega
                      have e3 := h.p3 (hpre _ rfl ⟨3, .data⟩ (by simp) rfl)
                      have e4 := h.p4 (hpre _ rfl ⟨4, .data⟩ (by simp) rfl)
                      have hx1 : (i : Int) < (n : Int) := by omega
                      refine wpOp_plain rfl rfl ?_
                      go_simp
                      exact ⟨_, rfl, { bel := h.bel, siz := (by simpa using h.siz), kp := rk h.kp, k2 := rs h.k2, k6 := rs h.k6, k12 := rs h.k12, k15 := rs h.k15, kk := fun hk => (set_other (by decide)).trans (h.kk (fun q => hk (dn_up q))), l12 := fun hj => dn_up (h.l12 (dn_of hi hj (by decide))), p0 := rp hi h.p0, p1 := rp hi h.p1, p2 := rp hi h.p2, p3 := rp hi h.p3, p4 := rp hi h.p4, p5 := fun _ => set_same (by have := h.siz; omega), p6 := rp hi h.p6, p7 := rp hi h.p7, p8 := rp hi h.p8, p9 := rp hi h.p9, p10 := rp hi h.p10, p11 := rp hi h.p11, p12 := rp hi h.p12, p13 := rp hi h.p13 }⟩
                    · have hi : 6 < d.size := by omega
                      have e5 := h.p5 (hpre _ rfl ⟨5, .data⟩ (by simp) rfl)
                      refine wpOp_plain rfl rfl ?_
                      go_simp
                      exact ⟨_, rfl, { bel := h.bel, siz := (by simpa using h.siz), kp := rk h.kp, k2 := rs h.k2, k6 := rs h.k6, k12 := rs h.k12, k15 := rs h.k15, kk := fun hk => (set_other (by decide)).trans (h.kk (fun q => hk (dn_up q))), l12 := fun hj => dn_up (h.l12 (dn_of hi hj (by decide))), p0 := rp hi h.p0, p1 := rp hi h.p1, p2 := rp hi h.p2, p3 := rp hi h.p3, p4 := rp hi h.p4, p5 := rp hi h.p5, p6 := fun _ => set_same (by have := h.siz; omega), p7 := rp hi h.p7, p8 := rp hi h.p8, p9 := rp hi h.p9, p10 := rp hi h.p10, p11 := rp hi h.p11, p12 := rp hi h.p12, p13 := rp hi h.p13 }⟩
                    · have hi : 7 < d.size := by omega
                      have e6 := h.p6 (hpre _ rfl ⟨6, .data⟩ (by simp) rfl)
                      obtain ⟨k0, k1, k2, k3, k4, k5, k6, k7, k8⟩ := CL.out wc (HBY.out.trans (h.bel.mono HBY.out.size))
                      refine wpOp_plain rfl rfl ?_
                      go_simp
                      exact ⟨_, rfl, { bel := h.bel, siz := (by simpa using h.siz), kp := rk h.kp, k2 := rs h.k2, k6 := rs h.k6, k12 := rs h.k12, k15 := rs h.k15, kk := fun hk => (set_other (by decide)).trans (h.kk (fun q => hk (dn_up q))), l12 := fun hj => dn_up (h.l12 (dn_of hi hj (by decide))), p0 := rp hi h.p0, p1 := rp hi h.p1, p2 := rp hi h.p2, p3 := rp hi h.p3, p4 := rp hi h.p4, p5 := rp hi h.p5, p6 := rp hi h.p6, p7 := fun _ => set_same (by have := h.siz; omega), p8 := rp hi h.p8, p9 := rp hi h.p9, p10 := rp hi h.p10, p11 := rp hi h.p11, p12 := rp hi h.p12, p13 := rp hi h.p13 }⟩
                    · have hi : 8 < d.size := by omega
                      have q15 := h.k15
                      refine wpOp_plain rfl rfl ?_
                      go_simp
                      exact ⟨_, rfl, { bel := h.bel, siz := (by simpa using h.siz), kp := rk h.kp, k2 := rs h.k2, k6 := rs h.k6, k12 := rs h.k12, k15 := rs h.k15, kk := fun hk => (set_other (by decide)).trans (h.kk (fun q => hk (dn_up q))), l12 := fun hj => dn_up (h.l12 (dn_of hi hj (by decide))), p0 := rp hi h.p0, p1 := rp hi h.p1, p2 := rp hi h.p2, p3 := rp hi h.p3, p4 := rp hi h.p4, p5 := rp hi h.p5, p6 := rp hi h.p6, p7 := rp hi h.p7, p8 := fun _ => set_same (by have := h.siz; omega), p9 := rp hi h.p9, p10 := rp hi h.p10, p11 := rp hi h.p11, p12 := rp hi h.p12, p13 := rp hi h.p13 }⟩
                    · have hi : 9 < d.size := by omega
                      have e7 := h.p7 (hpre _ rfl ⟨7, .data⟩ (by simp) rfl)
                      have e8 := h.p8 (hpre _ rfl ⟨8, .data⟩ (by simp) rfl)
                      have hx1 : (k : Int) < (nf : Int) := by omega
                      refine wpOp_plain rfl rfl ?_
                      go_simp
                      exact ⟨_, rfl, { bel := h.bel, siz := (by simpa using h.siz), kp := rk h.kp, k2 := rs h.k2, k6 := rs h.k6, k12 := rs h.k12, k15 := rs h.k15, kk := fun hk => (set_other (by decide)).trans (h.kk (fun q => hk (dn_up q))), l12 := fun hj => dn_up (h.l12 (dn_of hi hj (by decide))), p0 := rp hi h.p0, p1 := rp hi h.p1, p2 := rp hi h.p2, p3 := rp hi h.p3, p4 := rp hi h.p4, p5 := rp hi h.p5, p6 := rp hi h.p6, p7 := rp hi h.p7, p8 := rp hi h.p8, p9 := fun _ => set_same (by have := h.siz; omega), p10 := rp hi h.p10, p11 := rp hi h.p11, p12 := rp hi h.p12, p13 := rp hi h.p13 }⟩
                    · have hi : 10 < d.size := by omega
                      have e9 := h.p9 (hpre _ rfl ⟨9, .data⟩ (by simp) rfl)
                      obtain ⟨k0, k1, k2, k3, k4, k5, k6, k7, k8⟩ := CL.out wc (HBY.out.trans (h.bel.mono HBY.out.size))
                      refine wpOp_plain rfl rfl ?_
                      go_simp
                      exact ⟨_, rfl, { bel := h.bel, siz := (by simpa using h.siz), kp := rk h.kp, k2 := rs h.k2, k6 := rs h.k6, k12 := rs h.k12, k15 := rs h.k15, kk := fun hk => (set_other (by decide)).trans (h.kk (fun q => hk (dn_up q))), l12 := fun hj => dn_up (h.l12 (dn_of hi hj (by decide))), p0 := rp hi h.p0, p1 := rp hi h.p1, p2 := rp hi h.p2, p3 := rp hi h.p3, p4 := rp hi h.p4, p5 := rp hi h.p5, p6 := rp hi h.p6, p7 := rp hi h.p7, p8 := rp hi h.p8, p9 := rp hi h.p9, p10 := fun _ => set_same (by have := h.siz; omega), p11 := rp hi h.p11, p12 := rp hi h.p12, p13 := rp hi h.p13 }⟩
                    · have hi : 11 < d.size := by omega
                      have e2 := h.p2 (hpre _ rfl ⟨2, .data⟩ (by simp) rfl)
                      have e10 := h.p10 (hpre _ rfl ⟨10, .data⟩ (by simp) rfl)
                      refine wpOp_plain rfl rfl ?_
                      go_simp
                      refine (HSD.out wc (HBY.out.trans (h.bel.mono HBY.out.size))).mono ?_
                      rintro e1 w1 ⟨rfl, hb⟩
                      exact ⟨_, rfl, { bel := h.bel.trans (hb.mono h.bel.size), siz := (by simpa using h.siz), kp := rk h.kp, k2 := rs h.k2, k6 := rs h.k6, k12 := rs h.k12, k15 := rs h.k15, kk := fun hk => (set_other (by decide)).trans (h.kk (fun q => hk (dn_up q))), l12 := fun hj => dn_up (h.l12 (dn_of hi hj (by decide))), p0 := rp hi h.p0, p1 := rp hi h.p1, p2 := rp hi h.p2, p3 := rp hi h.p3, p4 := rp hi h.p4, p5 := rp hi h.p5, p6 := rp hi h.p6, p7 := rp hi h.p7, p8 := rp hi h.p8, p9 := rp hi h.p9, p10 := rp hi h.p10, p11 := fun _ => set_same (by have := h.siz; omega), p12 := rp hi h.p12, p13 := rp hi h.p13 }⟩
                    · have hi : 12 < d.size := by omega
                      have d0 : dn d 0 := hpre _ rfl ⟨0, .data⟩ (by simp) rfl
                      have d11 : dn d 11 := hpre _ rfl ⟨11, .data⟩ (by simp) rfl
                      have e0 := h.p0 d0
                      have e11 := h.p11 d11
                      have hss : ¬ 9223372036854775807 < ts.size + sd.size := by omega
                      refine wpOp_plain rfl rfl ?_
                      go_simp
                      exact ⟨_, rfl, { bel := h.bel, siz := (by simpa using h.siz), kp := rk h.kp, k2 := rs h.k2, k6 := rs h.k6, k12 := rs h.k12, k15 := rs h.k15, kk := fun hk => (set_other (by decide)).trans (h.kk (fun q => hk (dn_up q))), l12 := fun _ => dn_up d0, p0 := rp hi h.p0, p1 := rp hi h.p1, p2 := rp hi h.p2, p3 := rp hi h.p3, p4 := rp hi h.p4, p5 := rp hi h.p5, p6 := rp hi h.p6, p7 := rp hi h.p7, p8 := rp hi h.p8, p9 := rp hi h.p9, p10 := rp hi h.p10, p11 := rp hi h.p11, p12 := fun _ => set_same (by have := h.siz; omega), p13 := rp hi h.p13 }⟩
                    · have hi : 13 < d.size := by omega
                      have d12 : dn d 12 := hpre _ rfl ⟨12, .data⟩ (by simp) rfl
                      have e12 := h.p12 d12
                      refine wpOp_plain rfl rfl ?_
                      go_simp
                      exact ⟨_, rfl, { bel := h.bel, siz := (by simpa using h.siz), kp := rk h.kp, k2 := rs h.k2, k6 := rs h.k6, k12 := rs h.k12, k15 := rs h.k15, kk := fun hk => absurd (dn_up (h.l12 d12)) hk, l12 := fun hj => dn_up (h.l12 (dn_of hi hj (by decide))), p0 := rp hi h.p0, p1 := rp hi h.p1, p2 := rp hi h.p2, p3 := rp hi h.p3, p4 := rp hi h.p4, p5 := rp hi h.p5, p6 := rp hi h.p6, p7 := rp hi h.p7, p8 := rp hi h.p8, p9 := rp hi h.p9, p10 := rp hi h.p10, p11 := rp hi h.p11, p12 := rp hi h.p12, p13 := fun _ => set_same (by have := h.siz; omega) }⟩
                  case gendb =>
                    intro d a wc hd hI hall
                    obtain ⟨t, rfl, h⟩ := hI
                    have hdn : ∀ j, j < 14 → dn d j := fun j hj => dn_all hd hall hj
                    have hd : ∀ j, (_ : j < 14 := by decide) → dn d j := fun j hj => hdn j hj
                    have hfe := frame_eq [(13, _), (125, _), (126, _), (127, _), (128, _), (129, _), (130, _), (131, _), (132, _), (133, _), (134, _), (135, _), (136, _), (137, _)] (h.siz.trans rfl) h.kp rfl ⟨h.p13 (hd 13), h.p0 (hd 0), h.p1 (hd 1), h.p2 (hd 2), h.p3 (hd 3), h.p4 (hd 4), h.p5 (hd 5), h.p6 (hd 6), h.p7 (hd 7), h.p8 (hd 8), h.p9 (hd 9), h.p10 (hd 10), h.p11 (hd 11), h.p12 (hd 12), trivial⟩
                    simp only [List.foldl_cons, List.foldl_nil, List.setIfInBounds_toArray, List.set_cons_succ, List.set_cons_zero] at hfe
                    have hbc := h.bel
                    subst hfe
                    clear h hdn hd hall
                    replace HBY := Lib.hid (HBY.out.trans (hbc.mono HBY.out.size))
                    clear hbc
                    rename World => wy
                    go_upto_region 21 with fail
                    refine wp_region_inv2T (fun T0 => CpcI T0 wy (.agg #[.slice A0 x.entries.length c0, .slice A1 x.endings.length c1, .slice A2 x.clitics.length c2]) w.heap.size ba oa n Ka i bf of_ nf cfa k y0 ws hv) (by kernel_rfl) (by kernel_rfl) ?g0c ?gstepc ?gendc
                    case g0c =>
                      have hno : ∀ j, ¬ dn (Array.replicate 14 false) j := by
                        intro j; unfold dn; by_cases hj : j < 14 <;> simp [Array.getD, hj]
                      have na : ∀ {j : Nat} {Z : Prop}, dn (Array.replicate 14 false) j → Z := fun hj => absurd hj (hno _)
                      exact ⟨_, rfl, { bel := (Below.refl _ _).drew, siz := rfl, kp := fun _ _ => rfl, k2 := rfl, k6 := rfl, k12 := rfl, k15 := rfl, p0 := na, p1 := na, p2 := na, p3 := na, p4 := na, p5 := na, p6 := na, p7 := na, p8 := na, p9 := na, p10 := na, p11 := na, p12 := na, p13 := na, kk := fun _ => rfl, l12 := fun hj => absurd hj (hno _) }⟩
                    case gstepc =>
                      intro T0 d a wc i hd hI hi
                      obtain ⟨hlt, hnd, hpre⟩ := mem_ready hi
                      have hd' : d.size = 14 := hd
                      have hin : i < 14 := hlt
                      clear hi hd hlt
                      obtain ⟨t, rfl, h⟩ := hI
                      have hcs : i = 0 ∨ i = 1 ∨ i = 2 ∨ i = 3 ∨ i = 4 ∨ i = 5 ∨ i = 6 ∨ i = 7 ∨ i = 8 ∨ i = 9 ∨ i = 10 ∨ i = 11 ∨ i = 12 ∨ i = 13 := by omega
                      rcases hcs with rfl | rfl | rfl | rfl | rfl | rfl | rfl | rfl | rfl | rfl | rfl | rfl | rfl | rfl
                      · have hi : 0 < d.size := by omega
                        have hnd' := not_dn hi hnd
                        have q13 := h.kk hnd'
                        refine wpOp_plain rfl rfl ?_
                        go_simp
                        exact ⟨_, rfl, { bel := h.bel, siz := (by simpa using h.siz), kp := rk h.kp, k2 := rs h.k2, k6 := rs h.k6, k12 := rs h.k12, k15 := rs h.k15, kk := fun hk => absurd (dn_self hi) hk, l12 := fun hj => dn_up (h.l12 (dn_of hi hj (by decide))), p0 := fun _ => set_same (by have := h.siz; omega), p1 := rp hi h.p1, p2 := rp hi h.p2, p3 := rp hi h.p3, p4 := rp hi h.p4, p5 := rp hi h.p5, p6 := rp hi h.p6, p7 := rp hi h.p7, p8 := rp hi h.p8, p9 := rp hi h.p9, p10 := rp hi h.p10, p11 := rp hi h.p11, p12 := rp hi h.p12, p13 := rp hi h.p13 }⟩
                      · have hi : 1 < d.size := by omega
                        have q2 := h.k2
                        refine wpOp_plain rfl rfl ?_
                        go_simp
                        exact ⟨_, rfl, { bel := h.bel, siz := (by simpa using h.siz), kp := rk h.kp, k2 := rs h.k2, k6 := rs h.k6, k12 := rs h.k12, k15 := rs h.k15, kk := fun hk => (set_other (by decide)).trans (h.kk (fun q => hk (dn_up q))), l12 := fun hj => dn_up (h.l12 (dn_of hi hj (by decide))), p0 := rp hi h.p0, p1 := fun _ => set_same (by have := h.siz; omega), p2 := rp hi h.p2, p3 := rp hi h.p3, p4 := rp hi h.p4, p5 := rp hi h.p5, p6 := rp hi h.p6, p7 := rp hi h.p7, p8 := rp hi h.p8, p9 := rp hi h.p9, p10 := rp hi h.p10, p11 := rp hi h.p11, p12 := rp hi h.p12, p13 := rp hi h.p13 }⟩
                      · have hi : 2 < d.size := by omega
                        have e1 := h.p1 (hpre _ rfl ⟨1, .data⟩ (by simp) rfl)
                        obtain ⟨k0, k1, k2, k3, k4, k5, k6, k7, k8⟩ := CL.out wc (HBY.out.trans (h.bel.mono HBY.out.size))
                        refine wpOp_plain rfl rfl ?_
                        go_simp
                        exact ⟨_, rfl, { bel := h.bel, siz := (by simpa using h.siz), kp := rk h.kp, k2 := rs h.k2, k6 := rs h.k6, k12 := rs h.k12, k15 := rs h.k15, kk := fun hk => (set_other (by decide)).trans (h.kk (fun q => hk (dn_up q))), l12 := fun hj => dn_up (h.l12 (dn_of hi hj (by decide))), p0 := rp hi h.p0, p1 := rp hi h.p1, p2 := fun _ => set_same (by have := h.siz; omega), p3 := rp hi h.p3, p4 := rp hi h.p4, p5 := rp hi h.p5, p6 := rp hi h.p6, p7 := rp hi h.p7, p8 := rp hi h.p8, p9 := rp hi h.p9, p10 := rp hi h.p10, p11 := rp hi h.p11, p12 := rp hi h.p12, p13 := rp hi h.p13 }⟩
                      · have hi : 3 < d.size := by omega
                        have q6 := h.k6
                        refine wpOp_plain rfl rfl ?_
                        go_simp
                        exact ⟨_, rfl, { bel := h.bel, siz := (by simpa using h.siz), kp := rk h.kp, k2 := rs h.k2, k6 := rs h.k6, k12 := rs h.k12, k15 := rs h.k15, kk := fun hk => (set_other (by decide)).trans (h.kk (fun q => hk (dn_up q))), l12 := fun hj => dn_up (h.l12 (dn_of hi hj (by decide))), p0 := rp hi h.p0, p1 := rp hi h.p1, p2 := rp hi h.p2, p3 := fun _ => set_same (by have := h.siz; omega), p4 := rp hi h.p4, p5 := rp hi h.p5, p6 := rp hi h.p6, p7 := rp hi h.p7, p8 := rp hi h.p8, p9 := rp hi h.p9, p10 := rp hi h.p10, p11 := rp hi h.p11, p12 := rp hi h.p12, p13 := rp hi h.p13 }⟩
                      · have hi : 4 < d.size := by omega
                        have q12 := h.k12
                        refine wpOp_plain rfl rfl ?_
                        go_simp
                        exact ⟨_, rfl, { bel := h.bel, siz := (by simpa using h.siz), kp := rk h.kp, k2 := rs h.k2, k6 := rs h.k6, k12 := rs h.k12, k15 := rs h.k15, kk := fun hk => (set_other (by decide)).trans (h.kk (fun q => hk (dn_up q))), l12 := fun hj => dn_up (h.l12 (dn_of hi hj (by decide))), p0 := rp hi h.p0, p1 := rp hi h.p1, p2 := rp hi h.p2, p3 := rp hi h.p3, p4 := fun _ => set_same (by have := h.siz; omega), p5 := rp hi h.p5, p6 := rp hi h.p6, p7 := rp hi h.p7, p8 := rp hi h.p8, p9 := rp hi h.p9, p10 := rp hi h.p10, p11 := rp hi h.p11, p12 := rp hi h.p12, p13 := rp hi h.p13 }⟩
                      · have hi : 5 < d.size := by omega
                        have e3 := h.p3 (hpre _ rfl ⟨3, .data⟩ (by simp) rfl)
                        have e4 := h.p4 (hpre _ rfl ⟨4, .data⟩ (by simp) rfl)
                        have hx1 : (i : Int) < (n : Int) := by omega
                        refine wpOp_plain rfl rfl ?_
                        go_simp
                        exact ⟨_, rfl, { bel := h.bel, siz := (by simpa using h.siz), kp := rk h.kp, k2 := rs h.k2, k6 := rs h.k6, k12 := rs h.k12, k15 := rs h.k15, kk := fun hk => (set_other (by decide)).trans (h.kk (fun q => hk (dn_up q))), l12 := fun hj => dn_up (h.l12 (dn_of hi hj (by decide))), p0 := rp hi h.p0, p1 := rp hi h.p1, p2 := rp hi h.p2, p3 := rp hi h.p3, p4 := rp hi h.p4, p5 := fun _ => set_same (by have := h.siz; omega), p6 := rp hi h.p6, p7 := rp hi h.p7, p8 := rp hi h.p8, p9 := rp hi h.p9, p10 := rp hi h.p10, p11 := rp hi h.p11, p12 := rp hi h.p12, p13 := rp hi h.p13 }⟩
                      · have hi : 6 < d.size := by omega
                        have e5 := h.p5 (hpre _ rfl ⟨5, .data⟩ (by simp) rfl)
                        refine wpOp_plain rfl rfl ?_
                        go_simp
                        exact ⟨_, rfl, { bel := h.bel, siz := (by simpa using h.siz), kp := rk h.kp, k2 := rs h.k2, k6 := rs h.k6, k12 := rs h.k12, k15 := rs h.k15, kk := fun hk => (set_other (by decide)).trans (h.kk (fun q => hk (dn_up q))), l12 := fun hj => dn_up (h.l12 (dn_of hi hj (by decide))), p0 := rp hi h.p0, p1 := rp hi h.p1, p2 := rp hi h.p2, p3 := rp hi h.p3, p4 := rp hi h.p4, p5 := rp hi h.p5, p6 := fun _ => set_same (by have := h.siz; omega), p7 := rp hi h.p7, p8 := rp hi h.p8, p9 := rp hi h.p9, p10 := rp hi h.p10, p11 := rp hi h.p11, p12 := rp hi h.p12, p13 := rp hi h.p13 }⟩
                      · have hi : 7 < d.size := by omega
                        have e6 := h.p6 (hpre _ rfl ⟨6, .data⟩ (by simp) rfl)
                        obtain ⟨k0, k1, k2, k3, k4, k5, k6, k7, k8⟩ := CL.out wc (HBY.out.trans (h.bel.mono HBY.out.size))
                        refine wpOp_plain rfl rfl ?_
                        go_simp
                        exact ⟨_, rfl, { bel := h.bel, siz := (by simpa using h.siz), kp := rk h.kp, k2 := rs h.k2, k6 := rs h.k6, k12 := rs h.k12, k15 := rs h.k15, kk := fun hk => (set_other (by decide)).trans (h.kk (fun q => hk (dn_up q))), l12 := fun hj => dn_up (h.l12 (dn_of hi hj (by decide))), p0 := rp hi h.p0, p1 := rp hi h.p1, p2 := rp hi h.p2, p3 := rp hi h.p3, p4 := rp hi h.p4, p5 := rp hi h.p5, p6 := rp hi h.p6, p7 := fun _ => set_same (by have := h.siz; omega), p8 := rp hi h.p8, p9 := rp hi h.p9, p10 := rp hi h.p10, p11 := rp hi h.p11, p12 := rp hi h.p12, p13 := rp hi h.p13 }⟩
                      · have hi : 8 < d.size := by omega
                        have q15 := h.k15
                        refine wpOp_plain rfl rfl ?_
                        go_simp
                        exact ⟨_, rfl, { bel := h.bel, siz := (by simpa using h.siz), kp := rk h.kp, k2 := rs h.k2, k6 := rs h.k6, k12 := rs h.k12, k15 := rs h.k15, kk := fun hk => (set_other (by decide)).trans (h.kk (fun q => hk (dn_up q))), l12 := fun hj => dn_up (h.l12 (dn_of hi hj (by decide))), p0 := rp hi h.p0, p1 := rp hi h.p1, p2 := rp hi h.p2, p3 := rp hi h.p3, p4 := rp hi h.p4, p5 := rp hi h.p5, p6 := rp hi h.p6, p7 := rp hi h.p7, p8 := fun _ => set_same (by have := h.siz; omega), p9 := rp hi h.p9, p10 := rp hi h.p10, p11 := rp hi h.p11, p12 := rp hi h.p12, p13 := rp hi h.p13 }⟩
                      · have hi : 9 < d.size := by omega
                        have e7 := h.p7 (hpre _ rfl ⟨7, .data⟩ (by simp) rfl)
                        have e8 := h.p8 (hpre _ rfl ⟨8, .data⟩ (by simp) rfl)
                        have hx1 : (k : Int) < (nf : Int) := by omega
                        refine wpOp_plain rfl rfl ?_
                        go_simp
                        exact ⟨_, rfl, { bel := h.bel, siz := (by simpa using h.siz), kp := rk h.kp, k2 := rs h.k2, k6 := rs h.k6, k12 := rs h.k12, k15 := rs h.k15, kk := fun hk => (set_other (by decide)).trans (h.kk (fun q => hk (dn_up q))), l12 := fun hj => dn_up (h.l12 (dn_of hi hj (by decide))), p0 := rp hi h.p0, p1 := rp hi h.p1, p2 := rp hi h.p2, p3 := rp hi h.p3, p4 := rp hi h.p4, p5 := rp hi h.p5, p6 := rp hi h.p6, p7 := rp hi h.p7, p8 := rp hi h.p8, p9 := fun _ => set_same (by have := h.siz; omega), p10 := rp hi h.p10, p11 := rp hi h.p11, p12 := rp hi h.p12, p13 := rp hi h.p13 }⟩
                      · have hi : 10 < d.size := by omega
                        have e9 := h.p9 (hpre _ rfl ⟨9, .data⟩ (by simp) rfl)
                        obtain ⟨k0, k1, k2, k3, k4, k5, k6, k7, k8⟩ := CL.out wc (HBY.out.trans (h.bel.mono HBY.out.size))
                        refine wpOp_plain rfl rfl ?_
                        go_simp
                        exact ⟨_, rfl, { bel := h.bel, siz := (by simpa using h.siz), kp := rk h.kp, k2 := rs h.k2, k6 := rs h.k6, k12 := rs h.k12, k15 := rs h.k15, kk := fun hk => (set_other (by decide)).trans (h.kk (fun q => hk (dn_up q))), l12 := fun hj => dn_up (h.l12 (dn_of hi hj (by decide))), p0 := rp hi h.p0, p1 := rp hi h.p1, p2 := rp hi h.p2, p3 := rp hi h.p3, p4 := rp hi h.p4, p5 := rp hi h.p5, p6 := rp hi h.p6, p7 := rp hi h.p7, p8 := rp hi h.p8, p9 := rp hi h.p9, p10 := fun _ => set_same (by have := h.siz; omega), p11 := rp hi h.p11, p12 := rp hi h.p12, p13 := rp hi h.p13 }⟩
                      · have hi : 11 < d.size := by omega
                        have e2 := h.p2 (hpre _ rfl ⟨2, .data⟩ (by simp) rfl)
                        have e10 := h.p10 (hpre _ rfl ⟨10, .data⟩ (by simp) rfl)
                        refine wpOp_plain rfl rfl ?_
                        go_simp
                        refine (HHV.out wc (HBY.out.trans (h.bel.mono HBY.out.size))).mono ?_
                        rintro e1 w1 ⟨rfl, hb⟩
                        exact ⟨_, rfl, { bel := h.bel.trans (hb.mono h.bel.size), siz := (by simpa using h.siz), kp := rk h.kp, k2 := rs h.k2, k6 := rs h.k6, k12 := rs h.k12, k15 := rs h.k15, kk := fun hk => (set_other (by decide)).trans (h.kk (fun q => hk (dn_up q))), l12 := fun hj => dn_up (h.l12 (dn_of hi hj (by decide))), p0 := rp hi h.p0, p1 := rp hi h.p1, p2 := rp hi h.p2, p3 := rp hi h.p3, p4 := rp hi h.p4, p5 := rp hi h.p5, p6 := rp hi h.p6, p7 := rp hi h.p7, p8 := rp hi h.p8, p9 := rp hi h.p9, p10 := rp hi h.p10, p11 := fun _ => set_same (by have := h.siz; omega), p12 := rp hi h.p12, p13 := rp hi h.p13 }⟩
                      · have hi : 12 < d.size := by omega
                        have d0 : dn d 0 := hpre _ rfl ⟨0, .data⟩ (by simp) rfl
                        have d11 : dn d 11 := hpre _ rfl ⟨11, .data⟩ (by simp) rfl
                        have e0 := h.p0 d0
                        have e11 := h.p11 d11
                        refine wpOp_plain rfl rfl ?_
                        go_simp
                        simp (disch := omega) only [IntWalk.i64_in]
                        exact ⟨_, rfl, { bel := h.bel, siz := (by simpa using h.siz), kp := rk h.kp, k2 := rs h.k2, k6 := rs h.k6, k12 := rs h.k12, k15 := rs h.k15, kk := fun hk => (set_other (by decide)).trans (h.kk (fun q => hk (dn_up q))), l12 := fun _ => dn_up d0, p0 := rp hi h.p0, p1 := rp hi h.p1, p2 := rp hi h.p2, p3 := rp hi h.p3, p4 := rp hi h.p4, p5 := rp hi h.p5, p6 := rp hi h.p6, p7 := rp hi h.p7, p8 := rp hi h.p8, p9 := rp hi h.p9, p10 := rp hi h.p10, p11 := rp hi h.p11, p12 := fun _ => set_same (by have := h.siz; omega), p13 := rp hi h.p13 }⟩
                      · have hi : 13 < d.size := by omega
                        have d12 : dn d 12 := hpre _ rfl ⟨12, .data⟩ (by simp) rfl
                        have e12 := h.p12 d12
                        refine wpOp_plain rfl rfl ?_
                        go_simp
                        exact ⟨_, rfl, { bel := h.bel, siz := (by simpa using h.siz), kp := rk h.kp, k2 := rs h.k2, k6 := rs h.k6, k12 := rs h.k12, k15 := rs h.k15, kk := fun hk => absurd (dn_up (h.l12 d12)) hk, l12 := fun hj => dn_up (h.l12 (dn_of hi hj (by decide))), p0 := rp hi h.p0, p1 := rp hi h.p1, p2 := rp hi h.p2, p3 := rp hi h.p3, p4 := rp hi h.p4, p5 := rp hi h.p5, p6 := rp hi h.p6, p7 := rp hi h.p7, p8 := rp hi h.p8, p9 := rp hi h.p9, p10 := rp hi h.p10, p11 := rp hi h.p11, p12 := rp hi h.p12, p13 := fun _ => set_same (by have := h.siz; omega) }⟩
                    case gendc =>
                      intro d a wc hd hI hall
                      obtain ⟨t, rfl, h⟩ := hI
                      have hdn : ∀ j, j < 14 → dn d j := fun j hj => dn_all hd hall hj
                      have hd : ∀ j, (_ : j < 14 := by decide) → dn d j := fun j hj => hdn j hj
                      have hfe := frame_eq [(14, _), (138, _), (139, _), (140, _), (141, _), (142, _), (143, _), (144, _), (145, _), (146, _), (147, _), (148, _), (149, _), (150, _)] (h.siz.trans rfl) h.kp rfl ⟨h.p13 (hd 13), h.p0 (hd 0), h.p1 (hd 1), h.p2 (hd 2), h.p3 (hd 3), h.p4 (hd 4), h.p5 (hd 5), h.p6 (hd 6), h.p7 (hd 7), h.p8 (hd 8), h.p9 (hd 9), h.p10 (hd 10), h.p11 (hd 11), h.p12 (hd 12), trivial⟩
                      simp only [List.foldl_cons, List.foldl_nil, List.setIfInBounds_toArray, List.set_cons_succ, List.set_cons_zero] at hfe
                      have hbc := h.bel
                      subst hfe
                      clear h hdn hd hall
                      replace HBY := Lib.hid (HBY.out.trans (hbc.mono HBY.out.size))
                      clear hbc
                      rename World => wy
                      go_wp2_with fail
                      go_roundg (nf - (k + 1))
                      case measure => omega
                      case rel => exact ⟨k + 1, ts ++ sd, by omega, rfl, rfl, HTS.out, by rw [HWS.out], by go_num, HBY.out⟩
              · have hkn : k = c.1.length := by rw [← HNF.out]; omega
                have hlkI : ¬ (k : Int) < (nf : Int) := by omega
                have htk : c.1.take k = c.1 := by rw [hkn]; exact List.take_length
                have hse : ts = s := by
                  have : ts.data.toList = s.data.toList := by rw [hts, htk]; exact HOK.out.said
                  have e2 : ts.data = s.data := Array.toList_inj.1 this
                  cases ts; cases s; simp only at e2; rw [e2]
                subst hse
                rw [htk, ← HOK.out.heavy]
                rcases Nat.eq_zero_or_pos i with hi0 | hip
                · have hipI : ¬ 0 < (i : Int) := by omega
                  have hipN : ¬ 0 < i := by omega
                  clear hi0
                  have CM : Hid (∀ W : World, Below w6.heap.size w6 W → W.cell? ⟨w.heap.size, 3, none⟩ = some (.string ts) ∧ W.cell? ⟨ba, oa + i * 2, none⟩ = some (.slice Fa nf cfa) ∧ W.cell? ⟨ba, oa + i * 2 + 1, none⟩ = some (.int .i64 c.2) ∧ True ∧ True ∧ True) := Lib.hid fun W hW =>
                    ⟨(BXA.out W (H6a.out.trans (hW.mono H6a.out.size))).2.2.2, (HCI.out W hW).1, (HCI.out W hW).2, trivial, trivial, trivial⟩
                  clear hby hts hkn htk p1 HTS0 hlk
                  go_upto_region 22 with fail
                  refine wp_region_inv2T (fun T0 => CpeI T0 wy w.heap.size ba oa n Ka i 0 ts c.2 0 Fa nf cfa none 0 0) (by kernel_rfl) (by kernel_rfl) ?g0e ?gstepe ?gende
                  case g0e =>
                    have hno : ∀ j, ¬ dn (Array.replicate 45 false) j := by
                      intro j; unfold dn; by_cases hj : j < 45 <;> simp [Array.getD, hj]
                    have na : ∀ {j : Nat} {Z : Prop}, dn (Array.replicate 45 false) j → Z := fun hj => absurd hj (hno _)
                    exact ⟨_, rfl, { bel := (Below.refl _ _).drew, siz := rfl, kp := fun _ _ => rfl, k2 := rfl, k6 := rfl, k12 := rfl, k13 := rfl, k14 := rfl, p0 := na, p1 := na, p2 := na, p3 := na, p4 := na, p5 := na, p6 := na, p7 := na, p8 := na, p9 := na, p10 := na, p11 := na, p12 := na, p13 := na, p14 := na, p15 := na, p16 := na, p17 := na, p18 := na, p19 := na, p20 := na, p21 := na, p22 := na, p23 := na, p24 := na, p25 := na, p26 := na, p27 := na, p28 := na, p29 := na, p30 := na, p31 := na, p32 := na, p33 := na, p34 := na, p35 := na, p36 := na, p37 := na, p38 := na, p39 := na, p40 := na, p41 := na, p42 := na, p43 := na, p44 := na }⟩
                  case gstepe =>
                    intro T0 d a wc i hd hI hi
                    obtain ⟨hlt, hnd, hpre⟩ := mem_ready hi
                    have hd' : d.size = 45 := hd
                    have hin : i < 45 := hlt
                    clear hi hd hlt
                    obtain ⟨t, rfl, h⟩ := hI
                    have hcs : i = 0 ∨ i = 1 ∨ i = 2 ∨ i = 3 ∨ i = 4 ∨ i = 5 ∨ i = 6 ∨ i = 7 ∨ i = 8 ∨ i = 9 ∨ i = 10 ∨ i = 11 ∨ i = 12 ∨ i = 13 ∨ i = 14 ∨ i = 15 ∨ i = 16 ∨ i = 17 ∨ i = 18 ∨ i = 19 ∨ i = 20 ∨ i = 21 ∨ i = 22 ∨ i = 23 ∨ i = 24 ∨ i = 25 ∨ i = 26 ∨ i = 27 ∨ i = 28 ∨ i = 29 ∨ i = 30 ∨ i = 31 ∨ i = 32 ∨ i = 33 ∨ i = 34 ∨ i = 35 ∨ i = 36 ∨ i = 37 ∨ i = 38 ∨ i = 39 ∨ i = 40 ∨ i = 41 ∨ i = 42 ∨ i = 43 ∨ i = 44 := by omega
                    rcases hcs with rfl | rfl | rfl | rfl | rfl | rfl | rfl | rfl | rfl | rfl | rfl | rfl | rfl | rfl | rfl | rfl | rfl | rfl | rfl | rfl | rfl | rfl | rfl | rfl | rfl | rfl | rfl | rfl | rfl | rfl | rfl | rfl | rfl | rfl | rfl | rfl | rfl | rfl | rfl | rfl | rfl | rfl | rfl | rfl | rfl
                    · have hi : 0 < d.size := by omega
                      have q13 := h.k13
                      refine wpOp_plain rfl rfl ?_
                      go_simp
                      exact ⟨_, rfl, { bel := h.bel, siz := (by simpa using h.siz), kp := rk h.kp, k2 := rs h.k2, k6 := rs h.k6, k12 := rs h.k12, k13 := rs h.k13, k14 := rs h.k14, p0 := fun _ => set_same (by have := h.siz; omega), p1 := rp hi h.p1, p2 := rp hi h.p2, p3 := rp hi h.p3, p4 := rp hi h.p4, p5 := rp hi h.p5, p6 := rp hi h.p6, p7 := rp hi h.p7, p8 := rp hi h.p8, p9 := rp hi h.p9, p10 := rp hi h.p10, p11 := rp hi h.p11, p12 := rp hi h.p12, p13 := rp hi h.p13, p14 := rp hi h.p14, p15 := rp hi h.p15, p16 := rp hi h.p16, p17 := rp hi h.p17, p18 := rp hi h.p18, p19 := rp hi h.p19, p20 := rp hi h.p20, p21 := rp hi h.p21, p22 := rp hi h.p22, p23 := rp hi h.p23, p24 := rp hi h.p24, p25 := rp hi h.p25, p26 := rp hi h.p26, p27 := rp hi h.p27, p28 := rp hi h.p28, p29 := rp hi h.p29, p30 := rp hi h.p30, p31 := rp hi h.p31, p32 := rp hi h.p32, p33 := rp hi h.p33, p34 := rp hi h.p34, p35 := rp hi h.p35, p36 := rp hi h.p36, p37 := rp hi h.p37, p38 := rp hi h.p38, p39 := rp hi h.p39, p40 := rp hi h.p40, p41 := rp hi h.p41, p42 := rp hi h.p42, p43 := rp hi h.p43, p44 := rp hi h.p44 }⟩
                    · have hi : 1 < d.size := by omega
                      have q2 := h.k2
                      refine wpOp_plain rfl rfl ?_
                      go_simp
                      exact ⟨_, rfl, { bel := h.bel, siz := (by simpa using h.siz), kp := rk h.kp, k2 := rs h.k2, k6 := rs h.k6, k12 := rs h.k12, k13 := rs h.k13, k14 := rs h.k14, p0 := rp hi h.p0, p1 := fun _ => set_same (by have := h.siz; omega), p2 := rp hi h.p2, p3 := rp hi h.p3, p4 := rp hi h.p4, p5 := rp hi h.p5, p6 := rp hi h.p6, p7 := rp hi h.p7, p8 := rp hi h.p8, p9 := rp hi h.p9, p10 := rp hi h.p10, p11 := rp hi h.p11, p12 := rp hi h.p12, p13 := rp hi h.p13, p14 := rp hi h.p14, p15 := rp hi h.p15, p16 := rp hi h.p16, p17 := rp hi h.p17, p18 := rp hi h.p18, p19 := rp hi h.p19, p20 := rp hi h.p20, p21 := rp hi h.p21, p22 := rp hi h.p22, p23 := rp hi h.p23, p24 := rp hi h.p24, p25 := rp hi h.p25, p26 := rp hi h.p26, p27 := rp hi h.p27, p28 := rp hi h.p28, p29 := rp hi h.p29, p30 := rp hi h.p30, p31 := rp hi h.p31, p32 := rp hi h.p32, p33 := rp hi h.p33, p34 := rp hi h.p34, p35 := rp hi h.p35, p36 := rp hi h.p36, p37 := rp hi h.p37, p38 := rp hi h.p38, p39 := rp hi h.p39, p40 := rp hi h.p40, p41 := rp hi h.p41, p42 := rp hi h.p42, p43 := rp hi h.p43, p44 := rp hi h.p44 }⟩
                    · have hi : 2 < d.size := by omega
                      have e1 := h.p1 (hpre _ rfl ⟨1, .data⟩ (by simp) rfl)
                      obtain ⟨k0, k1, k2, k3, k4, k5⟩ := CM.out wc (HBY.out.trans (h.bel.mono HBY.out.size))
                      refine wpOp_plain rfl rfl ?_
                      go_simp
                      exact ⟨_, rfl, { bel := h.bel, siz := (by simpa using h.siz), kp := rk h.kp, k2 := rs h.k2, k6 := rs h.k6, k12 := rs h.k12, k13 := rs h.k13, k14 := rs h.k14, p0 := rp hi h.p0, p1 := rp hi h.p1, p2 := fun _ => set_same (by have := h.siz; omega), p3 := rp hi h.p3, p4 := rp hi h.p4, p5 := rp hi h.p5, p6 := rp hi h.p6, p7 := rp hi h.p7, p8 := rp hi h.p8, p9 := rp hi h.p9, p10 := rp hi h.p10, p11 := rp hi h.p11, p12 := rp hi h.p12, p13 := rp hi h.p13, p14 := rp hi h.p14, p15 := rp hi h.p15, p16 := rp hi h.p16, p17 := rp hi h.p17, p18 := rp hi h.p18, p19 := rp hi h.p19, p20 := rp hi h.p20, p21 := rp hi h.p21, p22 := rp hi h.p22, p23 := rp hi h.p23, p24 := rp hi h.p24, p25 := rp hi h.p25, p26 := rp hi h.p26, p27 := rp hi h.p27, p28 := rp hi h.p28, p29 := rp hi h.p29, p30 := rp hi h.p30, p31 := rp hi h.p31, p32 := rp hi h.p32, p33 := rp hi h.p33, p34 := rp hi h.p34, p35 := rp hi h.p35, p36 := rp hi h.p36, p37 := rp hi h.p37, p38 := rp hi h.p38, p39 := rp hi h.p39, p40 := rp hi h.p40, p41 := rp hi h.p41, p42 := rp hi h.p42, p43 := rp hi h.p43, p44 := rp hi h.p44 }⟩
                    · have hi : 3 < d.size := by omega
                      have e0 := h.p0 (hpre _ rfl ⟨0, .data⟩ (by simp) rfl)
                      have e2 := h.p2 (hpre _ rfl ⟨2, .data⟩ (by simp) rfl)
                      refine wpOp_plain rfl rfl ?_
                      go_simp
                      exact ⟨_, rfl, { bel := h.bel, siz := (by simpa using h.siz), kp := rk h.kp, k2 := rs h.k2, k6 := rs h.k6, k12 := rs h.k12, k13 := rs h.k13, k14 := rs h.k14, p0 := rp hi h.p0, p1 := rp hi h.p1, p2 := rp hi h.p2, p3 := fun _ => set_same (by have := h.siz; omega), p4 := rp hi h.p4, p5 := rp hi h.p5, p6 := rp hi h.p6, p7 := rp hi h.p7, p8 := rp hi h.p8, p9 := rp hi h.p9, p10 := rp hi h.p10, p11 := rp hi h.p11, p12 := rp hi h.p12, p13 := rp hi h.p13, p14 := rp hi h.p14, p15 := rp hi h.p15, p16 := rp hi h.p16, p17 := rp hi h.p17, p18 := rp hi h.p18, p19 := rp hi h.p19, p20 := rp hi h.p20, p21 := rp hi h.p21, p22 := rp hi h.p22, p23 := rp hi h.p23, p24 := rp hi h.p24, p25 := rp hi h.p25, p26 := rp hi h.p26, p27 := rp hi h.p27, p28 := rp hi h.p28, p29 := rp hi h.p29, p30 := rp hi h.p30, p31 := rp hi h.p31, p32 := rp hi h.p32, p33 := rp hi h.p33, p34 := rp hi h.p34, p35 := rp hi h.p35, p36 := rp hi h.p36, p37 := rp hi h.p37, p38 := rp hi h.p38, p39 := rp hi h.p39, p40 := rp hi h.p40, p41 := rp hi h.p41, p42 := rp hi h.p42, p43 := rp hi h.p43, p44 := rp hi h.p44 }⟩
                    · have hi : 4 < d.size := by omega
                      have e3 := h.p3 (hpre _ rfl ⟨3, .data⟩ (by simp) rfl)
                      refine wpOp_plain rfl rfl ?_
                      go_simp
                      exact ⟨_, rfl, { bel := h.bel, siz := (by simpa using h.siz), kp := rk h.kp, k2 := rs h.k2, k6 := rs h.k6, k12 := rs h.k12, k13 := rs h.k13, k14 := rs h.k14, p0 := rp hi h.p0, p1 := rp hi h.p1, p2 := rp hi h.p2, p3 := rp hi h.p3, p4 := fun _ => set_same (by have := h.siz; omega), p5 := rp hi h.p5, p6 := rp hi h.p6, p7 := rp hi h.p7, p8 := rp hi h.p8, p9 := rp hi h.p9, p10 := rp hi h.p10, p11 := rp hi h.p11, p12 := rp hi h.p12, p13 := rp hi h.p13, p14 := rp hi h.p14, p15 := rp hi h.p15, p16 := rp hi h.p16, p17 := rp hi h.p17, p18 := rp hi h.p18, p19 := rp hi h.p19, p20 := rp hi h.p20, p21 := rp hi h.p21, p22 := rp hi h.p22, p23 := rp hi h.p23, p24 := rp hi h.p24, p25 := rp hi h.p25, p26 := rp hi h.p26, p27 := rp hi h.p27, p28 := rp hi h.p28, p29 := rp hi h.p29, p30 := rp hi h.p30, p31 := rp hi h.p31, p32 := rp hi h.p32, p33 := rp hi h.p33, p34 := rp hi h.p34, p35 := rp hi h.p35, p36 := rp hi h.p36, p37 := rp hi h.p37, p38 := rp hi h.p38, p39 := rp hi h.p39, p40 := rp hi h.p40, p41 := rp hi h.p41, p42 := rp hi h.p42, p43 := rp hi h.p43, p44 := rp hi h.p44 }⟩
                    · have hi : 5 < d.size := by omega
                      have q14 := h.k14
                      refine wpOp_guard rfl (wanted_of (d := 155) rfl rfl (h.p4 (hpre _ rfl ⟨4, .guard⟩ (by simp) rfl))) ?_
                      go_simp
                      exact ⟨_, rfl, { bel := h.bel, siz := (by simpa using h.siz), kp := rk h.kp, k2 := rs h.k2, k6 := rs h.k6, k12 := rs h.k12, k13 := rs h.k13, k14 := rs h.k14, p0 := rp hi h.p0, p1 := rp hi h.p1, p2 := rp hi h.p2, p3 := rp hi h.p3, p4 := rp hi h.p4, p5 := fun _ => set_same (by have := h.siz; omega), p6 := rp hi h.p6, p7 := rp hi h.p7, p8 := rp hi h.p8, p9 := rp hi h.p9, p10 := rp hi h.p10, p11 := rp hi h.p11, p12 := rp hi h.p12, p13 := rp hi h.p13, p14 := rp hi h.p14, p15 := rp hi h.p15, p16 := rp hi h.p16, p17 := rp hi h.p17, p18 := rp hi h.p18, p19 := rp hi h.p19, p20 := rp hi h.p20, p21 := rp hi h.p21, p22 := rp hi h.p22, p23 := rp hi h.p23, p24 := rp hi h.p24, p25 := rp hi h.p25, p26 := rp hi h.p26, p27 := rp hi h.p27, p28 := rp hi h.p28, p29 := rp hi h.p29, p30 := rp hi h.p30, p31 := rp hi h.p31, p32 := rp hi h.p32, p33 := rp hi h.p33, p34 := rp hi h.p34, p35 := rp hi h.p35, p36 := rp hi h.p36, p37 := rp hi h.p37, p38 := rp hi h.p38, p39 := rp hi h.p39, p40 := rp hi h.p40, p41 := rp hi h.p41, p42 := rp hi h.p42, p43 := rp hi h.p43, p44 := rp hi h.p44 }⟩
                    · have hi : 6 < d.size := by omega
                      have q6 := h.k6
                      refine wpOp_guard rfl (wanted_of (d := 155) rfl rfl (h.p4 (hpre _ rfl ⟨4, .guard⟩ (by simp) rfl))) ?_
                      go_simp
                      exact ⟨_, rfl, { bel := h.bel, siz := (by simpa using h.siz), kp := rk h.kp, k2 := rs h.k2, k6 := rs h.k6, k12 := rs h.k12, k13 := rs h.k13, k14 := rs h.k14, p0 := rp hi h.p0, p1 := rp hi h.p1, p2 := rp hi h.p2, p3 := rp hi h.p3, p4 := rp hi h.p4, p5 := rp hi h.p5, p6 := fun _ => set_same (by have := h.siz; omega), p7 := rp hi h.p7, p8 := rp hi h.p8, p9 := rp hi h.p9, p10 := rp hi h.p10, p11 := rp hi h.p11, p12 := rp hi h.p12, p13 := rp hi h.p13, p14 := rp hi h.p14, p15 := rp hi h.p15, p16 := rp hi h.p16, p17 := rp hi h.p17, p18 := rp hi h.p18, p19 := rp hi h.p19, p20 := rp hi h.p20, p21 := rp hi h.p21, p22 := rp hi h.p22, p23 := rp hi h.p23, p24 := rp hi h.p24, p25 := rp hi h.p25, p26 := rp hi h.p26, p27 := rp hi h.p27, p28 := rp hi h.p28, p29 := rp hi h.p29, p30 := rp hi h.p30, p31 := rp hi h.p31, p32 := rp hi h.p32, p33 := rp hi h.p33, p34 := rp hi h.p34, p35 := rp hi h.p35, p36 := rp hi h.p36, p37 := rp hi h.p37, p38 := rp hi h.p38, p39 := rp hi h.p39, p40 := rp hi h.p40, p41 := rp hi h.p41, p42 := rp hi h.p42, p43 := rp hi h.p43, p44 := rp hi h.p44 }⟩
                    · have hi : 7 < d.size := by omega
                      have q12 := h.k12
                      refine wpOp_guard rfl (wanted_of (d := 155) rfl rfl (h.p4 (hpre _ rfl ⟨4, .guard⟩ (by simp) rfl))) ?_
                      go_simp
                      exact ⟨_, rfl, { bel := h.bel, siz := (by simpa using h.siz), kp := rk h.kp, k2 := rs h.k2, k6 := rs h.k6, k12 := rs h.k12, k13 := rs h.k13, k14 := rs h.k14, p0 := rp hi h.p0, p1 := rp hi h.p1, p2 := rp hi h.p2, p3 := rp hi h.p3, p4 := rp hi h.p4, p5 := rp hi h.p5, p6 := rp hi h.p6, p7 := fun _ => set_same (by have := h.siz; omega), p8 := rp hi h.p8, p9 := rp hi h.p9, p10 := rp hi h.p10, p11 := rp hi h.p11, p12 := rp hi h.p12, p13 := rp hi h.p13, p14 := rp hi h.p14, p15 := rp hi h.p15, p16 := rp hi h.p16, p17 := rp hi h.p17, p18 := rp hi h.p18, p19 := rp hi h.p19, p20 := rp hi h.p20, p21 := rp hi h.p21, p22 := rp hi h.p22, p23 := rp hi h.p23, p24 := rp hi h.p24, p25 := rp hi h.p25, p26 := rp hi h.p26, p27 := rp hi h.p27, p28 := rp hi h.p28, p29 := rp hi h.p29, p30 := rp hi h.p30, p31 := rp hi h.p31, p32 := rp hi h.p32, p33 := rp hi h.p33, p34 := rp hi h.p34, p35 := rp hi h.p35, p36 := rp hi h.p36, p37 := rp hi h.p37, p38 := rp hi h.p38, p39 := rp hi h.p39, p40 := rp hi h.p40, p41 := rp hi h.p41, p42 := rp hi h.p42, p43 := rp hi h.p43, p44 := rp hi h.p44 }⟩
                    · have hi : 8 < d.size := by omega
                      have e6 := h.p6 (hpre _ rfl ⟨6, .data⟩ (by simp) rfl)
                      have e7 := h.p7 (hpre _ rfl ⟨7, .data⟩ (by simp) rfl)
                      have hx1 : (i : Int) < (n : Int) := by omega
                      refine wpOp_guard rfl (wanted_of (d := 155) rfl rfl (h.p4 (hpre _ rfl ⟨4, .guard⟩ (by simp) rfl))) ?_
                      go_simp
                      exact ⟨_, rfl, { bel := h.bel, siz := (by simpa using h.siz), kp := rk h.kp, k2 := rs h.k2, k6 := rs h.k6, k12 := rs h.k12, k13 := rs h.k13, k14 := rs h.k14, p0 := rp hi h.p0, p1 := rp hi h.p1, p2 := rp hi h.p2, p3 := rp hi h.p3, p4 := rp hi h.p4, p5 := rp hi h.p5, p6 := rp hi h.p6, p7 := rp hi h.p7, p8 := fun _ => set_same (by have := h.siz; omega), p9 := rp hi h.p9, p10 := rp hi h.p10, p11 := rp hi h.p11, p12 := rp hi h.p12, p13 := rp hi h.p13, p14 := rp hi h.p14, p15 := rp hi h.p15, p16 := rp hi h.p16, p17 := rp hi h.p17, p18 := rp hi h.p18, p19 := rp hi h.p19, p20 := rp hi h.p20, p21 := rp hi h.p21, p22 := rp hi h.p22, p23 := rp hi h.p23, p24 := rp hi h.p24, p25 := rp hi h.p25, p26 := rp hi h.p26, p27 := rp hi h.p27, p28 := rp hi h.p28, p29 := rp hi h.p29, p30 := rp hi h.p30, p31 := rp hi h.p31, p32 := rp hi h.p32, p33 := rp hi h.p33, p34 := rp hi h.p34, p35 := rp hi h.p35, p36 := rp hi h.p36, p37 := rp hi h.p37, p38 := rp hi h.p38, p39 := rp hi h.p39, p40 := rp hi h.p40, p41 := rp hi h.p41, p42 := rp hi h.p42, p43 := rp hi h.p43, p44 := rp hi h.p44 }⟩
                    · have hi : 9 < d.size := by omega
                      have e8 := h.p8 (hpre _ rfl ⟨8, .data⟩ (by simp) rfl)
                      refine wpOp_guard rfl (wanted_of (d := 155) rfl rfl (h.p4 (hpre _ rfl ⟨4, .guard⟩ (by simp) rfl))) ?_
                      go_simp
                      exact ⟨_, rfl, { bel := h.bel, siz := (by simpa using h.siz), kp := rk h.kp, k2 := rs h.k2, k6 := rs h.k6, k12 := rs h.k12, k13 := rs h.k13, k14 := rs h.k14, p0 := rp hi h.p0, p1 := rp hi h.p1, p2 := rp hi h.p2, p3 := rp hi h.p3, p4 := rp hi h.p4, p5 := rp hi h.p5, p6 := rp hi h.p6, p7 := rp hi h.p7, p8 := rp hi h.p8, p9 := fun _ => set_same (by have := h.siz; omega), p10 := rp hi h.p10, p11 := rp hi h.p11, p12 := rp hi h.p12, p13 := rp hi h.p13, p14 := rp hi h.p14, p15 := rp hi h.p15, p16 := rp hi h.p16, p17 := rp hi h.p17, p18 := rp hi h.p18, p19 := rp hi h.p19, p20 := rp hi h.p20, p21 := rp hi h.p21, p22 := rp hi h.p22, p23 := rp hi h.p23, p24 := rp hi h.p24, p25 := rp hi h.p25, p26 := rp hi h.p26, p27 := rp hi h.p27, p28 := rp hi h.p28, p29 := rp hi h.p29, p30 := rp hi h.p30, p31 := rp hi h.p31, p32 := rp hi h.p32, p33 := rp hi h.p33, p34 := rp hi h.p34, p35 := rp hi h.p35, p36 := rp hi h.p36, p37 := rp hi h.p37, p38 := rp hi h.p38, p39 := rp hi h.p39, p40 := rp hi h.p40, p41 := rp hi h.p41, p42 := rp hi h.p42, p43 := rp hi h.p43, p44 := rp hi h.p44 }⟩
                    · have hi : 10 < d.size := by omega
                      have e9 := h.p9 (hpre _ rfl ⟨9, .data⟩ (by simp) rfl)
                      obtain ⟨k0, k1, k2, k3, k4, k5⟩ := CM.out wc (HBY.out.trans (h.bel.mono HBY.out.size))
                      refine wpOp_guard rfl (wanted_of (d := 155) rfl rfl (h.p4 (hpre _ rfl ⟨4, .guard⟩ (by simp) rfl))) ?_
                      go_simp
                      exact ⟨_, rfl, { bel := h.bel, siz := (by simpa using h.siz), kp := rk h.kp, k2 := rs h.k2, k6 := rs h.k6, k12 := rs h.k12, k13 := rs h.k13, k14 := rs h.k14, p0 := rp hi h.p0, p1 := rp hi h.p1, p2 := rp hi h.p2, p3 := rp hi h.p3, p4 := rp hi h.p4, p5 := rp hi h.p5, p6 := rp hi h.p6, p7 := rp hi h.p7, p8 := rp hi h.p8, p9 := rp hi h.p9, p10 := fun _ => set_same (by have := h.siz; omega), p11 := rp hi h.p11, p12 := rp hi h.p12, p13 := rp hi h.p13, p14 := rp hi h.p14, p15 := rp hi h.p15, p16 := rp hi h.p16, p17 := rp hi h.p17, p18 := rp hi h.p18, p19 := rp hi h.p19, p20 := rp hi h.p20, p21 := rp hi h.p21, p22 := rp hi h.p22, p23 := rp hi h.p23, p24 := rp hi h.p24, p25 := rp hi h.p25, p26 := rp hi h.p26, p27 := rp hi h.p27, p28 := rp hi h.p28, p29 := rp hi h.p29, p30 := rp hi h.p30, p31 := rp hi h.p31, p32 := rp hi h.p32, p33 := rp hi h.p33, p34 := rp hi h.p34, p35 := rp hi h.p35, p36 := rp hi h.p36, p37 := rp hi h.p37, p38 := rp hi h.p38, p39 := rp hi h.p39, p40 := rp hi h.p40, p41 := rp hi h.p41, p42 := rp hi h.p42, p43 := rp hi h.p43, p44 := rp hi h.p44 }⟩
                    · have hi : 11 < d.size := by omega
                      have e5 := h.p5 (hpre _ rfl ⟨5, .data⟩ (by simp) rfl)
                      have e10 := h.p10 (hpre _ rfl ⟨10, .data⟩ (by simp) rfl)
                      refine wpOp_guard rfl (wanted_of (d := 155) rfl rfl (h.p4 (hpre _ rfl ⟨4, .guard⟩ (by simp) rfl))) ?_
                      go_simp
                      exact ⟨_, rfl, { bel := h.bel, siz := (by simpa using h.siz), kp := rk h.kp, k2 := rs h.k2, k6 := rs h.k6, k12 := rs h.k12, k13 := rs h.k13, k14 := rs h.k14, p0 := rp hi h.p0, p1 := rp hi h.p1, p2 := rp hi h.p2, p3 := rp hi h.p3, p4 := rp hi h.p4, p5 := rp hi h.p5, p6 := rp hi h.p6, p7 := rp hi h.p7, p8 := rp hi h.p8, p9 := rp hi h.p9, p10 := rp hi h.p10, p11 := fun _ => set_same (by have := h.siz; omega), p12 := rp hi h.p12, p13 := rp hi h.p13, p14 := rp hi h.p14, p15 := rp hi h.p15, p16 := rp hi h.p16, p17 := rp hi h.p17, p18 := rp hi h.p18, p19 := rp hi h.p19, p20 := rp hi h.p20, p21 := rp hi h.p21, p22 := rp hi h.p22, p23 := rp hi h.p23, p24 := rp hi h.p24, p25 := rp hi h.p25, p26 := rp hi h.p26, p27 := rp hi h.p27, p28 := rp hi h.p28, p29 := rp hi h.p29, p30 := rp hi h.p30, p31 := rp hi h.p31, p32 := rp hi h.p32, p33 := rp hi h.p33, p34 := rp hi h.p34, p35 := rp hi h.p35, p36 := rp hi h.p36, p37 := rp hi h.p37, p38 := rp hi h.p38, p39 := rp hi h.p39, p40 := rp hi h.p40, p41 := rp hi h.p41, p42 := rp hi h.p42, p43 := rp hi h.p43, p44 := rp hi h.p44 }⟩
                    · have hi : 12 < d.size := by omega
                      have e4 := h.p4 (hpre _ rfl ⟨4, .data⟩ (by simp) rfl)
                      have e11 := h.p11 (hpre _ rfl ⟨11, .data⟩ (by simp) rfl)
                      refine wpOp_plain rfl rfl ?_
                      go_simp
                      exact ⟨_, rfl, { bel := h.bel, siz := (by simpa using h.siz), kp := rk h.kp, k2 := rs h.k2, k6 := rs h.k6, k12 := rs h.k12, k13 := rs h.k13, k14 := rs h.k14, p0 := rp hi h.p0, p1 := rp hi h.p1, p2 := rp hi h.p2, p3 := rp hi h.p3, p4 := rp hi h.p4, p5 := rp hi h.p5, p6 := rp hi h.p6, p7 := rp hi h.p7, p8 := rp hi h.p8, p9 := rp hi h.p9, p10 := rp hi h.p10, p11 := rp hi h.p11, p12 := fun _ => set_same (by have := h.siz; omega), p13 := rp hi h.p13, p14 := rp hi h.p14, p15 := rp hi h.p15, p16 := rp hi h.p16, p17 := rp hi h.p17, p18 := rp hi h.p18, p19 := rp hi h.p19, p20 := rp hi h.p20, p21 := rp hi h.p21, p22 := rp hi h.p22, p23 := rp hi h.p23, p24 := rp hi h.p24, p25 := rp hi h.p25, p26 := rp hi h.p26, p27 := rp hi h.p27, p28 := rp hi h.p28, p29 := rp hi h.p29, p30 := rp hi h.p30, p31 := rp hi h.p31, p32 := rp hi h.p32, p33 := rp hi h.p33, p34 := rp hi h.p34, p35 := rp hi h.p35, p36 := rp hi h.p36, p37 := rp hi h.p37, p38 := rp hi h.p38, p39 := rp hi h.p39, p40 := rp hi h.p40, p41 := rp hi h.p41, p42 := rp hi h.p42, p43 := rp hi h.p43, p44 := rp hi h.p44 }⟩
                    · have hi : 13 < d.size := by omega
                      have e12 := h.p12 (hpre _ rfl ⟨12, .data⟩ (by simp) rfl)
                      refine wpOp_plain rfl rfl ?_
                      go_simp
                      exact ⟨_, rfl, { bel := h.bel, siz := (by simpa using h.siz), kp := rk h.kp, k2 := rs h.k2, k6 := rs h.k6, k12 := rs h.k12, k13 := rs h.k13, k14 := rs h.k14, p0 := rp hi h.p0, p1 := rp hi h.p1, p2 := rp hi h.p2, p3 := rp hi h.p3, p4 := rp hi h.p4, p5 := rp hi h.p5, p6 := rp hi h.p6, p7 := rp hi h.p7, p8 := rp hi h.p8, p9 := rp hi h.p9, p10 := rp hi h.p10, p11 := rp hi h.p11, p12 := rp hi h.p12, p13 := fun _ => set_same (by have := h.siz; omega), p14 := rp hi h.p14, p15 := rp hi h.p15, p16 := rp hi h.p16, p17 := rp hi h.p17, p18 := rp hi h.p18, p19 := rp hi h.p19, p20 := rp hi h.p20, p21 := rp hi h.p21, p22 := rp hi h.p22, p23 := rp hi h.p23, p24 := rp hi h.p24, p25 := rp hi h.p25, p26 := rp hi h.p26, p27 := rp hi h.p27, p28 := rp hi h.p28, p29 := rp hi h.p29, p30 := rp hi h.p30, p31 := rp hi h.p31, p32 := rp hi h.p32, p33 := rp hi h.p33, p34 := rp hi h.p34, p35 := rp hi h.p35, p36 := rp hi h.p36, p37 := rp hi h.p37, p38 := rp hi h.p38, p39 := rp hi h.p39, p40 := rp hi h.p40, p41 := rp hi h.p41, p42 := rp hi h.p42, p43 := rp hi h.p43, p44 := rp hi h.p44 }⟩
                    · have hi : 14 < d.size := by omega
                      have q12 := h.k12
                      refine wpOp_guard rfl (wanted_of (d := 164) rfl rfl (h.p13 (hpre _ rfl ⟨13, .guard⟩ (by simp) rfl))) ?_
                      go_simp
                      exact ⟨_, rfl, { bel := h.bel, siz := (by simpa using h.siz), kp := rk h.kp, k2 := rs h.k2, k6 := rs h.k6, k12 := rs h.k12, k13 := rs h.k13, k14 := rs h.k14, p0 := rp hi h.p0, p1 := rp hi h.p1, p2 := rp hi h.p2, p3 := rp hi h.p3, p4 := rp hi h.p4, p5 := rp hi h.p5, p6 := rp hi h.p6, p7 := rp hi h.p7, p8 := rp hi h.p8, p9 := rp hi h.p9, p10 := rp hi h.p10, p11 := rp hi h.p11, p12 := rp hi h.p12, p13 := rp hi h.p13, p14 := fun _ => set_same (by have := h.siz; omega), p15 := rp hi h.p15, p16 := rp hi h.p16, p17 := rp hi h.p17, p18 := rp hi h.p18, p19 := rp hi h.p19, p20 := rp hi h.p20, p21 := rp hi h.p21, p22 := rp hi h.p22, p23 := rp hi h.p23, p24 := rp hi h.p24, p25 := rp hi h.p25, p26 := rp hi h.p26, p27 := rp hi h.p27, p28 := rp hi h.p28, p29 := rp hi h.p29, p30 := rp hi h.p30, p31 := rp hi h.p31, p32 := rp hi h.p32, p33 := rp hi h.p33, p34 := rp hi h.p34, p35 := rp hi h.p35, p36 := rp hi h.p36, p37 := rp hi h.p37, p38 := rp hi h.p38, p39 := rp hi h.p39, p40 := rp hi h.p40, p41 := rp hi h.p41, p42 := rp hi h.p42, p43 := rp hi h.p43, p44 := rp hi h.p44 }⟩
                    · have hi : 15 < d.size := by omega
                      have e14 := h.p14 (hpre _ rfl ⟨14, .data⟩ (by simp) rfl)
                      refine wpOp_guard rfl (wanted_of (d := 164) rfl rfl (h.p13 (hpre _ rfl ⟨13, .guard⟩ (by simp) rfl))) ?_
                      go_simp
                      exact ⟨_, rfl, { bel := h.bel, siz := (by simpa using h.siz), kp := rk h.kp, k2 := rs h.k2, k6 := rs h.k6, k12 := rs h.k12, k13 := rs h.k13, k14 := rs h.k14, p0 := rp hi h.p0, p1 := rp hi h.p1, p2 := rp hi h.p2, p3 := rp hi h.p3, p4 := rp hi h.p4, p5 := rp hi h.p5, p6 := rp hi h.p6, p7 := rp hi h.p7, p8 := rp hi h.p8, p9 := rp hi h.p9, p10 := rp hi h.p10, p11 := rp hi h.p11, p12 := rp hi h.p12, p13 := rp hi h.p13, p14 := rp hi h.p14, p15 := fun _ => set_same (by have := h.siz; omega), p16 := rp hi h.p16, p17 := rp hi h.p17, p18 := rp hi h.p18, p19 := rp hi h.p19, p20 := rp hi h.p20, p21 := rp hi h.p21, p22 := rp hi h.p22, p23 := rp hi h.p23, p24 := rp hi h.p24, p25 := rp hi h.p25, p26 := rp hi h.p26, p27 := rp hi h.p27, p28 := rp hi h.p28, p29 := rp hi h.p29, p30 := rp hi h.p30, p31 := rp hi h.p31, p32 := rp hi h.p32, p33 := rp hi h.p33, p34 := rp hi h.p34, p35 := rp hi h.p35, p36 := rp hi h.p36, p37 := rp hi h.p37, p38 := rp hi h.p38, p39 := rp hi h.p39, p40 := rp hi h.p40, p41 := rp hi h.p41, p42 := rp hi h.p42, p43 := rp hi h.p43, p44 := rp hi h.p44 }⟩
                    · have hi : 16 < d.size := by omega
                      have e15 := h.p15 (hpre _ rfl ⟨15, .data⟩ (by simp) rfl)
                      refine wpOp_guard rfl (wanted_of (d := 164) rfl rfl (h.p13 (hpre _ rfl ⟨13, .guard⟩ (by simp) rfl))) ?_
                      go_simp
                      exact ⟨_, rfl, { bel := h.bel, siz := (by simpa using h.siz), kp := rk h.kp, k2 := rs h.k2, k6 := rs h.k6, k12 := rs h.k12, k13 := rs h.k13, k14 := rs h.k14, p0 := rp hi h.p0, p1 := rp hi h.p1, p2 := rp hi h.p2, p3 := rp hi h.p3, p4 := rp hi h.p4, p5 := rp hi h.p5, p6 := rp hi h.p6, p7 := rp hi h.p7, p8 := rp hi h.p8, p9 := rp hi h.p9, p10 := rp hi h.p10, p11 := rp hi h.p11, p12 := rp hi h.p12, p13 := rp hi h.p13, p14 := rp hi h.p14, p15 := rp hi h.p15, p16 := fun _ => set_same (by have := h.siz; omega), p17 := rp hi h.p17, p18 := rp hi h.p18, p19 := rp hi h.p19, p20 := rp hi h.p20, p21 := rp hi h.p21, p22 := rp hi h.p22, p23 := rp hi h.p23, p24 := rp hi h.p24, p25 := rp hi h.p25, p26 := rp hi h.p26, p27 := rp hi h.p27, p28 := rp hi h.p28, p29 := rp hi h.p29, p30 := rp hi h.p30, p31 := rp hi h.p31, p32 := rp hi h.p32, p33 := rp hi h.p33, p34 := rp hi h.p34, p35 := rp hi h.p35, p36 := rp hi h.p36, p37 := rp hi h.p37, p38 := rp hi h.p38, p39 := rp hi h.p39, p40 := rp hi h.p40, p41 := rp hi h.p41, p42 := rp hi h.p42, p43 := rp hi h.p43, p44 := rp hi h.p44 }⟩
                    · have hi : 17 < d.size := by omega
                      refine wpOp_idle rfl (unwanted_of (d := 167) rfl rfl (h.p16 (hpre _ rfl ⟨16, .guard⟩ (by simp) rfl)) (by decide)) ?_
                      exact ⟨_, rfl, { bel := h.bel, siz := (by simpa using h.siz), kp := rk h.kp, k2 := rs h.k2, k6 := rs h.k6, k12 := rs h.k12, k13 := rs h.k13, k14 := rs h.k14, p0 := rp hi h.p0, p1 := rp hi h.p1, p2 := rp hi h.p2, p3 := rp hi h.p3, p4 := rp hi h.p4, p5 := rp hi h.p5, p6 := rp hi h.p6, p7 := rp hi h.p7, p8 := rp hi h.p8, p9 := rp hi h.p9, p10 := rp hi h.p10, p11 := rp hi h.p11, p12 := rp hi h.p12, p13 := rp hi h.p13, p14 := rp hi h.p14, p15 := rp hi h.p15, p16 := rp hi h.p16, p17 := fun _ => set_same (by have := h.siz; show _ < t.size; omega), p18 := rp hi h.p18, p19 := rp hi h.p19, p20 := rp hi h.p20, p21 := rp hi h.p21, p22 := rp hi h.p22, p23 := rp hi h.p23, p24 := rp hi h.p24, p25 := rp hi h.p25, p26 := rp hi h.p26, p27 := rp hi h.p27, p28 := rp hi h.p28, p29 := rp hi h.p29, p30 := rp hi h.p30, p31 := rp hi h.p31, p32 := rp hi h.p32, p33 := rp hi h.p33, p34 := rp hi h.p34, p35 := rp hi h.p35, p36 := rp hi h.p36, p37 := rp hi h.p37, p38 := rp hi h.p38, p39 := rp hi h.p39, p40 := rp hi h.p40, p41 := rp hi h.p41, p42 := rp hi h.p42, p43 := rp hi h.p43, p44 := rp hi h.p44 }⟩
                    · have hi : 18 < d.size := by omega
                      refine wpOp_idle rfl (unwanted_of (d := 167) rfl rfl (h.p16 (hpre _ rfl ⟨16, .guard⟩ (by simp) rfl)) (by decide)) ?_
                      exact ⟨_, rfl, { bel := h.bel, siz := (by simpa using h.siz), kp := rk h.kp, k2 := rs h.k2, k6 := rs h.k6, k12 := rs h.k12, k13 := rs h.k13, k14 := rs h.k14, p0 := rp hi h.p0, p1 := rp hi h.p1, p2 := rp hi h.p2, p3 := rp hi h.p3, p4 := rp hi h.p4, p5 := rp hi h.p5, p6 := rp hi h.p6, p7 := rp hi h.p7, p8 := rp hi h.p8, p9 := rp hi h.p9, p10 := rp hi h.p10, p11 := rp hi h.p11, p12 := rp hi h.p12, p13 := rp hi h.p13, p14 := rp hi h.p14, p15 := rp hi h.p15, p16 := rp hi h.p16, p17 := rp hi h.p17, p18 := fun _ => set_same (by have := h.siz; show _ < t.size; omega), p19 := rp hi h.p19, p20 := rp hi h.p20, p21 := rp hi h.p21, p22 := rp hi h.p22, p23 := rp hi h.p23, p24 := rp hi h.p24, p25 := rp hi h.p25, p26 := rp hi h.p26, p27 := rp hi h.p27, p28 := rp hi h.p28, p29 := rp hi h.p29, p30 := rp hi h.p30, p31 := rp hi h.p31, p32 := rp hi h.p32, p33 := rp hi h.p33, p34 := rp hi h.p34, p35 := rp hi h.p35, p36 := rp hi h.p36, p37 := rp hi h.p37, p38 := rp hi h.p38, p39 := rp hi h.p39, p40 := rp hi h.p40, p41 := rp hi h.p41, p42 := rp hi h.p42, p43 := rp hi h.p43, p44 := rp hi h.p44 }⟩
                    · have hi : 19 < d.size := by omega
                      refine wpOp_idle rfl (unwanted_of (d := 167) rfl rfl (h.p16 (hpre _ rfl ⟨16, .guard⟩ (by simp) rfl)) (by decide)) ?_
                      exact ⟨_, rfl, { bel := h.bel, siz := (by simpa using h.siz), kp := rk h.kp, k2 := rs h.k2, k6 := rs h.k6, k12 := rs h.k12, k13 := rs h.k13, k14 := rs h.k14, p0 := rp hi h.p0, p1 := rp hi h.p1, p2 := rp hi h.p2, p3 := rp hi h.p3, p4 := rp hi h.p4, p5 := rp hi h.p5, p6 := rp hi h.p6, p7 := rp hi h.p7, p8 := rp hi h.p8, p9 := rp hi h.p9, p10 := rp hi h.p10, p11 := rp hi h.p11, p12 := rp hi h.p12, p13 := rp hi h.p13, p14 := rp hi h.p14, p15 := rp hi h.p15, p16 := rp hi h.p16, p17 := rp hi h.p17, p18 := rp hi h.p18, p19 := fun _ => set_same (by have := h.siz; show _ < t.size; omega), p20 := rp hi h.p20, p21 := rp hi h.p21, p22 := rp hi h.p22, p23 := rp hi h.p23, p24 := rp hi h.p24, p25 := rp hi h.p25, p26 := rp hi h.p26, p27 := rp hi h.p27, p28 := rp hi h.p28, p29 := rp hi h.p29, p30 := rp hi h.p30, p31 := rp hi h.p31, p32 := rp hi h.p32, p33 := rp hi h.p33, p34 := rp hi h.p34, p35 := rp hi h.p35, p36 := rp hi h.p36, p37 := rp hi h.p37, p38 := rp hi h.p38, p39 := rp hi h.p39, p40 := rp hi h.p40, p41 := rp hi h.p41, p42 := rp hi h.p42, p43 := rp hi h.p43, p44 := rp hi h.p44 }⟩
                    · have hi : 20 < d.size := by omega
                      refine wpOp_idle rfl (unwanted_of (d := 167) rfl rfl (h.p16 (hpre _ rfl ⟨16, .guard⟩ (by simp) rfl)) (by decide)) ?_
                      exact ⟨_, rfl, { bel := h.bel, siz := (by simpa using h.siz), kp := rk h.kp, k2 := rs h.k2, k6 := rs h.k6, k12 := rs h.k12, k13 := rs h.k13, k14 := rs h.k14, p0 := rp hi h.p0, p1 := rp hi h.p1, p2 := rp hi h.p2, p3 := rp hi h.p3, p4 := rp hi h.p4, p5 := rp hi h.p5, p6 := rp hi h.p6, p7 := rp hi h.p7, p8 := rp hi h.p8, p9 := rp hi h.p9, p10 := rp hi h.p10, p11 := rp hi h.p11, p12 := rp hi h.p12, p13 := rp hi h.p13, p14 := rp hi h.p14, p15 := rp hi h.p15, p16 := rp hi h.p16, p17 := rp hi h.p17, p18 := rp hi h.p18, p19 := rp hi h.p19, p20 := fun _ => set_same (by have := h.siz; show _ < t.size; omega), p21 := rp hi h.p21, p22 := rp hi h.p22, p23 := rp hi h.p23, p24 := rp hi h.p24, p25 := rp hi h.p25, p26 := rp hi h.p26, p27 := rp hi h.p27, p28 := rp hi h.p28, p29 := rp hi h.p29, p30 := rp hi h.p30, p31 := rp hi h.p31, p32 := rp hi h.p32, p33 := rp hi h.p33, p34 := rp hi h.p34, p35 := rp hi h.p35, p36 := rp hi h.p36, p37 := rp hi h.p37, p38 := rp hi h.p38, p39 := rp hi h.p39, p40 := rp hi h.p40, p41 := rp hi h.p41, p42 := rp hi h.p42, p43 := rp hi h.p43, p44 := rp hi h.p44 }⟩
                    · have hi : 21 < d.size := by omega
                      refine wpOp_idle rfl (unwanted_of (d := 167) rfl rfl (h.p16 (hpre _ rfl ⟨16, .guard⟩ (by simp) rfl)) (by decide)) ?_
                      exact ⟨_, rfl, { bel := h.bel, siz := (by simpa using h.siz), kp := rk h.kp, k2 := rs h.k2, k6 := rs h.k6, k12 := rs h.k12, k13 := rs h.k13, k14 := rs h.k14, p0 := rp hi h.p0, p1 := rp hi h.p1, p2 := rp hi h.p2, p3 := rp hi h.p3, p4 := rp hi h.p4, p5 := rp hi h.p5, p6 := rp hi h.p6, p7 := rp hi h.p7, p8 := rp hi h.p8, p9 := rp hi h.p9, p10 := rp hi h.p10, p11 := rp hi h.p11, p12 := rp hi h.p12, p13 := rp hi h.p13, p14 := rp hi h.p14, p15 := rp hi h.p15, p16 := rp hi h.p16, p17 := rp hi h.p17, p18 := rp hi h.p18, p19 := rp hi h.p19, p20 := rp hi h.p20, p21 := fun _ => set_same (by have := h.siz; show _ < t.size; omega), p22 := rp hi h.p22, p23 := rp hi h.p23, p24 := rp hi h.p24, p25 := rp hi h.p25, p26 := rp hi h.p26, p27 := rp hi h.p27, p28 := rp hi h.p28, p29 := rp hi h.p29, p30 := rp hi h.p30, p31 := rp hi h.p31, p32 := rp hi h.p32, p33 := rp hi h.p33, p34 := rp hi h.p34, p35 := rp hi h.p35, p36 := rp hi h.p36, p37 := rp hi h.p37, p38 := rp hi h.p38, p39 := rp hi h.p39, p40 := rp hi h.p40, p41 := rp hi h.p41, p42 := rp hi h.p42, p43 := rp hi h.p43, p44 := rp hi h.p44 }⟩
                    · have hi : 22 < d.size := by omega
                      refine wpOp_idle rfl (unwanted_of (d := 167) rfl rfl (h.p16 (hpre _ rfl ⟨16, .guard⟩ (by simp) rfl)) (by decide)) ?_
                      exact ⟨_, rfl, { bel := h.bel, siz := (by simpa using h.siz), kp := rk h.kp, k2 := rs h.k2, k6 := rs h.k6, k12 := rs h.k12, k13 := rs h.k13, k14 := rs h.k14, p0 := rp hi h.p0, p1 := rp hi h.p1, p2 := rp hi h.p2, p3 := rp hi h.p3, p4 := rp hi h.p4, p5 := rp hi h.p5, p6 := rp hi h.p6, p7 := rp hi h.p7, p8 := rp hi h.p8, p9 := rp hi h.p9, p10 := rp hi h.p10, p11 := rp hi h.p11, p12 := rp hi h.p12, p13 := rp hi h.p13, p14 := rp hi h.p14, p15 := rp hi h.p15, p16 := rp hi h.p16, p17 := rp hi h.p17, p18 := rp hi h.p18, p19 := rp hi h.p19, p20 := rp hi h.p20, p21 := rp hi h.p21, p22 := fun _ => set_same (by have := h.siz; show _ < t.size; omega), p23 := rp hi h.p23, p24 := rp hi h.p24, p25 := rp hi h.p25, p26 := rp hi h.p26, p27 := rp hi h.p27, p28 := rp hi h.p28, p29 := rp hi h.p29, p30 := rp hi h.p30, p31 := rp hi h.p31, p32 := rp hi h.p32, p33 := rp hi h.p33, p34 := rp hi h.p34, p35 := rp hi h.p35, p36 := rp hi h.p36, p37 := rp hi h.p37, p38 := rp hi h.p38, p39 := rp hi h.p39, p40 := rp hi h.p40, p41 := rp hi h.p41, p42 := rp hi h.p42, p43 := rp hi h.p43, p44 := rp hi h.p44 }⟩
                    · have hi : 23 < d.size := by omega
                      refine wpOp_idle rfl (unwanted_of (d := 167) rfl rfl (h.p16 (hpre _ rfl ⟨16, .guard⟩ (by simp) rfl)) (by decide)) ?_
                      exact ⟨_, rfl, { bel := h.bel, siz := (by simpa using h.siz), kp := rk h.kp, k2 := rs h.k2, k6 := rs h.k6, k12 := rs h.k12, k13 := rs h.k13, k14 := rs h.k14, p0 := rp hi h.p0, p1 := rp hi h.p1, p2 := rp hi h.p2, p3 := rp hi h.p3, p4 := rp hi h.p4, p5 := rp hi h.p5, p6 := rp hi h.p6, p7 := rp hi h.p7, p8 := rp hi h.p8, p9 := rp hi h.p9, p10 := rp hi h.p10, p11 := rp hi h.p11, p12 := rp hi h.p12, p13 := rp hi h.p13, p14 := rp hi h.p14, p15 := rp hi h.p15, p16 := rp hi h.p16, p17 := rp hi h.p17, p18 := rp hi h.p18, p19 := rp hi h.p19, p20 := rp hi h.p20, p21 := rp hi h.p21, p22 := rp hi h.p22, p23 := fun _ => set_same (by have := h.siz; show _ < t.size; omega), p24 := rp hi h.p24, p25 := rp hi h.p25, p26 := rp hi h.p26, p27 := rp hi h.p27, p28 := rp hi h.p28, p29 := rp hi h.p29, p30 := rp hi h.p30, p31 := rp hi h.p31, p32 := rp hi h.p32, p33 := rp hi h.p33, p34 := rp hi h.p34, p35 := rp hi h.p35, p36 := rp hi h.p36, p37 := rp hi h.p37, p38 := rp hi h.p38, p39 := rp hi h.p39, p40 := rp hi h.p40, p41 := rp hi h.p41, p42 := rp hi h.p42, p43 := rp hi h.p43, p44 := rp hi h.p44 }⟩
                    · have hi : 24 < d.size := by omega
                      refine wpOp_idle rfl (unwanted_of (d := 167) rfl rfl (h.p16 (hpre _ rfl ⟨16, .guard⟩ (by simp) rfl)) (by decide)) ?_
                      exact ⟨_, rfl, { bel := h.bel, siz := (by simpa using h.siz), kp := rk h.kp, k2 := rs h.k2, k6 := rs h.k6, k12 := rs h.k12, k13 := rs h.k13, k14 := rs h.k14, p0 := rp hi h.p0, p1 := rp hi h.p1, p2 := rp hi h.p2, p3 := rp hi h.p3, p4 := rp hi h.p4, p5 := rp hi h.p5, p6 := rp hi h.p6, p7 := rp hi h.p7, p8 := rp hi h.p8, p9 := rp hi h.p9, p10 := rp hi h.p10, p11 := rp hi h.p11, p12 := rp hi h.p12, p13 := rp hi h.p13, p14 := rp hi h.p14, p15 := rp hi h.p15, p16 := rp hi h.p16, p17 := rp hi h.p17, p18 := rp hi h.p18, p19 := rp hi h.p19, p20 := rp hi h.p20, p21 := rp hi h.p21, p22 := rp hi h.p22, p23 := rp hi h.p23, p24 := fun _ => set_same (by have := h.siz; show _ < t.size; omega), p25 := rp hi h.p25, p26 := rp hi h.p26, p27 := rp hi h.p27, p28 := rp hi h.p28, p29 := rp hi h.p29, p30 := rp hi h.p30, p31 := rp hi h.p31, p32 := rp hi h.p32, p33 := rp hi h.p33, p34 := rp hi h.p34, p35 := rp hi h.p35, p36 := rp hi h.p36, p37 := rp hi h.p37, p38 := rp hi h.p38, p39 := rp hi h.p39, p40 := rp hi h.p40, p41 := rp hi h.p41, p42 := rp hi h.p42, p43 := rp hi h.p43, p44 := rp hi h.p44 }⟩
                    · have hi : 25 < d.size := by omega
                      have e16 := h.p16 (hpre _ rfl ⟨16, .data⟩ (by simp) rfl)
                      have e24 := h.p24 (hpre _ rfl ⟨24, .data⟩ (by simp) rfl)
                      refine wpOp_guard rfl (wanted_of (d := 164) rfl rfl (h.p13 (hpre _ rfl ⟨13, .guard⟩ (by simp) rfl))) ?_
                      go_simp
                      exact ⟨_, rfl, { bel := h.bel, siz := (by simpa using h.siz), kp := rk h.kp, k2 := rs h.k2, k6 := rs h.k6, k12 := rs h.k12, k13 := rs h.k13, k14 := rs h.k14, p0 := rp hi h.p0, p1 := rp hi h.p1, p2 := rp hi h.p2, p3 := rp hi h.p3, p4 := rp hi h.p4, p5 := rp hi h.p5, p6 := rp hi h.p6, p7 := rp hi h.p7, p8 := rp hi h.p8, p9 := rp hi h.p9, p10 := rp hi h.p10, p11 := rp hi h.p11, p12 := rp hi h.p12, p13 := rp hi h.p13, p14 := rp hi h.p14, p15 := rp hi h.p15, p16 := rp hi h.p16, p17 := rp hi h.p17, p18 := rp hi h.p18, p19 := rp hi h.p19, p20 := rp hi h.p20, p21 := rp hi h.p21, p22 := rp hi h.p22, p23 := rp hi h.p23, p24 := rp hi h.p24, p25 := fun _ => set_same (by have := h.siz; omega), p26 := rp hi h.p26, p27 := rp hi h.p27, p28 := rp hi h.p28, p29 := rp hi h.p29, p30 := rp hi h.p30, p31 := rp hi h.p31, p32 := rp hi h.p32, p33 := rp hi h.p33, p34 := rp hi h.p34, p35 := rp hi h.p35, p36 := rp hi h.p36, p37 := rp hi h.p37, p38 := rp hi h.p38, p39 := rp hi h.p39, p40 := rp hi h.p40, p41 := rp hi h.p41, p42 := rp hi h.p42, p43 := rp hi h.p43, p44 := rp hi h.p44 }⟩
                    · have hi : 26 < d.size := by omega
                      have e13 := h.p13 (hpre _ rfl ⟨13, .data⟩ (by simp) rfl)
                      have e25 := h.p25 (hpre _ rfl ⟨25, .data⟩ (by simp) rfl)
                      refine wpOp_plain rfl rfl ?_
                      go_simp
                      exact ⟨_, rfl, { bel := h.bel, siz := (by simpa using h.siz), kp := rk h.kp, k2 := rs h.k2, k6 := rs h.k6, k12 := rs h.k12, k13 := rs h.k13, k14 := rs h.k14, p0 := rp hi h.p0, p1 := rp hi h.p1, p2 := rp hi h.p2, p3 := rp hi h.p3, p4 := rp hi h.p4, p5 := rp hi h.p5, p6 := rp hi h.p6, p7 := rp hi h.p7, p8 := rp hi h.p8, p9 := rp hi h.p9, p10 := rp hi h.p10, p11 := rp hi h.p11, p12 := rp hi h.p12, p13 := rp hi h.p13, p14 := rp hi h.p14, p15 := rp hi h.p15, p16 := rp hi h.p16, p17 := rp hi h.p17, p18 := rp hi h.p18, p19 := rp hi h.p19, p20 := rp hi h.p20, p21 := rp hi h.p21, p22 := rp hi h.p22, p23 := rp hi h.p23, p24 := rp hi h.p24, p25 := rp hi h.p25, p26 := fun _ => set_same (by have := h.siz; omega), p27 := rp hi h.p27, p28 := rp hi h.p28, p29 := rp hi h.p29, p30 := rp hi h.p30, p31 := rp hi h.p31, p32 := rp hi h.p32, p33 := rp hi h.p33, p34 := rp hi h.p34, p35 := rp hi h.p35, p36 := rp hi h.p36, p37 := rp hi h.p37, p38 := rp hi h.p38, p39 := rp hi h.p39, p40 := rp hi h.p40, p41 := rp hi h.p41, p42 := rp hi h.p42, p43 := rp hi h.p43, p44 := rp hi h.p44 }⟩
                    · have hi : 27 < d.size := by omega
                      have e26 := h.p26 (hpre _ rfl ⟨26, .data⟩ (by simp) rfl)
                      refine wpOp_plain rfl rfl ?_
                      go_simp
                      exact ⟨_, rfl, { bel := h.bel, siz := (by simpa using h.siz), kp := rk h.kp, k2 := rs h.k2, k6 := rs h.k6, k12 := rs h.k12, k13 := rs h.k13, k14 := rs h.k14, p0 := rp hi h.p0, p1 := rp hi h.p1, p2 := rp hi h.p2, p3 := rp hi h.p3, p4 := rp hi h.p4, p5 := rp hi h.p5, p6 := rp hi h.p6, p7 := rp hi h.p7, p8 := rp hi h.p8, p9 := rp hi h.p9, p10 := rp hi h.p10, p11 := rp hi h.p11, p12 := rp hi h.p12, p13 := rp hi h.p13, p14 := rp hi h.p14, p15 := rp hi h.p15, p16 := rp hi h.p16, p17 := rp hi h.p17, p18 := rp hi h.p18, p19 := rp hi h.p19, p20 := rp hi h.p20, p21 := rp hi h.p21, p22 := rp hi h.p22, p23 := rp hi h.p23, p24 := rp hi h.p24, p25 := rp hi h.p25, p26 := rp hi h.p26, p27 := fun _ => set_same (by have := h.siz; omega), p28 := rp hi h.p28, p29 := rp hi h.p29, p30 := rp hi h.p30, p31 := rp hi h.p31, p32 := rp hi h.p32, p33 := rp hi h.p33, p34 := rp hi h.p34, p35 := rp hi h.p35, p36 := rp hi h.p36, p37 := rp hi h.p37, p38 := rp hi h.p38, p39 := rp hi h.p39, p40 := rp hi h.p40, p41 := rp hi h.p41, p42 := rp hi h.p42, p43 := rp hi h.p43, p44 := rp hi h.p44 }⟩
                    · have hi : 28 < d.size := by omega
                      have q12 := h.k12
                      refine wpOp_guard rfl (wanted_of (d := 178) rfl rfl (h.p27 (hpre _ rfl ⟨27, .guard⟩ (by simp) rfl))) ?_
                      go_simp
                      exact ⟨_, rfl, { bel := h.bel, siz := (by simpa using h.siz), kp := rk h.kp, k2 := rs h.k2, k6 := rs h.k6, k12 := rs h.k12, k13 := rs h.k13, k14 := rs h.k14, p0 := rp hi h.p0, p1 := rp hi h.p1, p2 := rp hi h.p2, p3 := rp hi h.p3, p4 := rp hi h.p4, p5 := rp hi h.p5, p6 := rp hi h.p6, p7 := rp hi h.p7, p8 := rp hi h.p8, p9 := rp hi h.p9, p10 := rp hi h.p10, p11 := rp hi h.p11, p12 := rp hi h.p12, p13 := rp hi h.p13, p14 := rp hi h.p14, p15 := rp hi h.p15, p16 := rp hi h.p16, p17 := rp hi h.p17, p18 := rp hi h.p18, p19 := rp hi h.p19, p20 := rp hi h.p20, p21 := rp hi h.p21, p22 := rp hi h.p22, p23 := rp hi h.p23, p24 := rp hi h.p24, p25 := rp hi h.p25, p26 := rp hi h.p26, p27 := rp hi h.p27, p28 := fun _ => set_same (by have := h.siz; omega), p29 := rp hi h.p29, p30 := rp hi h.p30, p31 := rp hi h.p31, p32 := rp hi h.p32, p33 := rp hi h.p33, p34 := rp hi h.p34, p35 := rp hi h.p35, p36 := rp hi h.p36, p37 := rp hi h.p37, p38 := rp hi h.p38, p39 := rp hi h.p39, p40 := rp hi h.p40, p41 := rp hi h.p41, p42 := rp hi h.p42, p43 := rp hi h.p43, p44 := rp hi h.p44 }⟩
                    · have hi : 29 < d.size := by omega
                      have e28 := h.p28 (hpre _ rfl ⟨28, .data⟩ (by simp) rfl)
                      refine wpOp_guard rfl (wanted_of (d := 178) rfl rfl (h.p27 (hpre _ rfl ⟨27, .guard⟩ (by simp) rfl))) ?_
                      go_simp
                      exact ⟨_, rfl, { bel := h.bel, siz := (by simpa using h.siz), kp := rk h.kp, k2 := rs h.k2, k6 := rs h.k6, k12 := rs h.k12, k13 := rs h.k13, k14 := rs h.k14, p0 := rp hi h.p0, p1 := rp hi h.p1, p2 := rp hi h.p2, p3 := rp hi h.p3, p4 := rp hi h.p4, p5 := rp hi h.p5, p6 := rp hi h.p6, p7 := rp hi h.p7, p8 := rp hi h.p8, p9 := rp hi h.p9, p10 := rp hi h.p10, p11 := rp hi h.p11, p12 := rp hi h.p12, p13 := rp hi h.p13, p14 := rp hi h.p14, p15 := rp hi h.p15, p16 := rp hi h.p16, p17 := rp hi h.p17, p18 := rp hi h.p18, p19 := rp hi h.p19, p20 := rp hi h.p20, p21 := rp hi h.p21, p22 := rp hi h.p22, p23 := rp hi h.p23, p24 := rp hi h.p24, p25 := rp hi h.p25, p26 := rp hi h.p26, p27 := rp hi h.p27, p28 := rp hi h.p28, p29 := fun _ => set_same (by have := h.siz; omega), p30 := rp hi h.p30, p31 := rp hi h.p31, p32 := rp hi h.p32, p33 := rp hi h.p33, p34 := rp hi h.p34, p35 := rp hi h.p35, p36 := rp hi h.p36, p37 := rp hi h.p37, p38 := rp hi h.p38, p39 := rp hi h.p39, p40 := rp hi h.p40, p41 := rp hi h.p41, p42 := rp hi h.p42, p43 := rp hi h.p43, p44 := rp hi h.p44 }⟩
                    · have hi : 30 < d.size := by omega
                      have e29 := h.p29 (hpre _ rfl ⟨29, .data⟩ (by simp) rfl)
                      refine wpOp_guard rfl (wanted_of (d := 178) rfl rfl (h.p27 (hpre _ rfl ⟨27, .guard⟩ (by simp) rfl))) ?_
                      go_simp
                      exact ⟨_, rfl, { bel := h.bel, siz := (by simpa using h.siz), kp := rk h.kp, k2 := rs h.k2, k6 := rs h.k6, k12 := rs h.k12, k13 := rs h.k13, k14 := rs h.k14, p0 := rp hi h.p0, p1 := rp hi h.p1, p2 := rp hi h.p2, p3 := rp hi h.p3, p4 := rp hi h.p4, p5 := rp hi h.p5, p6 := rp hi h.p6, p7 := rp hi h.p7, p8 := rp hi h.p8, p9 := rp hi h.p9, p10 := rp hi h.p10, p11 := rp hi h.p11, p12 := rp hi h.p12, p13 := rp hi h.p13, p14 := rp hi h.p14, p15 := rp hi h.p15, p16 := rp hi h.p16, p17 := rp hi h.p17, p18 := rp hi h.p18, p19 := rp hi h.p19, p20 := rp hi h.p20, p21 := rp hi h.p21, p22 := rp hi h.p22, p23 := rp hi h.p23, p24 := rp hi h.p24, p25 := rp hi h.p25, p26 := rp hi h.p26, p27 := rp hi h.p27, p28 := rp hi h.p28, p29 := rp hi h.p29, p30 := fun _ => set_same (by have := h.siz; omega), p31 := rp hi h.p31, p32 := rp hi h.p32, p33 := rp hi h.p33, p34 := rp hi h.p34, p35 := rp hi h.p35, p36 := rp hi h.p36, p37 := rp hi h.p37, p38 := rp hi h.p38, p39 := rp hi h.p39, p40 := rp hi h.p40, p41 := rp hi h.p41, p42 := rp hi h.p42, p43 := rp hi h.p43, p44 := rp hi h.p44 }⟩
                    · have hi : 31 < d.size := by omega
                      refine wpOp_idle rfl (unwanted_of (d := 181) rfl rfl (h.p30 (hpre _ rfl ⟨30, .guard⟩ (by simp) rfl)) (by decide)) ?_
                      exact ⟨_, rfl, { bel := h.bel, siz := (by simpa using h.siz), kp := rk h.kp, k2 := rs h.k2, k6 := rs h.k6, k12 := rs h.k12, k13 := rs h.k13, k14 := rs h.k14, p0 := rp hi h.p0, p1 := rp hi h.p1, p2 := rp hi h.p2, p3 := rp hi h.p3, p4 := rp hi h.p4, p5 := rp hi h.p5, p6 := rp hi h.p6, p7 := rp hi h.p7, p8 := rp hi h.p8, p9 := rp hi h.p9, p10 := rp hi h.p10, p11 := rp hi h.p11, p12 := rp hi h.p12, p13 := rp hi h.p13, p14 := rp hi h.p14, p15 := rp hi h.p15, p16 := rp hi h.p16, p17 := rp hi h.p17, p18 := rp hi h.p18, p19 := rp hi h.p19, p20 := rp hi h.p20, p21 := rp hi h.p21, p22 := rp hi h.p22, p23 := rp hi h.p23, p24 := rp hi h.p24, p25 := rp hi h.p25, p26 := rp hi h.p26, p27 := rp hi h.p27, p28 := rp hi h.p28, p29 := rp hi h.p29, p30 := rp hi h.p30, p31 := fun _ => set_same (by have := h.siz; show _ < t.size; omega), p32 := rp hi h.p32, p33 := rp hi h.p33, p34 := rp hi h.p34, p35 := rp hi h.p35, p36 := rp hi h.p36, p37 := rp hi h.p37, p38 := rp hi h.p38, p39 := rp hi h.p39, p40 := rp hi h.p40, p41 := rp hi h.p41, p42 := rp hi h.p42, p43 := rp hi h.p43, p44 := rp hi h.p44 }⟩
                    · have hi : 32 < d.size := by omega
                      refine wpOp_idle rfl (unwanted_of (d := 181) rfl rfl (h.p30 (hpre _ rfl ⟨30, .guard⟩ (by simp) rfl)) (by decide)) ?_
                      exact ⟨_, rfl, { bel := h.bel, siz := (by simpa using h.siz), kp := rk h.kp, k2 := rs h.k2, k6 := rs h.k6, k12 := rs h.k12, k13 := rs h.k13, k14 := rs h.k14, p0 := rp hi h.p0, p1 := rp hi h.p1, p2 := rp hi h.p2, p3 := rp hi h.p3, p4 := rp hi h.p4, p5 := rp hi h.p5, p6 := rp hi h.p6, p7 := rp hi h.p7, p8 := rp hi h.p8, p9 := rp hi h.p9, p10 := rp hi h.p10, p11 := rp hi h.p11, p12 := rp hi h.p12, p13 := rp hi h.p13, p14 := rp hi h.p14, p15 := rp hi h.p15, p16 := rp hi h.p16, p17 := rp hi h.p17, p18 := rp hi h.p18, p19 := rp hi h.p19, p20 := rp hi h.p20, p21 := rp hi h.p21, p22 := rp hi h.p22, p23 := rp hi h.p23, p24 := rp hi h.p24, p25 := rp hi h.p25, p26 := rp hi h.p26, p27 := rp hi h.p27, p28 := rp hi h.p28, p29 := rp hi h.p29, p30 := rp hi h.p30, p31 := rp hi h.p31, p32 := fun _ => set_same (by have := h.siz; show _ < t.size; omega), p33 := rp hi h.p33, p34 := rp hi h.p34, p35 := rp hi h.p35, p36 := rp hi h.p36, p37 := rp hi h.p37, p38 := rp hi h.p38, p39 := rp hi h.p39, p40 := rp hi h.p40, p41 := rp hi h.p41, p42 := rp hi h.p42, p43 := rp hi h.p43, p44 := rp hi h.p44 }⟩
                    · have hi : 33 < d.size := by omega
                      refine wpOp_idle rfl (unwanted_of (d := 181) rfl rfl (h.p30 (hpre _ rfl ⟨30, .guard⟩ (by simp) rfl)) (by decide)) ?_
                      exact ⟨_, rfl, { bel := h.bel, siz := (by simpa using h.siz), kp := rk h.kp, k2 := rs h.k2, k6 := rs h.k6, k12 := rs h.k12, k13 := rs h.k13, k14 := rs h.k14, p0 := rp hi h.p0, p1 := rp hi h.p1, p2 := rp hi h.p2, p3 := rp hi h.p3, p4 := rp hi h.p4, p5 := rp hi h.p5, p6 := rp hi h.p6, p7 := rp hi h.p7, p8 := rp hi h.p8, p9 := rp hi h.p9, p10 := rp hi h.p10, p11 := rp hi h.p11, p12 := rp hi h.p12, p13 := rp hi h.p13, p14 := rp hi h.p14, p15 := rp hi h.p15, p16 := rp hi h.p16, p17 := rp hi h.p17, p18 := rp hi h.p18, p19 := rp hi h.p19, p20 := rp hi h.p20, p21 := rp hi h.p21, p22 := rp hi h.p22, p23 := rp hi h.p23, p24 := rp hi h.p24, p25 := rp hi h.p25, p26 := rp hi h.p26, p27 := rp hi h.p27, p28 := rp hi h.p28, p29 := rp hi h.p29, p30 := rp hi h.p30, p31 := rp hi h.p31, p32 := rp hi h.p32, p33 := fun _ => set_same (by have := h.siz; show _ < t.size; omega), p34 := rp hi h.p34, p35 := rp hi h.p35, p36 := rp hi h.p36, p37 := rp hi h.p37, p38 := rp hi h.p38, p39 := rp hi h.p39, p40 := rp hi h.p40, p41 := rp hi h.p41, p42 := rp hi h.p42, p43 := rp hi h.p43, p44 := rp hi h.p44 }⟩
                    · have hi : 34 < d.size := by omega
                      refine wpOp_idle rfl (unwanted_of (d := 181) rfl rfl (h.p30 (hpre _ rfl ⟨30, .guard⟩ (by simp) rfl)) (by decide)) ?_
                      exact ⟨_, rfl, { bel := h.bel, siz := (by simpa using h.siz), kp := rk h.kp, k2 := rs h.k2, k6 := rs h.k6, k12 := rs h.k12, k13 := rs h.k13, k14 := rs h.k14, p0 := rp hi h.p0, p1 := rp hi h.p1, p2 := rp hi h.p2, p3 := rp hi h.p3, p4 := rp hi h.p4, p5 := rp hi h.p5, p6 := rp hi h.p6, p7 := rp hi h.p7, p8 := rp hi h.p8, p9 := rp hi h.p9, p10 := rp hi h.p10, p11 := rp hi h.p11, p12 := rp hi h.p12, p13 := rp hi h.p13, p14 := rp hi h.p14, p15 := rp hi h.p15, p16 := rp hi h.p16, p17 := rp hi h.p17, p18 := rp hi h.p18, p19 := rp hi h.p19, p20 := rp hi h.p20, p21 := rp hi h.p21, p22 := rp hi h.p22, p23 := rp hi h.p23, p24 := rp hi h.p24, p25 := rp hi h.p25, p26 := rp hi h.p26, p27 := rp hi h.p27, p28 := rp hi h.p28, p29 := rp hi h.p29, p30 := rp hi h.p30, p31 := rp hi h.p31, p32 := rp hi h.p32, p33 := rp hi h.p33, p34 := fun _ => set_same (by have := h.siz; show _ < t.size; omega), p35 := rp hi h.p35, p36 := rp hi h.p36, p37 := rp hi h.p37, p38 := rp hi h.p38, p39 := rp hi h.p39, p40 := rp hi h.p40, p41 := rp hi h.p41, p42 := rp hi h.p42, p43 := rp hi h.p43, p44 := rp hi h.p44 }⟩
                    · have hi : 35 < d.size := by omega
                      refine wpOp_idle rfl (unwanted_of (d := 181) rfl rfl (h.p30 (hpre _ rfl ⟨30, .guard⟩ (by simp) rfl)) (by decide)) ?_
                      exact ⟨_, rfl, { bel := h.bel, siz := (by simpa using h.siz), kp := rk h.kp, k2 := rs h.k2, k6 := rs h.k6, k12 := rs h.k12, k13 := rs h.k13, k14 := rs h.k14, p0 := rp hi h.p0, p1 := rp hi h.p1, p2 := rp hi h.p2, p3 := rp hi h.p3, p4 := rp hi h.p4, p5 := rp hi h.p5, p6 := rp hi h.p6, p7 := rp hi h.p7, p8 := rp hi h.p8, p9 := rp hi h.p9, p10 := rp hi h.p10, p11 := rp hi h.p11, p12 := rp hi h.p12, p13 := rp hi h.p13, p14 := rp hi h.p14, p15 := rp hi h.p15, p16 := rp hi h.p16, p17 := rp hi h.p17, p18 := rp hi h.p18, p19 := rp hi h.p19, p20 := rp hi h.p20, p21 := rp hi h.p21, p22 := rp hi h.p22, p23 := rp hi h.p23, p24 := rp hi h.p24, p25 := rp hi h.p25, p26 := rp hi h.p26, p27 := rp hi h.p27, p28 := rp hi h.p28, p29 := rp hi h.p29, p30 := rp hi h.p30, p31 := rp hi h.p31, p32 := rp hi h.p32, p33 := rp hi h.p33, p34 := rp hi h.p34, p35 := fun _ => set_same (by have := h.siz; show _ < t.size; omega), p36 := rp hi h.p36, p37 := rp hi h.p37, p38 := rp hi h.p38, p39 := rp hi h.p39, p40 := rp hi h.p40, p41 := rp hi h.p41, p42 := rp hi h.p42, p43 := rp hi h.p43, p44 := rp hi h.p44 }⟩
                    · have hi : 36 < d.size := by omega
                      refine wpOp_idle rfl (unwanted_of (d := 181) rfl rfl (h.p30 (hpre _ rfl ⟨30, .guard⟩ (by simp) rfl)) (by decide)) ?_
                      exact ⟨_, rfl, { bel := h.bel, siz := (by simpa using h.siz), kp := rk h.kp, k2 := rs h.k2, k6 := rs h.k6, k12 := rs h.k12, k13 := rs h.k13, k14 := rs h.k14, p0 := rp hi h.p0, p1 := rp hi h.p1, p2 := rp hi h.p2, p3 := rp hi h.p3, p4 := rp hi h.p4, p5 := rp hi h.p5, p6 := rp hi h.p6, p7 := rp hi h.p7, p8 := rp hi h.p8, p9 := rp hi h.p9, p10 := rp hi h.p10, p11 := rp hi h.p11, p12 := rp hi h.p12, p13 := rp hi h.p13, p14 := rp hi h.p14, p15 := rp hi h.p15, p16 := rp hi h.p16, p17 := rp hi h.p17, p18 := rp hi h.p18, p19 := rp hi h.p19, p20 := rp hi h.p20, p21 := rp hi h.p21, p22 := rp hi h.p22, p23 := rp hi h.p23, p24 := rp hi h.p24, p25 := rp hi h.p25, p26 := rp hi h.p26, p27 := rp hi h.p27, p28 := rp hi h.p28, p29 := rp hi h.p29, p30 := rp hi h.p30, p31 := rp hi h.p31, p32 := rp hi h.p32, p33 := rp hi h.p33, p34 := rp hi h.p34, p35 := rp hi h.p35, p36 := fun _ => set_same (by have := h.siz; show _ < t.size; omega), p37 := rp hi h.p37, p38 := rp hi h.p38, p39 := rp hi h.p39, p40 := rp hi h.p40, p41 := rp hi h.p41, p42 := rp hi h.p42, p43 := rp hi h.p43, p44 := rp hi h.p44 }⟩
                    · have hi : 37 < d.size := by omega
                      refine wpOp_idle rfl (unwanted_of (d := 181) rfl rfl (h.p30 (hpre _ rfl ⟨30, .guard⟩ (by simp) rfl)) (by decide)) ?_
                      exact ⟨_, rfl, { bel := h.bel, siz := (by simpa using h.siz), kp := rk h.kp, k2 := rs h.k2, k6 := rs h.k6, k12 := rs h.k12, k13 := rs h.k13, k14 := rs h.k14, p0 := rp hi h.p0, p1 := rp hi h.p1, p2 := rp hi h.p2, p3 := rp hi h.p3, p4 := rp hi h.p4, p5 := rp hi h.p5, p6 := rp hi h.p6, p7 := rp hi h.p7, p8 := rp hi h.p8, p9 := rp hi h.p9, p10 := rp hi h.p10, p11 := rp hi h.p11, p12 := rp hi h.p12, p13 := rp hi h.p13, p14 := rp hi h.p14, p15 := rp hi h.p15, p16 := rp hi h.p16, p17 := rp hi h.p17, p18 := rp hi h.p18, p19 := rp hi h.p19, p20 := rp hi h.p20, p21 := rp hi h.p21, p22 := rp hi h.p22, p23 := rp hi h.p23, p24 := rp hi h.p24, p25 := rp hi h.p25, p26 := rp hi h.p26, p27 := rp hi h.p27, p28 := rp hi h.p28, p29 := rp hi h.p29, p30 := rp hi h.p30, p31 := rp hi h.p31, p32 := rp hi h.p32, p33 := rp hi h.p33, p34 := rp hi h.p34, p35 := rp hi h.p35, p36 := rp hi h.p36, p37 := fun _ => set_same (by have := h.siz; show _ < t.size; omega), p38 := rp hi h.p38, p39 := rp hi h.p39, p40 := rp hi h.p40, p41 := rp hi h.p41, p42 := rp hi h.p42, p43 := rp hi h.p43, p44 := rp hi h.p44 }⟩
                    · have hi : 38 < d.size := by omega
                      refine wpOp_idle rfl (unwanted_of (d := 181) rfl rfl (h.p30 (hpre _ rfl ⟨30, .guard⟩ (by simp) rfl)) (by decide)) ?_
                      exact ⟨_, rfl, { bel := h.bel, siz := (by simpa using h.siz), kp := rk h.kp, k2 := rs h.k2, k6 := rs h.k6, k12 := rs h.k12, k13 := rs h.k13, k14 := rs h.k14, p0 := rp hi h.p0, p1 := rp hi h.p1, p2 := rp hi h.p2, p3 := rp hi h.p3, p4 := rp hi h.p4, p5 := rp hi h.p5, p6 := rp hi h.p6, p7 := rp hi h.p7, p8 := rp hi h.p8, p9 := rp hi h.p9, p10 := rp hi h.p10, p11 := rp hi h.p11, p12 := rp hi h.p12, p13 := rp hi h.p13, p14 := rp hi h.p14, p15 := rp hi h.p15, p16 := rp hi h.p16, p17 := rp hi h.p17, p18 := rp hi h.p18, p19 := rp hi h.p19, p20 := rp hi h.p20, p21 := rp hi h.p21, p22 := rp hi h.p22, p23 := rp hi h.p23, p24 := rp hi h.p24, p25 := rp hi h.p25, p26 := rp hi h.p26, p27 := rp hi h.p27, p28 := rp hi h.p28, p29 := rp hi h.p29, p30 := rp hi h.p30, p31 := rp hi h.p31, p32 := rp hi h.p32, p33 := rp hi h.p33, p34 := rp hi h.p34, p35 := rp hi h.p35, p36 := rp hi h.p36, p37 := rp hi h.p37, p38 := fun _ => set_same (by have := h.siz; show _ < t.size; omega), p39 := rp hi h.p39, p40 := rp hi h.p40, p41 := rp hi h.p41, p42 := rp hi h.p42, p43 := rp hi h.p43, p44 := rp hi h.p44 }⟩
                    · have hi : 39 < d.size := by omega
                      refine wpOp_idle rfl (unwanted_of (d := 181) rfl rfl (h.p30 (hpre _ rfl ⟨30, .guard⟩ (by simp) rfl)) (by decide)) ?_
                      exact ⟨_, rfl, { bel := h.bel, siz := (by simpa using h.siz), kp := rk h.kp, k2 := rs h.k2, k6 := rs h.k6, k12 := rs h.k12, k13 := rs h.k13, k14 := rs h.k14, p0 := rp hi h.p0, p1 := rp hi h.p1, p2 := rp hi h.p2, p3 := rp hi h.p3, p4 := rp hi h.p4, p5 := rp hi h.p5, p6 := rp hi h.p6, p7 := rp hi h.p7, p8 := rp hi h.p8, p9 := rp hi h.p9, p10 := rp hi h.p10, p11 := rp hi h.p11, p12 := rp hi h.p12, p13 := rp hi h.p13, p14 := rp hi h.p14, p15 := rp hi h.p15, p16 := rp hi h.p16, p17 := rp hi h.p17, p18 := rp hi h.p18, p19 := rp hi h.p19, p20 := rp hi h.p20, p21 := rp hi h.p21, p22 := rp hi h.p22, p23 := rp hi h.p23, p24 := rp hi h.p24, p25 := rp hi h.p25, p26 := rp hi h.p26, p27 := rp hi h.p27, p28 := rp hi h.p28, p29 := rp hi h.p29, p30 := rp hi h.p30, p31 := rp hi h.p31, p32 := rp hi h.p32, p33 := rp hi h.p33, p34 := rp hi h.p34, p35 := rp hi h.p35, p36 := rp hi h.p36, p37 := rp hi h.p37, p38 := rp hi h.p38, p39 := fun _ => set_same (by have := h.siz; show _ < t.size; omega), p40 := rp hi h.p40, p41 := rp hi h.p41, p42 := rp hi h.p42, p43 := rp hi h.p43, p44 := rp hi h.p44 }⟩
                    · have hi : 40 < d.size := by omega
                      refine wpOp_idle rfl (unwanted_of (d := 181) rfl rfl (h.p30 (hpre _ rfl ⟨30, .guard⟩ (by simp) rfl)) (by decide)) ?_
                      exact ⟨_, rfl, { bel := h.bel, siz := (by simpa using h.siz), kp := rk h.kp, k2 := rs h.k2, k6 := rs h.k6, k12 := rs h.k12, k13 := rs h.k13, k14 := rs h.k14, p0 := rp hi h.p0, p1 := rp hi h.p1, p2 := rp hi h.p2, p3 := rp hi h.p3, p4 := rp hi h.p4, p5 := rp hi h.p5, p6 := rp hi h.p6, p7 := rp hi h.p7, p8 := rp hi h.p8, p9 := rp hi h.p9, p10 := rp hi h.p10, p11 := rp hi h.p11, p12 := rp hi h.p12, p13 := rp hi h.p13, p14 := rp hi h.p14, p15 := rp hi h.p15, p16 := rp hi h.p16, p17 := rp hi h.p17, p18 := rp hi h.p18, p19 := rp hi h.p19, p20 := rp hi h.p20, p21 := rp hi h.p21, p22 := rp hi h.p22, p23 := rp hi h.p23, p24 := rp hi h.p24, p25 := rp hi h.p25, p26 := rp hi h.p26, p27 := rp hi h.p27, p28 := rp hi h.p28, p29 := rp hi h.p29, p30 := rp hi h.p30, p31 := rp hi h.p31, p32 := rp hi h.p32, p33 := rp hi h.p33, p34 := rp hi h.p34, p35 := rp hi h.p35, p36 := rp hi h.p36, p37 := rp hi h.p37, p38 := rp hi h.p38, p39 := rp hi h.p39, p40 := fun _ => set_same (by have := h.siz; show _ < t.size; omega), p41 := rp hi h.p41, p42 := rp hi h.p42, p43 := rp hi h.p43, p44 := rp hi h.p44 }⟩
                    · have hi : 41 < d.size := by omega
                      refine wpOp_idle rfl (unwanted_of (d := 181) rfl rfl (h.p30 (hpre _ rfl ⟨30, .guard⟩ (by simp) rfl)) (by decide)) ?_
                      exact ⟨_, rfl, { bel := h.bel, siz := (by simpa using h.siz), kp := rk h.kp, k2 := rs h.k2, k6 := rs h.k6, k12 := rs h.k12, k13 := rs h.k13, k14 := rs h.k14, p0 := rp hi h.p0, p1 := rp hi h.p1, p2 := rp hi h.p2, p3 := rp hi h.p3, p4 := rp hi h.p4, p5 := rp hi h.p5, p6 := rp hi h.p6, p7 := rp hi h.p7, p8 := rp hi h.p8, p9 := rp hi h.p9, p10 := rp hi h.p10, p11 := rp hi h.p11, p12 := rp hi h.p12, p13 := rp hi h.p13, p14 := rp hi h.p14, p15 := rp hi h.p15, p16 := rp hi h.p16, p17 := rp hi h.p17, p18 := rp hi h.p18, p19 := rp hi h.p19, p20 := rp hi h.p20, p21 := rp hi h.p21, p22 := rp hi h.p22, p23 := rp hi h.p23, p24 := rp hi h.p24, p25 := rp hi h.p25, p26 := rp hi h.p26, p27 := rp hi h.p27, p28 := rp hi h.p28, p29 := rp hi h.p29, p30 := rp hi h.p30, p31 := rp hi h.p31, p32 := rp hi h.p32, p33 := rp hi h.p33, p34 := rp hi h.p34, p35 := rp hi h.p35, p36 := rp hi h.p36, p37 := rp hi h.p37, p38 := rp hi h.p38, p39 := rp hi h.p39, p40 := rp hi h.p40, p41 := fun _ => set_same (by have := h.siz; show _ < t.size; omega), p42 := rp hi h.p42, p43 := rp hi h.p43, p44 := rp hi h.p44 }⟩
                    · have hi : 42 < d.size := by omega
                      refine wpOp_idle rfl (unwanted_of (d := 181) rfl rfl (h.p30 (hpre _ rfl ⟨30, .guard⟩ (by simp) rfl)) (by decide)) ?_
                      exact ⟨_, rfl, { bel := h.bel, siz := (by simpa using h.siz), kp := rk h.kp, k2 := rs h.k2, k6 := rs h.k6, k12 := rs h.k12, k13 := rs h.k13, k14 := rs h.k14, p0 := rp hi h.p0, p1 := rp hi h.p1, p2 := rp hi h.p2, p3 := rp hi h.p3, p4 := rp hi h.p4, p5 := rp hi h.p5, p6 := rp hi h.p6, p7 := rp hi h.p7, p8 := rp hi h.p8, p9 := rp hi h.p9, p10 := rp hi h.p10, p11 := rp hi h.p11, p12 := rp hi h.p12, p13 := rp hi h.p13, p14 := rp hi h.p14, p15 := rp hi h.p15, p16 := rp hi h.p16, p17 := rp hi h.p17, p18 := rp hi h.p18, p19 := rp hi h.p19, p20 := rp hi h.p20, p21 := rp hi h.p21, p22 := rp hi h.p22, p23 := rp hi h.p23, p24 := rp hi h.p24, p25 := rp hi h.p25, p26 := rp hi h.p26, p27 := rp hi h.p27, p28 := rp hi h.p28, p29 := rp hi h.p29, p30 := rp hi h.p30, p31 := rp hi h.p31, p32 := rp hi h.p32, p33 := rp hi h.p33, p34 := rp hi h.p34, p35 := rp hi h.p35, p36 := rp hi h.p36, p37 := rp hi h.p37, p38 := rp hi h.p38, p39 := rp hi h.p39, p40 := rp hi h.p40, p41 := rp hi h.p41, p42 := fun _ => set_same (by have := h.siz; show _ < t.size; omega), p43 := rp hi h.p43, p44 := rp hi h.p44 }⟩
                    · have hi : 43 < d.size := by omega
                      have e30 := h.p30 (hpre _ rfl ⟨30, .data⟩ (by simp) rfl)
                      have e42 := h.p42 (hpre _ rfl ⟨42, .data⟩ (by simp) rfl)
                      refine wpOp_guard rfl (wanted_of (d := 178) rfl rfl (h.p27 (hpre _ rfl ⟨27, .guard⟩ (by simp) rfl))) ?_
                      go_simp
                      exact ⟨_, rfl, { bel := h.bel, siz := (by simpa using h.siz), kp := rk h.kp, k2 := rs h.k2, k6 := rs h.k6, k12 := rs h.k12, k13 := rs h.k13, k14 := rs h.k14, p0 := rp hi h.p0, p1 := rp hi h.p1, p2 := rp hi h.p2, p3 := rp hi h.p3, p4 := rp hi h.p4, p5 := rp hi h.p5, p6 := rp hi h.p6, p7 := rp hi h.p7, p8 := rp hi h.p8, p9 := rp hi h.p9, p10 := rp hi h.p10, p11 := rp hi h.p11, p12 := rp hi h.p12, p13 := rp hi h.p13, p14 := rp hi h.p14, p15 := rp hi h.p15, p16 := rp hi h.p16, p17 := rp hi h.p17, p18 := rp hi h.p18, p19 := rp hi h.p19, p20 := rp hi h.p20, p21 := rp hi h.p21, p22 := rp hi h.p22, p23 := rp hi h.p23, p24 := rp hi h.p24, p25 := rp hi h.p25, p26 := rp hi h.p26, p27 := rp hi h.p27, p28 := rp hi h.p28, p29 := rp hi h.p29, p30 := rp hi h.p30, p31 := rp hi h.p31, p32 := rp hi h.p32, p33 := rp hi h.p33, p34 := rp hi h.p34, p35 := rp hi h.p35, p36 := rp hi h.p36, p37 := rp hi h.p37, p38 := rp hi h.p38, p39 := rp hi h.p39, p40 := rp hi h.p40, p41 := rp hi h.p41, p42 := rp hi h.p42, p43 := fun _ => set_same (by have := h.siz; omega), p44 := rp hi h.p44 }⟩
                    · have hi : 44 < d.size := by omega
                      have e27 := h.p27 (hpre _ rfl ⟨27, .data⟩ (by simp) rfl)
                      have e43 := h.p43 (hpre _ rfl ⟨43, .data⟩ (by simp) rfl)
                      refine wpOp_plain rfl rfl ?_
                      go_simp
                      exact ⟨_, rfl, { bel := h.bel, siz := (by simpa using h.siz), kp := rk h.kp, k2 := rs h.k2, k6 := rs h.k6, k12 := rs h.k12, k13 := rs h.k13, k14 := rs h.k14, p0 := rp hi h.p0, p1 := rp hi h.p1, p2 := rp hi h.p2, p3 := rp hi h.p3, p4 := rp hi h.p4, p5 := rp hi h.p5, p6 := rp hi h.p6, p7 := rp hi h.p7, p8 := rp hi h.p8, p9 := rp hi h.p9, p10 := rp hi h.p10, p11 := rp hi h.p11, p12 := rp hi h.p12, p13 := rp hi h.p13, p14 := rp hi h.p14, p15 := rp hi h.p15, p16 := rp hi h.p16, p17 := rp hi h.p17, p18 := rp hi h.p18, p19 := rp hi h.p19, p20 := rp hi h.p20, p21 := rp hi h.p21, p22 := rp hi h.p22, p23 := rp hi h.p23, p24 := rp hi h.p24, p25 := rp hi h.p25, p26 := rp hi h.p26, p27 := rp hi h.p27, p28 := rp hi h.p28, p29 := rp hi h.p29, p30 := rp hi h.p30, p31 := rp hi h.p31, p32 := rp hi h.p32, p33 := rp hi h.p33, p34 := rp hi h.p34, p35 := rp hi h.p35, p36 := rp hi h.p36, p37 := rp hi h.p37, p38 := rp hi h.p38, p39 := rp hi h.p39, p40 := rp hi h.p40, p41 := rp hi h.p41, p42 := rp hi h.p42, p43 := rp hi h.p43, p44 := fun _ => set_same (by have := h.siz; omega) }⟩
                  case gende =>
                    intro d a wc hd hI hall
                    obtain ⟨t, rfl, h⟩ := hI
                    have hdn : ∀ j, j < 45 → dn d j := fun j hj => dn_all hd hall hj
                    have hd : ∀ j, (_ : j < 45 := by decide) → dn d j := fun j hj => hdn j hj
                    have hfe := frame_eq [(151, _), (152, _), (153, _), (154, _), (155, _), (156, _), (157, _), (158, _), (159, _), (160, _), (161, _), (162, _), (163, _), (164, _), (165, _), (166, _), (167, _), (168, _), (169, _), (170, _), (171, _), (172, _), (173, _), (174, _), (175, _), (176, _), (177, _), (178, _), (179, _), (180, _), (181, _), (182, _), (183, _), (184, _), (185, _), (186, _), (187, _), (188, _), (189, _), (190, _), (191, _), (192, _), (193, _), (194, _), (195, _)] (h.siz.trans rfl) h.kp rfl ⟨h.p0 (hd 0), h.p1 (hd 1), h.p2 (hd 2), h.p3 (hd 3), h.p4 (hd 4), h.p5 (hd 5), h.p6 (hd 6), h.p7 (hd 7), h.p8 (hd 8), h.p9 (hd 9), h.p10 (hd 10), h.p11 (hd 11), h.p12 (hd 12), h.p13 (hd 13), h.p14 (hd 14), h.p15 (hd 15), h.p16 (hd 16), h.p17 (hd 17), h.p18 (hd 18), h.p19 (hd 19), h.p20 (hd 20), h.p21 (hd 21), h.p22 (hd 22), h.p23 (hd 23), h.p24 (hd 24), h.p25 (hd 25), h.p26 (hd 26), h.p27 (hd 27), h.p28 (hd 28), h.p29 (hd 29), h.p30 (hd 30), h.p31 (hd 31), h.p32 (hd 32), h.p33 (hd 33), h.p34 (hd 34), h.p35 (hd 35), h.p36 (hd 36), h.p37 (hd 37), h.p38 (hd 38), h.p39 (hd 39), h.p40 (hd 40), h.p41 (hd 41), h.p42 (hd 42), h.p43 (hd 43), h.p44 (hd 44), trivial⟩
                    simp only [List.foldl_cons, List.foldl_nil, List.setIfInBounds_toArray, List.set_cons_succ, List.set_cons_zero] at hfe
                    have hbc := h.bel
                    subst hfe
                    clear h hdn hd hall
                    replace HBY := Lib.hid (HBY.out.trans (hbc.mono HBY.out.size))
                    clear hbc
                    rename World => wy
                    go_wp2_with fail
                    go_roundg (n - (i + 1))
                    case measure => omega
                    case rel => exact ⟨i + 1, by omega, rfl, by go_num, HBY.out⟩
                · obtain ⟨j, hj⟩ : ∃ j, i = j + 1 := ⟨i - 1, by omega⟩
                  have HJ := Lib.hid hj
                  obtain ⟨cp, hcp⟩ : ∃ cp, (Lx.cutsR x ts most)[j]? = some cp := ⟨_, List.getElem?_eq_getElem (by rw [← HN.out]; omega)⟩
                  obtain ⟨bp, op, vp, hUp, hbp, kp0, kp1, hfp⟩ := rdg_cut HRA6.out hcp
                  cases hUp
                  obtain ⟨Fp, cfp, rfl⟩ := hfp.form
                  obtain ⟨np, hnp⟩ : ∃ np, np = cp.1.length := ⟨_, rfl⟩
                  rw [← hnp] at kp0
                  obtain ⟨hle, hne⟩ := HAP.out.asc j cp c hcp (by rw [← hj]; exact HC.out)
                  obtain ⟨wp, hwp⟩ : ∃ wp, wp = cp.2 := ⟨_, rfl⟩
                  rw [← hwp] at kp1 hle
                  have hnlt : ¬ c.2 < wp := by omega
                  have hjn : j < n := by omega
                  have hipI : 0 < (i : Int) := by omega
                  have CM : Hid (∀ W : World, Below w6.heap.size w6 W → W.cell? ⟨w.heap.size, 3, none⟩ = some (.string ts) ∧ W.cell? ⟨ba, oa + i * 2, none⟩ = some (.slice Fa nf cfa) ∧ W.cell? ⟨ba, oa + i * 2 + 1, none⟩ = some (.int .i64 c.2) ∧
                      W.cell? ⟨ba, oa + j * 2, none⟩ = some (.slice Fp np cfp) ∧ W.cell? ⟨ba, oa + j * 2 + 1, none⟩ = some (.int .i64 wp) ∧ True) := Lib.hid fun W hW =>
                    ⟨(BXA.out W (H6a.out.trans (hW.mono H6a.out.size))).2.2.2, (HCI.out W hW).1, (HCI.out W hW).2, (hW.cell (p := ⟨ba, _, none⟩) hbp).trans kp0, (hW.cell (p := ⟨ba, _, none⟩) hbp).trans kp1, trivial⟩
                  have HSF : Hid (∀ W : World, Below w6.heap.size w6 W → Calls Tryd.prog 23 #[.slice Fa nf cfa, .slice Fp np cfp] W (RetBB false W)) := Lib.hid fun W hW => by
                    have := SameForms_any _ _ c.1 cp.1 W (fun b => b < W.heap.size) (fun b hb => hb) (HFA.out.keep fun b hb => ⟨Nat.lt_of_lt_of_le hb hW.size, hW.block b hb⟩) (hfp.keep fun b hb => ⟨Nat.lt_of_lt_of_le hb hW.size, hW.block b hb⟩) (HFI.out.2 c HMC.out) (HFI.out.2 cp (List.mem_of_getElem? hcp))
                    rw [← HNF.out, ← hnp] at this
                    simpa [hne] using this
                  clear hby hts hkn htk p1 HTS0 hlk hcp hbp kp0 kp1 hfp hnp hle hne hwp hj
                  go_upto_region 22 with fail
                  refine wp_region_inv2T (fun T0 => CpdI T0 wy w.heap.size ba oa n Ka i j ts c.2 wp Fa nf cfa Fp np cfp) (by kernel_rfl) (by kernel_rfl) ?g0d ?gstepd ?gendd
                  case g0d =>
                    have hno : ∀ j, ¬ dn (Array.replicate 45 false) j := by
                      intro j; unfold dn; by_cases hj : j < 45 <;> simp [Array.getD, hj]
                    have na : ∀ {j : Nat} {Z : Prop}, dn (Array.replicate 45 false) j → Z := fun hj => absurd hj (hno _)
                    exact ⟨_, rfl, { bel := (Below.refl _ _).drew, siz := rfl, kp := fun _ _ => rfl, k2 := rfl, k6 := rfl, k12 := rfl, k13 := rfl, k14 := rfl, p0 := na, p1 := na, p2 := na, p3 := na, p4 := na, p5 := na, p6 := na, p7 := na, p8 := na, p9 := na, p10 := na, p11 := na, p12 := na, p13 := na, p14 := na, p15 := na, p16 := na, p17 := na, p18 := na, p19 := na, p20 := na, p21 := na, p22 := na, p23 := na, p24 := na, p25 := na, p26 := na, p27 := na, p28 := na, p29 := na, p30 := na, p31 := na, p32 := na, p33 := na, p34 := na, p35 := na, p36 := na, p37 := na, p38 := na, p39 := na, p40 := na, p41 := na, p42 := na, p43 := na, p44 := na }⟩
                  case gstepd =>
                    intro T0 d a wc i hd hI hi
                    obtain ⟨hlt, hnd, hpre⟩ := mem_ready hi
                    have hd' : d.size = 45 := hd
                    have hin : i < 45 := hlt
                    clear hi hd hlt
                    obtain ⟨t, rfl, h⟩ := hI
                    have hcs : i = 0 ∨ i = 1 ∨ i = 2 ∨ i = 3 ∨ i = 4 ∨ i = 5 ∨ i = 6 ∨ i = 7 ∨ i = 8 ∨ i = 9 ∨ i = 10 ∨ i = 11 ∨ i = 12 ∨ i = 13 ∨ i = 14 ∨ i = 15 ∨ i = 16 ∨ i = 17 ∨ i = 18 ∨ i = 19 ∨ i = 20 ∨ i = 21 ∨ i = 22 ∨ i = 23 ∨ i = 24 ∨ i = 25 ∨ i = 26 ∨ i = 27 ∨ i = 28 ∨ i = 29 ∨ i = 30 ∨ i = 31 ∨ i = 32 ∨ i = 33 ∨ i = 34 ∨ i = 35 ∨ i = 36 ∨ i = 37 ∨ i = 38 ∨ i = 39 ∨ i = 40 ∨ i = 41 ∨ i = 42 ∨ i = 43 ∨ i = 44 := by omega
                    rcases hcs with rfl | rfl | rfl | rfl | rfl | rfl | rfl | rfl | rfl | rfl | rfl | rfl | rfl | rfl | rfl | rfl | rfl | rfl | rfl | rfl | rfl | rfl | rfl | rfl | rfl | rfl | rfl | rfl | rfl | rfl | rfl | rfl | rfl | rfl | rfl | rfl | rfl | rfl | rfl | rfl | rfl | rfl | rfl | rfl | rfl
                    · have hi : 0 < d.size := by omega
                      have q13 := h.k13
                      refine wpOp_plain rfl rfl ?_
                      go_simp
                      exact ⟨_, rfl, { bel := h.bel, siz := (by simpa using h.siz), kp := rk h.kp, k2 := rs h.k2, k6 := rs h.k6, k12 := rs h.k12, k13 := rs h.k13, k14 := rs h.k14, p0 := fun _ => set_same (by have := h.siz; omega), p1 := rp hi h.p1, p2 := rp hi h.p2, p3 := rp hi h.p3, p4 := rp hi h.p4, p5 := rp hi h.p5, p6 := rp hi h.p6, p7 := rp hi h.p7, p8 := rp hi h.p8, p9 := rp hi h.p9, p10 := rp hi h.p10, p11 := rp hi h.p11, p12 := rp hi h.p12, p13 := rp hi h.p13, p14 := rp hi h.p14, p15 := rp hi h.p15, p16 := rp hi h.p16, p17 := rp hi h.p17, p18 := rp hi h.p18, p19 := rp hi h.p19, p20 := rp hi h.p20, p21 := rp hi h.p21, p22 := rp hi h.p22, p23 := rp hi h.p23, p24 := rp hi h.p24, p25 := rp hi h.p25, p26 := rp hi h.p26, p27 := rp hi h.p27, p28 := rp hi h.p28, p29 := rp hi h.p29, p30 := rp hi h.p30, p31 := rp hi h.p31, p32 := rp hi h.p32, p33 := rp hi h.p33, p34 := rp hi h.p34, p35 := rp hi h.p35, p36 := rp hi h.p36, p37 := rp hi h.p37, p38 := rp hi h.p38, p39 := rp hi h.p39, p40 := rp hi h.p40, p41 := rp hi h.p41, p42 := rp hi h.p42, p43 := rp hi h.p43, p44 := rp hi h.p44 }⟩
                    · have hi : 1 < d.size := by omega
                      have q2 := h.k2
                      refine wpOp_plain rfl rfl ?_
                      go_simp
                      exact ⟨_, rfl, { bel := h.bel, siz := (by simpa using h.siz), kp := rk h.kp, k2 := rs h.k2, k6 := rs h.k6, k12 := rs h.k12, k13 := rs h.k13, k14 := rs h.k14, p0 := rp hi h.p0, p1 := fun _ => set_same (by have := h.siz; omega), p2 := rp hi h.p2, p3 := rp hi h.p3, p4 := rp hi h.p4, p5 := rp hi h.p5, p6 := rp hi h.p6, p7 := rp hi h.p7, p8 := rp hi h.p8, p9 := rp hi h.p9, p10 := rp hi h.p10, p11 := rp hi h.p11, p12 := rp hi h.p12, p13 := rp hi h.p13, p14 := rp hi h.p14, p15 := rp hi h.p15, p16 := rp hi h.p16, p17 := rp hi h.p17, p18 := rp hi h.p18, p19 := rp hi h.p19, p20 := rp hi h.p20, p21 := rp hi h.p21, p22 := rp hi h.p22, p23 := rp hi h.p23, p24 := rp hi h.p24, p25 := rp hi h.p25, p26 := rp hi h.p26, p27 := rp hi h.p27, p28 := rp hi h.p28, p29 := rp hi h.p29, p30 := rp hi h.p30, p31 := rp hi h.p31, p32 := rp hi h.p32, p33 := rp hi h.p33, p34 := rp hi h.p34, p35 := rp hi h.p35, p36 := rp hi h.p36, p37 := rp hi h.p37, p38 := rp hi h.p38, p39 := rp hi h.p39, p40 := rp hi h.p40, p41 := rp hi h.p41, p42 := rp hi h.p42, p43 := rp hi h.p43, p44 := rp hi h.p44 }⟩
                    · have hi : 2 < d.size := by omega
                      have e1 := h.p1 (hpre _ rfl ⟨1, .data⟩ (by simp) rfl)
                      obtain ⟨k0, k1, k2, k3, k4, k5⟩ := CM.out wc (HBY.out.trans (h.bel.mono HBY.out.size))
                      refine wpOp_plain rfl rfl ?_
                      go_simp
                      exact ⟨_, rfl, { bel := h.bel, siz := (by simpa using h.siz), kp := rk h.kp, k2 := rs h.k2, k6 := rs h.k6, k12 := rs h.k12, k13 := rs h.k13, k14 := rs h.k14, p0 := rp hi h.p0, p1 := rp hi h.p1, p2 := fun _ => set_same (by have := h.siz; omega), p3 := rp hi h.p3, p4 := rp hi h.p4, p5 := rp hi h.p5, p6 := rp hi h.p6, p7 := rp hi h.p7, p8 := rp hi h.p8, p9 := rp hi h.p9, p10 := rp hi h.p10, p11 := rp hi h.p11, p12 := rp hi h.p12, p13 := rp hi h.p13, p14 := rp hi h.p14, p15 := rp hi h.p15, p16 := rp hi h.p16, p17 := rp hi h.p17, p18 := rp hi h.p18, p19 := rp hi h.p19, p20 := rp hi h.p20, p21 := rp hi h.p21, p22 := rp hi h.p22, p23 := rp hi h.p23, p24 := rp hi h.p24, p25 := rp hi h.p25, p26 := rp hi h.p26, p27 := rp hi h.p27, p28 := rp hi h.p28, p29 := rp hi h.p29, p30 := rp hi h.p30, p31 := rp hi h.p31, p32 := rp hi h.p32, p33 := rp hi h.p33, p34 := rp hi h.p34, p35 := rp hi h.p35, p36 := rp hi h.p36, p37 := rp hi h.p37, p38 := rp hi h.p38, p39 := rp hi h.p39, p40 := rp hi h.p40, p41 := rp hi h.p41, p42 := rp hi h.p42, p43 := rp hi h.p43, p44 := rp hi h.p44 }⟩
                    · have hi : 3 < d.size := by omega
                      have e0 := h.p0 (hpre _ rfl ⟨0, .data⟩ (by simp) rfl)
                      have e2 := h.p2 (hpre _ rfl ⟨2, .data⟩ (by simp) rfl)
                      refine wpOp_plain rfl rfl ?_
                      go_simp
                      exact ⟨_, rfl, { bel := h.bel, siz := (by simpa using h.siz), kp := rk h.kp, k2 := rs h.k2, k6 := rs h.k6, k12 := rs h.k12, k13 := rs h.k13, k14 := rs h.k14, p0 := rp hi h.p0, p1 := rp hi h.p1, p2 := rp hi h.p2, p3 := fun _ => set_same (by have := h.siz; omega), p4 := rp hi h.p4, p5 := rp hi h.p5, p6 := rp hi h.p6, p7 := rp hi h.p7, p8 := rp hi h.p8, p9 := rp hi h.p9, p10 := rp hi h.p10, p11 := rp hi h.p11, p12 := rp hi h.p12, p13 := rp hi h.p13, p14 := rp hi h.p14, p15 := rp hi h.p15, p16 := rp hi h.p16, p17 := rp hi h.p17, p18 := rp hi h.p18, p19 := rp hi h.p19, p20 := rp hi h.p20, p21 := rp hi h.p21, p22 := rp hi h.p22, p23 := rp hi h.p23, p24 := rp hi h.p24, p25 := rp hi h.p25, p26 := rp hi h.p26, p27 := rp hi h.p27, p28 := rp hi h.p28, p29 := rp hi h.p29, p30 := rp hi h.p30, p31 := rp hi h.p31, p32 := rp hi h.p32, p33 := rp hi h.p33, p34 := rp hi h.p34, p35 := rp hi h.p35, p36 := rp hi h.p36, p37 := rp hi h.p37, p38 := rp hi h.p38, p39 := rp hi h.p39, p40 := rp hi h.p40, p41 := rp hi h.p41, p42 := rp hi h.p42, p43 := rp hi h.p43, p44 := rp hi h.p44 }⟩
                    · have hi : 4 < d.size := by omega
                      have e3 := h.p3 (hpre _ rfl ⟨3, .data⟩ (by simp) rfl)
                      refine wpOp_plain rfl rfl ?_
                      go_simp
                      exact ⟨_, rfl, { bel := h.bel, siz := (by simpa using h.siz), kp := rk h.kp, k2 := rs h.k2, k6 := rs h.k6, k12 := rs h.k12, k13 := rs h.k13, k14 := rs h.k14, p0 := rp hi h.p0, p1 := rp hi h.p1, p2 := rp hi h.p2, p3 := rp hi h.p3, p4 := fun _ => set_same (by have := h.siz; omega), p5 := rp hi h.p5, p6 := rp hi h.p6, p7 := rp hi h.p7, p8 := rp hi h.p8, p9 := rp hi h.p9, p10 := rp hi h.p10, p11 := rp hi h.p11, p12 := rp hi h.p12, p13 := rp hi h.p13, p14 := rp hi h.p14, p15 := rp hi h.p15, p16 := rp hi h.p16, p17 := rp hi h.p17, p18 := rp hi h.p18, p19 := rp hi h.p19, p20 := rp hi h.p20, p21 := rp hi h.p21, p22 := rp hi h.p22, p23 := rp hi h.p23, p24 := rp hi h.p24, p25 := rp hi h.p25, p26 := rp hi h.p26, p27 := rp hi h.p27, p28 := rp hi h.p28, p29 := rp hi h.p29, p30 := rp hi h.p30, p31 := rp hi h.p31, p32 := rp hi h.p32, p33 := rp hi h.p33, p34 := rp hi h.p34, p35 := rp hi h.p35, p36 := rp hi h.p36, p37 := rp hi h.p37, p38 := rp hi h.p38, p39 := rp hi h.p39, p40 := rp hi h.p40, p41 := rp hi h.p41, p42 := rp hi h.p42, p43 := rp hi h.p43, p44 := rp hi h.p44 }⟩
                    · have hi : 5 < d.size := by omega
                      have q14 := h.k14
                      refine wpOp_guard rfl (wanted_of (d := 155) rfl rfl (h.p4 (hpre _ rfl ⟨4, .guard⟩ (by simp) rfl))) ?_
                      go_simp
                      exact ⟨_, rfl, { bel := h.bel, siz := (by simpa using h.siz), kp := rk h.kp, k2 := rs h.k2, k6 := rs h.k6, k12 := rs h.k12, k13 := rs h.k13, k14 := rs h.k14, p0 := rp hi h.p0, p1 := rp hi h.p1, p2 := rp hi h.p2, p3 := rp hi h.p3, p4 := rp hi h.p4, p5 := fun _ => set_same (by have := h.siz; omega), p6 := rp hi h.p6, p7 := rp hi h.p7, p8 := rp hi h.p8, p9 := rp hi h.p9, p10 := rp hi h.p10, p11 := rp hi h.p11, p12 := rp hi h.p12, p13 := rp hi h.p13, p14 := rp hi h.p14, p15 := rp hi h.p15, p16 := rp hi h.p16, p17 := rp hi h.p17, p18 := rp hi h.p18, p19 := rp hi h.p19, p20 := rp hi h.p20, p21 := rp hi h.p21, p22 := rp hi h.p22, p23 := rp hi h.p23, p24 := rp hi h.p24, p25 := rp hi h.p25, p26 := rp hi h.p26, p27 := rp hi h.p27, p28 := rp hi h.p28, p29 := rp hi h.p29, p30 := rp hi h.p30, p31 := rp hi h.p31, p32 := rp hi h.p32, p33 := rp hi h.p33, p34 := rp hi h.p34, p35 := rp hi h.p35, p36 := rp hi h.p36, p37 := rp hi h.p37, p38 := rp hi h.p38, p39 := rp hi h.p39, p40 := rp hi h.p40, p41 := rp hi h.p41, p42 := rp hi h.p42, p43 := rp hi h.p43, p44 := rp hi h.p44 }⟩
                    · have hi : 6 < d.size := by omega
                      have q6 := h.k6
                      refine wpOp_guard rfl (wanted_of (d := 155) rfl rfl (h.p4 (hpre _ rfl ⟨4, .guard⟩ (by simp) rfl))) ?_
                      go_simp
                      exact ⟨_, rfl, { bel := h.bel, siz := (by simpa using h.siz), kp := rk h.kp, k2 := rs h.k2, k6 := rs h.k6, k12 := rs h.k12, k13 := rs h.k13, k14 := rs h.k14, p0 := rp hi h.p0, p1 := rp hi h.p1, p2 := rp hi h.p2, p3 := rp hi h.p3, p4 := rp hi h.p4, p5 := rp hi h.p5, p6 := fun _ => set_same (by have := h.siz; omega), p7 := rp hi h.p7, p8 := rp hi h.p8, p9 := rp hi h.p9, p10 := rp hi h.p10, p11 := rp hi h.p11, p12 := rp hi h.p12, p13 := rp hi h.p13, p14 := rp hi h.p14, p15 := rp hi h.p15, p16 := rp hi h.p16, p17 := rp hi h.p17, p18 := rp hi h.p18, p19 := rp hi h.p19, p20 := rp hi h.p20, p21 := rp hi h.p21, p22 := rp hi h.p22, p23 := rp hi h.p23, p24 := rp hi h.p24, p25 := rp hi h.p25, p26 := rp hi h.p26, p27 := rp hi h.p27, p28 := rp hi h.p28, p29 := rp hi h.p29, p30 := rp hi h.p30, p31 := rp hi h.p31, p32 := rp hi h.p32, p33 := rp hi h.p33, p34 := rp hi h.p34, p35 := rp hi h.p35, p36 := rp hi h.p36, p37 := rp hi h.p37, p38 := rp hi h.p38, p39 := rp hi h.p39, p40 := rp hi h.p40, p41 := rp hi h.p41, p42 := rp hi h.p42, p43 := rp hi h.p43, p44 := rp hi h.p44 }⟩
                    · have hi : 7 < d.size := by omega
                      have q12 := h.k12
                      refine wpOp_guard rfl (wanted_of (d := 155) rfl rfl (h.p4 (hpre _ rfl ⟨4, .guard⟩ (by simp) rfl))) ?_
                      go_simp
                      exact ⟨_, rfl, { bel := h.bel, siz := (by simpa using h.siz), kp := rk h.kp, k2 := rs h.k2, k6 := rs h.k6, k12 := rs h.k12, k13 := rs h.k13, k14 := rs h.k14, p0 := rp hi h.p0, p1 := rp hi h.p1, p2 := rp hi h.p2, p3 := rp hi h.p3, p4 := rp hi h.p4, p5 := rp hi h.p5, p6 := rp hi h.p6, p7 := fun _ => set_same (by have := h.siz; omega), p8 := rp hi h.p8, p9 := rp hi h.p9, p10 := rp hi h.p10, p11 := rp hi h.p11, p12 := rp hi h.p12, p13 := rp hi h.p13, p14 := rp hi h.p14, p15 := rp hi h.p15, p16 := rp hi h.p16, p17 := rp hi h.p17, p18 := rp hi h.p18, p19 := rp hi h.p19, p20 := rp hi h.p20, p21 := rp hi h.p21, p22 := rp hi h.p22, p23 := rp hi h.p23, p24 := rp hi h.p24, p25 := rp hi h.p25, p26 := rp hi h.p26, p27 := rp hi h.p27, p28 := rp hi h.p28, p29 := rp hi h.p29, p30 := rp hi h.p30, p31 := rp hi h.p31, p32 := rp hi h.p32, p33 := rp hi h.p33, p34 := rp hi h.p34, p35 := rp hi h.p35, p36 := rp hi h.p36, p37 := rp hi h.p37, p38 := rp hi h.p38, p39 := rp hi h.p39, p40 := rp hi h.p40, p41 := rp hi h.p41, p42 := rp hi h.p42, p43 := rp hi h.p43, p44 := rp hi h.p44 }⟩
                    · have hi : 8 < d.size := by omega
                      have e6 := h.p6 (hpre _ rfl ⟨6, .data⟩ (by simp) rfl)
                      have e7 := h.p7 (hpre _ rfl ⟨7, .data⟩ (by simp) rfl)
                      have hx1 : (i : Int) < (n : Int) := by omega
                      refine wpOp_guard rfl (wanted_of (d := 155) rfl rfl (h.p4 (hpre _ rfl ⟨4, .guard⟩ (by simp) rfl))) ?_
                      go_simp
                      exact ⟨_, rfl, { bel := h.bel, siz := (by simpa using h.siz), kp := rk h.kp, k2 := rs h.k2, k6 := rs h.k6, k12 := rs h.k12, k13 := rs h.k13, k14 := rs h.k14, p0 := rp hi h.p0, p1 := rp hi h.p1, p2 := rp hi h.p2, p3 := rp hi h.p3, p4 := rp hi h.p4, p5 := rp hi h.p5, p6 := rp hi h.p6, p7 := rp hi h.p7, p8 := fun _ => set_same (by have := h.siz; omega), p9 := rp hi h.p9, p10 := rp hi h.p10, p11 := rp hi h.p11, p12 := rp hi h.p12, p13 := rp hi h.p13, p14 := rp hi h.p14, p15 := rp hi h.p15, p16 := rp hi h.p16, p17 := rp hi h.p17, p18 := rp hi h.p18, p19 := rp hi h.p19, p20 := rp hi h.p20, p21 := rp hi h.p21, p22 := rp hi h.p22, p23 := rp hi h.p23, p24 := rp hi h.p24, p25 := rp hi h.p25, p26 := rp hi h.p26, p27 := rp hi h.p27, p28 := rp hi h.p28, p29 := rp hi h.p29, p30 := rp hi h.p30, p31 := rp hi h.p31, p32 := rp hi h.p32, p33 := rp hi h.p33, p34 := rp hi h.p34, p35 := rp hi h.p35, p36 := rp hi h.p36, p37 := rp hi h.p37, p38 := rp hi h.p38, p39 := rp hi h.p39, p40 := rp hi h.p40, p41 := rp hi h.p41, p42 := rp hi h.p42, p43 := rp hi h.p43, p44 := rp hi h.p44 }⟩
                    · have hi : 9 < d.size := by omega
                      have e8 := h.p8 (hpre _ rfl ⟨8, .data⟩ (by simp) rfl)
                      refine wpOp_guard rfl (wanted_of (d := 155) rfl rfl (h.p4 (hpre _ rfl ⟨4, .guard⟩ (by simp) rfl))) ?_
                      go_simp
                      exact ⟨_, rfl, { bel := h.bel, siz := (by simpa using h.siz), kp := rk h.kp, k2 := rs h.k2, k6 := rs h.k6, k12 := rs h.k12, k13 := rs h.k13, k14 := rs h.k14, p0 := rp hi h.p0, p1 := rp hi h.p1, p2 := rp hi h.p2, p3 := rp hi h.p3, p4 := rp hi h.p4, p5 := rp hi h.p5, p6 := rp hi h.p6, p7 := rp hi h.p7, p8 := rp hi h.p8, p9 := fun _ => set_same (by have := h.siz; omega), p10 := rp hi h.p10, p11 := rp hi h.p11, p12 := rp hi h.p12, p13 := rp hi h.p13, p14 := rp hi h.p14, p15 := rp hi h.p15, p16 := rp hi h.p16, p17 := rp hi h.p17, p18 := rp hi h.p18, p19 := rp hi h.p19, p20 := rp hi h.p20, p21 := rp hi h.p21, p22 := rp hi h.p22, p23 := rp hi h.p23, p24 := rp hi h.p24, p25 := rp hi h.p25, p26 := rp hi h.p26, p27 := rp hi h.p27, p28 := rp hi h.p28, p29 := rp hi h.p29, p30 := rp hi h.p30, p31 := rp hi h.p31, p32 := rp hi h.p32, p33 := rp hi h.p33, p34 := rp hi h.p34, p35 := rp hi h.p35, p36 := rp hi h.p36, p37 := rp hi h.p37, p38 := rp hi h.p38, p39 := rp hi h.p39, p40 := rp hi h.p40, p41 := rp hi h.p41, p42 := rp hi h.p42, p43 := rp hi h.p43, p44 := rp hi h.p44 }⟩
                    · have hi : 10 < d.size := by omega
                      have e9 := h.p9 (hpre _ rfl ⟨9, .data⟩ (by simp) rfl)
                      obtain ⟨k0, k1, k2, k3, k4, k5⟩ := CM.out wc (HBY.out.trans (h.bel.mono HBY.out.size))
                      refine wpOp_guard rfl (wanted_of (d := 155) rfl rfl (h.p4 (hpre _ rfl ⟨4, .guard⟩ (by simp) rfl))) ?_
                      go_simp
                      exact ⟨_, rfl, { bel := h.bel, siz := (by simpa using h.siz), kp := rk h.kp, k2 := rs h.k2, k6 := rs h.k6, k12 := rs h.k12, k13 := rs h.k13, k14 := rs h.k14, p0 := rp hi h.p0, p1 := rp hi h.p1, p2 := rp hi h.p2, p3 := rp hi h.p3, p4 := rp hi h.p4, p5 := rp hi h.p5, p6 := rp hi h.p6, p7 := rp hi h.p7, p8 := rp hi h.p8, p9 := rp hi h.p9, p10 := fun _ => set_same (by have := h.siz; omega), p11 := rp hi h.p11, p12 := rp hi h.p12, p13 := rp hi h.p13, p14 := rp hi h.p14, p15 := rp hi h.p15, p16 := rp hi h.p16, p17 := rp hi h.p17, p18 := rp hi h.p18, p19 := rp hi h.p19, p20 := rp hi h.p20, p21 := rp hi h.p21, p22 := rp hi h.p22, p23 := rp hi h.p23, p24 := rp hi h.p24, p25 := rp hi h.p25, p26 := rp hi h.p26, p27 := rp hi h.p27, p28 := rp hi h.p28, p29 := rp hi h.p29, p30 := rp hi h.p30, p31 := rp hi h.p31, p32 := rp hi h.p32, p33 := rp hi h.p33, p34 := rp hi h.p34, p35 := rp hi h.p35, p36 := rp hi h.p36, p37 := rp hi h.p37, p38 := rp hi h.p38, p39 := rp hi h.p39, p40 := rp hi h.p40, p41 := rp hi h.p41, p42 := rp hi h.p42, p43 := rp hi h.p43, p44 := rp hi h.p44 }⟩
                    · have hi : 11 < d.size := by omega
                      have e5 := h.p5 (hpre _ rfl ⟨5, .data⟩ (by simp) rfl)
                      have e10 := h.p10 (hpre _ rfl ⟨10, .data⟩ (by simp) rfl)
                      refine wpOp_guard rfl (wanted_of (d := 155) rfl rfl (h.p4 (hpre _ rfl ⟨4, .guard⟩ (by simp) rfl))) ?_
                      go_simp
                      exact ⟨_, rfl, { bel := h.bel, siz := (by simpa using h.siz), kp := rk h.kp, k2 := rs h.k2, k6 := rs h.k6, k12 := rs h.k12, k13 := rs h.k13, k14 := rs h.k14, p0 := rp hi h.p0, p1 := rp hi h.p1, p2 := rp hi h.p2, p3 := rp hi h.p3, p4 := rp hi h.p4, p5 := rp hi h.p5, p6 := rp hi h.p6, p7 := rp hi h.p7, p8 := rp hi h.p8, p9 := rp hi h.p9, p10 := rp hi h.p10, p11 := fun _ => set_same (by have := h.siz; omega), p12 := rp hi h.p12, p13 := rp hi h.p13, p14 := rp hi h.p14, p15 := rp hi h.p15, p16 := rp hi h.p16, p17 := rp hi h.p17, p18 := rp hi h.p18, p19 := rp hi h.p19, p20 := rp hi h.p20, p21 := rp hi h.p21, p22 := rp hi h.p22, p23 := rp hi h.p23, p24 := rp hi h.p24, p25 := rp hi h.p25, p26 := rp hi h.p26, p27 := rp hi h.p27, p28 := rp hi h.p28, p29 := rp hi h.p29, p30 := rp hi h.p30, p31 := rp hi h.p31, p32 := rp hi h.p32, p33 := rp hi h.p33, p34 := rp hi h.p34, p35 := rp hi h.p35, p36 := rp hi h.p36, p37 := rp hi h.p37, p38 := rp hi h.p38, p39 := rp hi h.p39, p40 := rp hi h.p40, p41 := rp hi h.p41, p42 := rp hi h.p42, p43 := rp hi h.p43, p44 := rp hi h.p44 }⟩
                    · have hi : 12 < d.size := by omega
                      have e4 := h.p4 (hpre _ rfl ⟨4, .data⟩ (by simp) rfl)
                      have e11 := h.p11 (hpre _ rfl ⟨11, .data⟩ (by simp) rfl)
                      refine wpOp_plain rfl rfl ?_
                      go_simp
                      exact ⟨_, rfl, { bel := h.bel, siz := (by simpa using h.siz), kp := rk h.kp, k2 := rs h.k2, k6 := rs h.k6, k12 := rs h.k12, k13 := rs h.k13, k14 := rs h.k14, p0 := rp hi h.p0, p1 := rp hi h.p1, p2 := rp hi h.p2, p3 := rp hi h.p3, p4 := rp hi h.p4, p5 := rp hi h.p5, p6 := rp hi h.p6, p7 := rp hi h.p7, p8 := rp hi h.p8, p9 := rp hi h.p9, p10 := rp hi h.p10, p11 := rp hi h.p11, p12 := fun _ => set_same (by have := h.siz; omega), p13 := rp hi h.p13, p14 := rp hi h.p14, p15 := rp hi h.p15, p16 := rp hi h.p16, p17 := rp hi h.p17, p18 := rp hi h.p18, p19 := rp hi h.p19, p20 := rp hi h.p20, p21 := rp hi h.p21, p22 := rp hi h.p22, p23 := rp hi h.p23, p24 := rp hi h.p24, p25 := rp hi h.p25, p26 := rp hi h.p26, p27 := rp hi h.p27, p28 := rp hi h.p28, p29 := rp hi h.p29, p30 := rp hi h.p30, p31 := rp hi h.p31, p32 := rp hi h.p32, p33 := rp hi h.p33, p34 := rp hi h.p34, p35 := rp hi h.p35, p36 := rp hi h.p36, p37 := rp hi h.p37, p38 := rp hi h.p38, p39 := rp hi h.p39, p40 := rp hi h.p40, p41 := rp hi h.p41, p42 := rp hi h.p42, p43 := rp hi h.p43, p44 := rp hi h.p44 }⟩
                    · have hi : 13 < d.size := by omega
                      have e12 := h.p12 (hpre _ rfl ⟨12, .data⟩ (by simp) rfl)
                      refine wpOp_plain rfl rfl ?_
                      go_simp
                      exact ⟨_, rfl, { bel := h.bel, siz := (by simpa using h.siz), kp := rk h.kp, k2 := rs h.k2, k6 := rs h.k6, k12 := rs h.k12, k13 := rs h.k13, k14 := rs h.k14, p0 := rp hi h.p0, p1 := rp hi h.p1, p2 := rp hi h.p2, p3 := rp hi h.p3, p4 := rp hi h.p4, p5 := rp hi h.p5, p6 := rp hi h.p6, p7 := rp hi h.p7, p8 := rp hi h.p8, p9 := rp hi h.p9, p10 := rp hi h.p10, p11 := rp hi h.p11, p12 := rp hi h.p12, p13 := fun _ => set_same (by have := h.siz; omega), p14 := rp hi h.p14, p15 := rp hi h.p15, p16 := rp hi h.p16, p17 := rp hi h.p17, p18 := rp hi h.p18, p19 := rp hi h.p19, p20 := rp hi h.p20, p21 := rp hi h.p21, p22 := rp hi h.p22, p23 := rp hi h.p23, p24 := rp hi h.p24, p25 := rp hi h.p25, p26 := rp hi h.p26, p27 := rp hi h.p27, p28 := rp hi h.p28, p29 := rp hi h.p29, p30 := rp hi h.p30, p31 := rp hi h.p31, p32 := rp hi h.p32, p33 := rp hi h.p33, p34 := rp hi h.p34, p35 := rp hi h.p35, p36 := rp hi h.p36, p37 := rp hi h.p37, p38 := rp hi h.p38, p39 := rp hi h.p39, p40 := rp hi h.p40, p41 := rp hi h.p41, p42 := rp hi h.p42, p43 := rp hi h.p43, p44 := rp hi h.p44 }⟩
                    · have hi : 14 < d.size := by omega
                      have q12 := h.k12
                      refine wpOp_guard rfl (wanted_of (d := 164) rfl rfl (h.p13 (hpre _ rfl ⟨13, .guard⟩ (by simp) rfl))) ?_
                      go_simp
                      exact ⟨_, rfl, { bel := h.bel, siz := (by simpa using h.siz), kp := rk h.kp, k2 := rs h.k2, k6 := rs h.k6, k12 := rs h.k12, k13 := rs h.k13, k14 := rs h.k14, p0 := rp hi h.p0, p1 := rp hi h.p1, p2 := rp hi h.p2, p3 := rp hi h.p3, p4 := rp hi h.p4, p5 := rp hi h.p5, p6 := rp hi h.p6, p7 := rp hi h.p7, p8 := rp hi h.p8, p9 := rp hi h.p9, p10 := rp hi h.p10, p11 := rp hi h.p11, p12 := rp hi h.p12, p13 := rp hi h.p13, p14 := fun _ => set_same (by have := h.siz; omega), p15 := rp hi h.p15, p16 := rp hi h.p16, p17 := rp hi h.p17, p18 := rp hi h.p18, p19 := rp hi h.p19, p20 := rp hi h.p20, p21 := rp hi h.p21, p22 := rp hi h.p22, p23 := rp hi h.p23, p24 := rp hi h.p24, p25 := rp hi h.p25, p26 := rp hi h.p26, p27 := rp hi h.p27, p28 := rp hi h.p28, p29 := rp hi h.p29, p30 := rp hi h.p30, p31 := rp hi h.p31, p32 := rp hi h.p32, p33 := rp hi h.p33, p34 := rp hi h.p34, p35 := rp hi h.p35, p36 := rp hi h.p36, p37 := rp hi h.p37, p38 := rp hi h.p38, p39 := rp hi h.p39, p40 := rp hi h.p40, p41 := rp hi h.p41, p42 := rp hi h.p42, p43 := rp hi h.p43, p44 := rp hi h.p44 }⟩
                    · have hi : 15 < d.size := by omega
                      have e14 := h.p14 (hpre _ rfl ⟨14, .data⟩ (by simp) rfl)
                      refine wpOp_guard rfl (wanted_of (d := 164) rfl rfl (h.p13 (hpre _ rfl ⟨13, .guard⟩ (by simp) rfl))) ?_
                      go_simp
                      exact ⟨_, rfl, { bel := h.bel, siz := (by simpa using h.siz), kp := rk h.kp, k2 := rs h.k2, k6 := rs h.k6, k12 := rs h.k12, k13 := rs h.k13, k14 := rs h.k14, p0 := rp hi h.p0, p1 := rp hi h.p1, p2 := rp hi h.p2, p3 := rp hi h.p3, p4 := rp hi h.p4, p5 := rp hi h.p5, p6 := rp hi h.p6, p7 := rp hi h.p7, p8 := rp hi h.p8, p9 := rp hi h.p9, p10 := rp hi h.p10, p11 := rp hi h.p11, p12 := rp hi h.p12, p13 := rp hi h.p13, p14 := rp hi h.p14, p15 := fun _ => set_same (by have := h.siz; omega), p16 := rp hi h.p16, p17 := rp hi h.p17, p18 := rp hi h.p18, p19 := rp hi h.p19, p20 := rp hi h.p20, p21 := rp hi h.p21, p22 := rp hi h.p22, p23 := rp hi h.p23, p24 := rp hi h.p24, p25 := rp hi h.p25, p26 := rp hi h.p26, p27 := rp hi h.p27, p28 := rp hi h.p28, p29 := rp hi h.p29, p30 := rp hi h.p30, p31 := rp hi h.p31, p32 := rp hi h.p32, p33 := rp hi h.p33, p34 := rp hi h.p34, p35 := rp hi h.p35, p36 := rp hi h.p36, p37 := rp hi h.p37, p38 := rp hi h.p38, p39 := rp hi h.p39, p40 := rp hi h.p40, p41 := rp hi h.p41, p42 := rp hi h.p42, p43 := rp hi h.p43, p44 := rp hi h.p44 }⟩
                    · have hi : 16 < d.size := by omega
                      have e15 := h.p15 (hpre _ rfl ⟨15, .data⟩ (by simp) rfl)
                      refine wpOp_guard rfl (wanted_of (d := 164) rfl rfl (h.p13 (hpre _ rfl ⟨13, .guard⟩ (by simp) rfl))) ?_
                      go_simp
                      exact ⟨_, rfl, { bel := h.bel, siz := (by simpa using h.siz), kp := rk h.kp, k2 := rs h.k2, k6 := rs h.k6, k12 := rs h.k12, k13 := rs h.k13, k14 := rs h.k14, p0 := rp hi h.p0, p1 := rp hi h.p1, p2 := rp hi h.p2, p3 := rp hi h.p3, p4 := rp hi h.p4, p5 := rp hi h.p5, p6 := rp hi h.p6, p7 := rp hi h.p7, p8 := rp hi h.p8, p9 := rp hi h.p9, p10 := rp hi h.p10, p11 := rp hi h.p11, p12 := rp hi h.p12, p13 := rp hi h.p13, p14 := rp hi h.p14, p15 := rp hi h.p15, p16 := fun _ => set_same (by have := h.siz; omega), p17 := rp hi h.p17, p18 := rp hi h.p18, p19 := rp hi h.p19, p20 := rp hi h.p20, p21 := rp hi h.p21, p22 := rp hi h.p22, p23 := rp hi h.p23, p24 := rp hi h.p24, p25 := rp hi h.p25, p26 := rp hi h.p26, p27 := rp hi h.p27, p28 := rp hi h.p28, p29 := rp hi h.p29, p30 := rp hi h.p30, p31 := rp hi h.p31, p32 := rp hi h.p32, p33 := rp hi h.p33, p34 := rp hi h.p34, p35 := rp hi h.p35, p36 := rp hi h.p36, p37 := rp hi h.p37, p38 := rp hi h.p38, p39 := rp hi h.p39, p40 := rp hi h.p40, p41 := rp hi h.p41, p42 := rp hi h.p42, p43 := rp hi h.p43, p44 := rp hi h.p44 }⟩
                    · have hi : 17 < d.size := by omega
                      have q14 := h.k14
                      refine wpOp_guard rfl (wanted_of (d := 167) rfl rfl (h.p16 (hpre _ rfl ⟨16, .guard⟩ (by simp) rfl))) ?_
                      go_simp
                      exact ⟨_, rfl, { bel := h.bel, siz := (by simpa using h.siz), kp := rk h.kp, k2 := rs h.k2, k6 := rs h.k6, k12 := rs h.k12, k13 := rs h.k13, k14 := rs h.k14, p0 := rp hi h.p0, p1 := rp hi h.p1, p2 := rp hi h.p2, p3 := rp hi h.p3, p4 := rp hi h.p4, p5 := rp hi h.p5, p6 := rp hi h.p6, p7 := rp hi h.p7, p8 := rp hi h.p8, p9 := rp hi h.p9, p10 := rp hi h.p10, p11 := rp hi h.p11, p12 := rp hi h.p12, p13 := rp hi h.p13, p14 := rp hi h.p14, p15 := rp hi h.p15, p16 := rp hi h.p16, p17 := fun _ => set_same (by have := h.siz; omega), p18 := rp hi h.p18, p19 := rp hi h.p19, p20 := rp hi h.p20, p21 := rp hi h.p21, p22 := rp hi h.p22, p23 := rp hi h.p23, p24 := rp hi h.p24, p25 := rp hi h.p25, p26 := rp hi h.p26, p27 := rp hi h.p27, p28 := rp hi h.p28, p29 := rp hi h.p29, p30 := rp hi h.p30, p31 := rp hi h.p31, p32 := rp hi h.p32, p33 := rp hi h.p33, p34 := rp hi h.p34, p35 := rp hi h.p35, p36 := rp hi h.p36, p37 := rp hi h.p37, p38 := rp hi h.p38, p39 := rp hi h.p39, p40 := rp hi h.p40, p41 := rp hi h.p41, p42 := rp hi h.p42, p43 := rp hi h.p43, p44 := rp hi h.p44 }⟩
                    · have hi : 18 < d.size := by omega
                      have q6 := h.k6
                      refine wpOp_guard rfl (wanted_of (d := 167) rfl rfl (h.p16 (hpre _ rfl ⟨16, .guard⟩ (by simp) rfl))) ?_
                      go_simp
                      exact ⟨_, rfl, { bel := h.bel, siz := (by simpa using h.siz), kp := rk h.kp, k2 := rs h.k2, k6 := rs h.k6, k12 := rs h.k12, k13 := rs h.k13, k14 := rs h.k14, p0 := rp hi h.p0, p1 := rp hi h.p1, p2 := rp hi h.p2, p3 := rp hi h.p3, p4 := rp hi h.p4, p5 := rp hi h.p5, p6 := rp hi h.p6, p7 := rp hi h.p7, p8 := rp hi h.p8, p9 := rp hi h.p9, p10 := rp hi h.p10, p11 := rp hi h.p11, p12 := rp hi h.p12, p13 := rp hi h.p13, p14 := rp hi h.p14, p15 := rp hi h.p15, p16 := rp hi h.p16, p17 := rp hi h.p17, p18 := fun _ => set_same (by have := h.siz; omega), p19 := rp hi h.p19, p20 := rp hi h.p20, p21 := rp hi h.p21, p22 := rp hi h.p22, p23 := rp hi h.p23, p24 := rp hi h.p24, p25 := rp hi h.p25, p26 := rp hi h.p26, p27 := rp hi h.p27, p28 := rp hi h.p28, p29 := rp hi h.p29, p30 := rp hi h.p30, p31 := rp hi h.p31, p32 := rp hi h.p32, p33 := rp hi h.p33, p34 := rp hi h.p34, p35 := rp hi h.p35, p36 := rp hi h.p36, p37 := rp hi h.p37, p38 := rp hi h.p38, p39 := rp hi h.p39, p40 := rp hi h.p40, p41 := rp hi h.p41, p42 := rp hi h.p42, p43 := rp hi h.p43, p44 := rp hi h.p44 }⟩
                    · have hi : 19 < d.size := by omega
                      have q12 := h.k12
                      refine wpOp_guard rfl (wanted_of (d := 167) rfl rfl (h.p16 (hpre _ rfl ⟨16, .guard⟩ (by simp) rfl))) ?_
                      go_simp
                      exact ⟨_, rfl, { bel := h.bel, siz := (by simpa using h.siz), kp := rk h.kp, k2 := rs h.k2, k6 := rs h.k6, k12 := rs h.k12, k13 := rs h.k13, k14 := rs h.k14, p0 := rp hi h.p0, p1 := rp hi h.p1, p2 := rp hi h.p2, p3 := rp hi h.p3, p4 := rp hi h.p4, p5 := rp hi h.p5, p6 := rp hi h.p6, p7 := rp hi h.p7, p8 := rp hi h.p8, p9 := rp hi h.p9, p10 := rp hi h.p10, p11 := rp hi h.p11, p12 := rp hi h.p12, p13 := rp hi h.p13, p14 := rp hi h.p14, p15 := rp hi h.p15, p16 := rp hi h.p16, p17 := rp hi h.p17, p18 := rp hi h.p18, p19 := fun _ => set_same (by have := h.siz; omega), p20 := rp hi h.p20, p21 := rp hi h.p21, p22 := rp hi h.p22, p23 := rp hi h.p23, p24 := rp hi h.p24, p25 := rp hi h.p25, p26 := rp hi h.p26, p27 := rp hi h.p27, p28 := rp hi h.p28, p29 := rp hi h.p29, p30 := rp hi h.p30, p31 := rp hi h.p31, p32 := rp hi h.p32, p33 := rp hi h.p33, p34 := rp hi h.p34, p35 := rp hi h.p35, p36 := rp hi h.p36, p37 := rp hi h.p37, p38 := rp hi h.p38, p39 := rp hi h.p39, p40 := rp hi h.p40, p41 := rp hi h.p41, p42 := rp hi h.p42, p43 := rp hi h.p43, p44 := rp hi h.p44 }⟩
                    · have hi : 20 < d.size := by omega
                      have e19 := h.p19 (hpre _ rfl ⟨19, .data⟩ (by simp) rfl)
                      refine wpOp_guard rfl (wanted_of (d := 167) rfl rfl (h.p16 (hpre _ rfl ⟨16, .guard⟩ (by simp) rfl))) ?_
                      go_simp
                      simp (disch := omega) only [IntWalk.i64_in]
                      rw [show ((i : Nat) : Int) - 1 = ((j : Nat) : Int) by have := HJ.out; omega]
                      exact ⟨_, rfl, { bel := h.bel, siz := (by simpa using h.siz), kp := rk h.kp, k2 := rs h.k2, k6 := rs h.k6, k12 := rs h.k12, k13 := rs h.k13, k14 := rs h.k14, p0 := rp hi h.p0, p1 := rp hi h.p1, p2 := rp hi h.p2, p3 := rp hi h.p3, p4 := rp hi h.p4, p5 := rp hi h.p5, p6 := rp hi h.p6, p7 := rp hi h.p7, p8 := rp hi h.p8, p9 := rp hi h.p9, p10 := rp hi h.p10, p11 := rp hi h.p11, p12 := rp hi h.p12, p13 := rp hi h.p13, p14 := rp hi h.p14, p15 := rp hi h.p15, p16 := rp hi h.p16, p17 := rp hi h.p17, p18 := rp hi h.p18, p19 := rp hi h.p19, p20 := fun _ => set_same (by have := h.siz; omega), p21 := rp hi h.p21, p22 := rp hi h.p22, p23 := rp hi h.p23, p24 := rp hi h.p24, p25 := rp hi h.p25, p26 := rp hi h.p26, p27 := rp hi h.p27, p28 := rp hi h.p28, p29 := rp hi h.p29, p30 := rp hi h.p30, p31 := rp hi h.p31, p32 := rp hi h.p32, p33 := rp hi h.p33, p34 := rp hi h.p34, p35 := rp hi h.p35, p36 := rp hi h.p36, p37 := rp hi h.p37, p38 := rp hi h.p38, p39 := rp hi h.p39, p40 := rp hi h.p40, p41 := rp hi h.p41, p42 := rp hi h.p42, p43 := rp hi h.p43, p44 := rp hi h.p44 }⟩
                    · have hi : 21 < d.size := by omega
                      have e18 := h.p18 (hpre _ rfl ⟨18, .data⟩ (by simp) rfl)
                      have e20 := h.p20 (hpre _ rfl ⟨20, .data⟩ (by simp) rfl)
                      have hx1 : (j : Int) < (n : Int) := by omega
                      refine wpOp_guard rfl (wanted_of (d := 167) rfl rfl (h.p16 (hpre _ rfl ⟨16, .guard⟩ (by simp) rfl))) ?_
                      go_simp
                      exact ⟨_, rfl, { bel := h.bel, siz := (by simpa using h.siz), kp := rk h.kp, k2 := rs h.k2, k6 := rs h.k6, k12 := rs h.k12, k13 := rs h.k13, k14 := rs h.k14, p0 := rp hi h.p0, p1 := rp hi h.p1, p2 := rp hi h.p2, p3 := rp hi h.p3, p4 := rp hi h.p4, p5 := rp hi h.p5, p6 := rp hi h.p6, p7 := rp hi h.p7, p8 := rp hi h.p8, p9 := rp hi h.p9, p10 := rp hi h.p10, p11 := rp hi h.p11, p12 := rp hi h.p12, p13 := rp hi h.p13, p14 := rp hi h.p14, p15 := rp hi h.p15, p16 := rp hi h.p16, p17 := rp hi h.p17, p18 := rp hi h.p18, p19 := rp hi h.p19, p20 := rp hi h.p20, p21 := fun _ => set_same (by have := h.siz; omega), p22 := rp hi h.p22, p23 := rp hi h.p23, p24 := rp hi h.p24, p25 := rp hi h.p25, p26 := rp hi h.p26, p27 := rp hi h.p27, p28 := rp hi h.p28, p29 := rp hi h.p29, p30 := rp hi h.p30, p31 := rp hi h.p31, p32 := rp hi h.p32, p33 := rp hi h.p33, p34 := rp hi h.p34, p35 := rp hi h.p35, p36 := rp hi h.p36, p37 := rp hi h.p37, p38 := rp hi h.p38, p39 := rp hi h.p39, p40 := rp hi h.p40, p41 := rp hi h.p41, p42 := rp hi h.p42, p43 := rp hi h.p43, p44 := rp hi h.p44 }⟩
                    · have hi : 22 < d.size := by omega
                      have e21 := h.p21 (hpre _ rfl ⟨21, .data⟩ (by simp) rfl)
                      refine wpOp_guard rfl (wanted_of (d := 167) rfl rfl (h.p16 (hpre _ rfl ⟨16, .guard⟩ (by simp) rfl))) ?_
                      go_simp
                      exact ⟨_, rfl, { bel := h.bel, siz := (by simpa using h.siz), kp := rk h.kp, k2 := rs h.k2, k6 := rs h.k6, k12 := rs h.k12, k13 := rs h.k13, k14 := rs h.k14, p0 := rp hi h.p0, p1 := rp hi h.p1, p2 := rp hi h.p2, p3 := rp hi h.p3, p4 := rp hi h.p4, p5 := rp hi h.p5, p6 := rp hi h.p6, p7 := rp hi h.p7, p8 := rp hi h.p8, p9 := rp hi h.p9, p10 := rp hi h.p10, p11 := rp hi h.p11, p12 := rp hi h.p12, p13 := rp hi h.p13, p14 := rp hi h.p14, p15 := rp hi h.p15, p16 := rp hi h.p16, p17 := rp hi h.p17, p18 := rp hi h.p18, p19 := rp hi h.p19, p20 := rp hi h.p20, p21 := rp hi h.p21, p22 := fun _ => set_same (by have := h.siz; omega), p23 := rp hi h.p23, p24 := rp hi h.p24, p25 := rp hi h.p25, p26 := rp hi h.p26, p27 := rp hi h.p27, p28 := rp hi h.p28, p29 := rp hi h.p29, p30 := rp hi h.p30, p31 := rp hi h.p31, p32 := rp hi h.p32, p33 := rp hi h.p33, p34 := rp hi h.p34, p35 := rp hi h.p35, p36 := rp hi h.p36, p37 := rp hi h.p37, p38 := rp hi h.p38, p39 := rp hi h.p39, p40 := rp hi h.p40, p41 := rp hi h.p41, p42 := rp hi h.p42, p43 := rp hi h.p43, p44 := rp hi h.p44 }⟩
                    · have hi : 23 < d.size := by omega
                      have e22 := h.p22 (hpre _ rfl ⟨22, .data⟩ (by simp) rfl)
                      obtain ⟨k0, k1, k2, k3, k4, k5⟩ := CM.out wc (HBY.out.trans (h.bel.mono HBY.out.size))
                      refine wpOp_guard rfl (wanted_of (d := 167) rfl rfl (h.p16 (hpre _ rfl ⟨16, .guard⟩ (by simp) rfl))) ?_
                      go_simp
                      exact ⟨_, rfl, { bel := h.bel, siz := (by simpa using h.siz), kp := rk h.kp, k2 := rs h.k2, k6 := rs h.k6, k12 := rs h.k12, k13 := rs h.k13, k14 := rs h.k14, p0 := rp hi h.p0, p1 := rp hi h.p1, p2 := rp hi h.p2, p3 := rp hi h.p3, p4 := rp hi h.p4, p5 := rp hi h.p5, p6 := rp hi h.p6, p7 := rp hi h.p7, p8 := rp hi h.p8, p9 := rp hi h.p9, p10 := rp hi h.p10, p11 := rp hi h.p11, p12 := rp hi h.p12, p13 := rp hi h.p13, p14 := rp hi h.p14, p15 := rp hi h.p15, p16 := rp hi h.p16, p17 := rp hi h.p17, p18 := rp hi h.p18, p19 := rp hi h.p19, p20 := rp hi h.p20, p21 := rp hi h.p21, p22 := rp hi h.p22, p23 := fun _ => set_same (by have := h.siz; omega), p24 := rp hi h.p24, p25 := rp hi h.p25, p26 := rp hi h.p26, p27 := rp hi h.p27, p28 := rp hi h.p28, p29 := rp hi h.p29, p30 := rp hi h.p30, p31 := rp hi h.p31, p32 := rp hi h.p32, p33 := rp hi h.p33, p34 := rp hi h.p34, p35 := rp hi h.p35, p36 := rp hi h.p36, p37 := rp hi h.p37, p38 := rp hi h.p38, p39 := rp hi h.p39, p40 := rp hi h.p40, p41 := rp hi h.p41, p42 := rp hi h.p42, p43 := rp hi h.p43, p44 := rp hi h.p44 }⟩
                    · have hi : 24 < d.size := by omega
                      have e17 := h.p17 (hpre _ rfl ⟨17, .data⟩ (by simp) rfl)
                      have e23 := h.p23 (hpre _ rfl ⟨23, .data⟩ (by simp) rfl)
                      refine wpOp_guard rfl (wanted_of (d := 167) rfl rfl (h.p16 (hpre _ rfl ⟨16, .guard⟩ (by simp) rfl))) ?_
                      go_simp
                      exact ⟨_, rfl, { bel := h.bel, siz := (by simpa using h.siz), kp := rk h.kp, k2 := rs h.k2, k6 := rs h.k6, k12 := rs h.k12, k13 := rs h.k13, k14 := rs h.k14, p0 := rp hi h.p0, p1 := rp hi h.p1, p2 := rp hi h.p2, p3 := rp hi h.p3, p4 := rp hi h.p4, p5 := rp hi h.p5, p6 := rp hi h.p6, p7 := rp hi h.p7, p8 := rp hi h.p8, p9 := rp hi h.p9, p10 := rp hi h.p10, p11 := rp hi h.p11, p12 := rp hi h.p12, p13 := rp hi h.p13, p14 := rp hi h.p14, p15 := rp hi h.p15, p16 := rp hi h.p16, p17 := rp hi h.p17, p18 := rp hi h.p18, p19 := rp hi h.p19, p20 := rp hi h.p20, p21 := rp hi h.p21, p22 := rp hi h.p22, p23 := rp hi h.p23, p24 := fun _ => set_same (by have := h.siz; omega), p25 := rp hi h.p25, p26 := rp hi h.p26, p27 := rp hi h.p27, p28 := rp hi h.p28, p29 := rp hi h.p29, p30 := rp hi h.p30, p31 := rp hi h.p31, p32 := rp hi h.p32, p33 := rp hi h.p33, p34 := rp hi h.p34, p35 := rp hi h.p35, p36 := rp hi h.p36, p37 := rp hi h.p37, p38 := rp hi h.p38, p39 := rp hi h.p39, p40 := rp hi h.p40, p41 := rp hi h.p41, p42 := rp hi h.p42, p43 := rp hi h.p43, p44 := rp hi h.p44 }⟩
                    · have hi : 25 < d.size := by omega
                      have e16 := h.p16 (hpre _ rfl ⟨16, .data⟩ (by simp) rfl)
                      have e24 := h.p24 (hpre _ rfl ⟨24, .data⟩ (by simp) rfl)
                      refine wpOp_guard rfl (wanted_of (d := 164) rfl rfl (h.p13 (hpre _ rfl ⟨13, .guard⟩ (by simp) rfl))) ?_
                      go_simp
                      exact ⟨_, rfl, { bel := h.bel, siz := (by simpa using h.siz), kp := rk h.kp, k2 := rs h.k2, k6 := rs h.k6, k12 := rs h.k12, k13 := rs h.k13, k14 := rs h.k14, p0 := rp hi h.p0, p1 := rp hi h.p1, p2 := rp hi h.p2, p3 := rp hi h.p3, p4 := rp hi h.p4, p5 := rp hi h.p5, p6 := rp hi h.p6, p7 := rp hi h.p7, p8 := rp hi h.p8, p9 := rp hi h.p9, p10 := rp hi h.p10, p11 := rp hi h.p11, p12 := rp hi h.p12, p13 := rp hi h.p13, p14 := rp hi h.p14, p15 := rp hi h.p15, p16 := rp hi h.p16, p17 := rp hi h.p17, p18 := rp hi h.p18, p19 := rp hi h.p19, p20 := rp hi h.p20, p21 := rp hi h.p21, p22 := rp hi h.p22, p23 := rp hi h.p23, p24 := rp hi h.p24, p25 := fun _ => set_same (by have := h.siz; omega), p26 := rp hi h.p26, p27 := rp hi h.p27, p28 := rp hi h.p28, p29 := rp hi h.p29, p30 := rp hi h.p30, p31 := rp hi h.p31, p32 := rp hi h.p32, p33 := rp hi h.p33, p34 := rp hi h.p34, p35 := rp hi h.p35, p36 := rp hi h.p36, p37 := rp hi h.p37, p38 := rp hi h.p38, p39 := rp hi h.p39, p40 := rp hi h.p40, p41 := rp hi h.p41, p42 := rp hi h.p42, p43 := rp hi h.p43, p44 := rp hi h.p44 }⟩
                    · have hi : 26 < d.size := by omega
                      have e13 := h.p13 (hpre _ rfl ⟨13, .data⟩ (by simp) rfl)
                      have e25 := h.p25 (hpre _ rfl ⟨25, .data⟩ (by simp) rfl)
                      refine wpOp_plain rfl rfl ?_
                      go_simp
                      exact ⟨_, rfl, { bel := h.bel, siz := (by simpa using h.siz), kp := rk h.kp, k2 := rs h.k2, k6 := rs h.k6, k12 := rs h.k12, k13 := rs h.k13, k14 := rs h.k14, p0 := rp hi h.p0, p1 := rp hi h.p1, p2 := rp hi h.p2, p3 := rp hi h.p3, p4 := rp hi h.p4, p5 := rp hi h.p5, p6 := rp hi h.p6, p7 := rp hi h.p7, p8 := rp hi h.p8, p9 := rp hi h.p9, p10 := rp hi h.p10, p11 := rp hi h.p11, p12 := rp hi h.p12, p13 := rp hi h.p13, p14 := rp hi h.p14, p15 := rp hi h.p15, p16 := rp hi h.p16, p17 := rp hi h.p17, p18 := rp hi h.p18, p19 := rp hi h.p19, p20 := rp hi h.p20, p21 := rp hi h.p21, p22 := rp hi h.p22, p23 := rp hi h.p23, p24 := rp hi h.p24, p25 := rp hi h.p25, p26 := fun _ => set_same (by have := h.siz; omega), p27 := rp hi h.p27, p28 := rp hi h.p28, p29 := rp hi h.p29, p30 := rp hi h.p30, p31 := rp hi h.p31, p32 := rp hi h.p32, p33 := rp hi h.p33, p34 := rp hi h.p34, p35 := rp hi h.p35, p36 := rp hi h.p36, p37 := rp hi h.p37, p38 := rp hi h.p38, p39 := rp hi h.p39, p40 := rp hi h.p40, p41 := rp hi h.p41, p42 := rp hi h.p42, p43 := rp hi h.p43, p44 := rp hi h.p44 }⟩
                    · have hi : 27 < d.size := by omega
                      have e26 := h.p26 (hpre _ rfl ⟨26, .data⟩ (by simp) rfl)
                      refine wpOp_plain rfl rfl ?_
                      go_simp
                      exact ⟨_, rfl, { bel := h.bel, siz := (by simpa using h.siz), kp := rk h.kp, k2 := rs h.k2, k6 := rs h.k6, k12 := rs h.k12, k13 := rs h.k13, k14 := rs h.k14, p0 := rp hi h.p0, p1 := rp hi h.p1, p2 := rp hi h.p2, p3 := rp hi h.p3, p4 := rp hi h.p4, p5 := rp hi h.p5, p6 := rp hi h.p6, p7 := rp hi h.p7, p8 := rp hi h.p8, p9 := rp hi h.p9, p10 := rp hi h.p10, p11 := rp hi h.p11, p12 := rp hi h.p12, p13 := rp hi h.p13, p14 := rp hi h.p14, p15 := rp hi h.p15, p16 := rp hi h.p16, p17 := rp hi h.p17, p18 := rp hi h.p18, p19 := rp hi h.p19, p20 := rp hi h.p20, p21 := rp hi h.p21, p22 := rp hi h.p22, p23 := rp hi h.p23, p24 := rp hi h.p24, p25 := rp hi h.p25, p26 := rp hi h.p26, p27 := fun _ => set_same (by have := h.siz; omega), p28 := rp hi h.p28, p29 := rp hi h.p29, p30 := rp hi h.p30, p31 := rp hi h.p31, p32 := rp hi h.p32, p33 := rp hi h.p33, p34 := rp hi h.p34, p35 := rp hi h.p35, p36 := rp hi h.p36, p37 := rp hi h.p37, p38 := rp hi h.p38, p39 := rp hi h.p39, p40 := rp hi h.p40, p41 := rp hi h.p41, p42 := rp hi h.p42, p43 := rp hi h.p43, p44 := rp hi h.p44 }⟩
                    · have hi : 28 < d.size := by omega
                      have q12 := h.k12
                      refine wpOp_guard rfl (wanted_of (d := 178) rfl rfl (h.p27 (hpre _ rfl ⟨27, .guard⟩ (by simp) rfl))) ?_
                      go_simp
                      exact ⟨_, rfl, { bel := h.bel, siz := (by simpa using h.siz), kp := rk h.kp, k2 := rs h.k2, k6 := rs h.k6, k12 := rs h.k12, k13 := rs h.k13, k14 := rs h.k14, p0 := rp hi h.p0, p1 := rp hi h.p1, p2 := rp hi h.p2, p3 := rp hi h.p3, p4 := rp hi h.p4, p5 := rp hi h.p5, p6 := rp hi h.p6, p7 := rp hi h.p7, p8 := rp hi h.p8, p9 := rp hi h.p9, p10 := rp hi h.p10, p11 := rp hi h.p11, p12 := rp hi h.p12, p13 := rp hi h.p13, p14 := rp hi h.p14, p15 := rp hi h.p15, p16 := rp hi h.p16, p17 := rp hi h.p17, p18 := rp hi h.p18, p19 := rp hi h.p19, p20 := rp hi h.p20, p21 := rp hi h.p21, p22 := rp hi h.p22, p23 := rp hi h.p23, p24 := rp hi h.p24, p25 := rp hi h.p25, p26 := rp hi h.p26, p27 := rp hi h.p27, p28 := fun _ => set_same (by have := h.siz; omega), p29 := rp hi h.p29, p30 := rp hi h.p30, p31 := rp hi h.p31, p32 := rp hi h.p32, p33 := rp hi h.p33, p34 := rp hi h.p34, p35 := rp hi h.p35, p36 := rp hi h.p36, p37 := rp hi h.p37, p38 := rp hi h.p38, p39 := rp hi h.p39, p40 := rp hi h.p40, p41 := rp hi h.p41, p42 := rp hi h.p42, p43 := rp hi h.p43, p44 := rp hi h.p44 }⟩
                    · have hi : 29 < d.size := by omega
                      have e28 := h.p28 (hpre _ rfl ⟨28, .data⟩ (by simp) rfl)
                      refine wpOp_guard rfl (wanted_of (d := 178) rfl rfl (h.p27 (hpre _ rfl ⟨27, .guard⟩ (by simp) rfl))) ?_
                      go_simp
                      exact ⟨_, rfl, { bel := h.bel, siz := (by simpa using h.siz), kp := rk h.kp, k2 := rs h.k2, k6 := rs h.k6, k12 := rs h.k12, k13 := rs h.k13, k14 := rs h.k14, p0 := rp hi h.p0, p1 := rp hi h.p1, p2 := rp hi h.p2, p3 := rp hi h.p3, p4 := rp hi h.p4, p5 := rp hi h.p5, p6 := rp hi h.p6, p7 := rp hi h.p7, p8 := rp hi h.p8, p9 := rp hi h.p9, p10 := rp hi h.p10, p11 := rp hi h.p11, p12 := rp hi h.p12, p13 := rp hi h.p13, p14 := rp hi h.p14, p15 := rp hi h.p15, p16 := rp hi h.p16, p17 := rp hi h.p17, p18 := rp hi h.p18, p19 := rp hi h.p19, p20 := rp hi h.p20, p21 := rp hi h.p21, p22 := rp hi h.p22, p23 := rp hi h.p23, p24 := rp hi h.p24, p25 := rp hi h.p25, p26 := rp hi h.p26, p27 := rp hi h.p27, p28 := rp hi h.p28, p29 := fun _ => set_same (by have := h.siz; omega), p30 := rp hi h.p30, p31 := rp hi h.p31, p32 := rp hi h.p32, p33 := rp hi h.p33, p34 := rp hi h.p34, p35 := rp hi h.p35, p36 := rp hi h.p36, p37 := rp hi h.p37, p38 := rp hi h.p38, p39 := rp hi h.p39, p40 := rp hi h.p40, p41 := rp hi h.p41, p42 := rp hi h.p42, p43 := rp hi h.p43, p44 := rp hi h.p44 }⟩
                    · have hi : 30 < d.size := by omega
                      have e29 := h.p29 (hpre _ rfl ⟨29, .data⟩ (by simp) rfl)
                      refine wpOp_guard rfl (wanted_of (d := 178) rfl rfl (h.p27 (hpre _ rfl ⟨27, .guard⟩ (by simp) rfl))) ?_
                      go_simp
                      exact ⟨_, rfl, { bel := h.bel, siz := (by simpa using h.siz), kp := rk h.kp, k2 := rs h.k2, k6 := rs h.k6, k12 := rs h.k12, k13 := rs h.k13, k14 := rs h.k14, p0 := rp hi h.p0, p1 := rp hi h.p1, p2 := rp hi h.p2, p3 := rp hi h.p3, p4 := rp hi h.p4, p5 := rp hi h.p5, p6 := rp hi h.p6, p7 := rp hi h.p7, p8 := rp hi h.p8, p9 := rp hi h.p9, p10 := rp hi h.p10, p11 := rp hi h.p11, p12 := rp hi h.p12, p13 := rp hi h.p13, p14 := rp hi h.p14, p15 := rp hi h.p15, p16 := rp hi h.p16, p17 := rp hi h.p17, p18 := rp hi h.p18, p19 := rp hi h.p19, p20 := rp hi h.p20, p21 := rp hi h.p21, p22 := rp hi h.p22, p23 := rp hi h.p23, p24 := rp hi h.p24, p25 := rp hi h.p25, p26 := rp hi h.p26, p27 := rp hi h.p27, p28 := rp hi h.p28, p29 := rp hi h.p29, p30 := fun _ => set_same (by have := h.siz; omega), p31 := rp hi h.p31, p32 := rp hi h.p32, p33 := rp hi h.p33, p34 := rp hi h.p34, p35 := rp hi h.p35, p36 := rp hi h.p36, p37 := rp hi h.p37, p38 := rp hi h.p38, p39 := rp hi h.p39, p40 := rp hi h.p40, p41 := rp hi h.p41, p42 := rp hi h.p42, p43 := rp hi h.p43, p44 := rp hi h.p44 }⟩
                    · have hi : 31 < d.size := by omega
                      have q6 := h.k6
                      refine wpOp_guard rfl (wanted_of (d := 181) rfl rfl (h.p30 (hpre _ rfl ⟨30, .guard⟩ (by simp) rfl))) ?_
                      go_simp
                      exact ⟨_, rfl, { bel := h.bel, siz := (by simpa using h.siz), kp := rk h.kp, k2 := rs h.k2, k6 := rs h.k6, k12 := rs h.k12, k13 := rs h.k13, k14 := rs h.k14, p0 := rp hi h.p0, p1 := rp hi h.p1, p2 := rp hi h.p2, p3 := rp hi h.p3, p4 := rp hi h.p4, p5 := rp hi h.p5, p6 := rp hi h.p6, p7 := rp hi h.p7, p8 := rp hi h.p8, p9 := rp hi h.p9, p10 := rp hi h.p10, p11 := rp hi h.p11, p12 := rp hi h.p12, p13 := rp hi h.p13, p14 := rp hi h.p14, p15 := rp hi h.p15, p16 := rp hi h.p16, p17 := rp hi h.p17, p18 := rp hi h.p18, p19 := rp hi h.p19, p20 := rp hi h.p20, p21 := rp hi h.p21, p22 := rp hi h.p22, p23 := rp hi h.p23, p24 := rp hi h.p24, p25 := rp hi h.p25, p26 := rp hi h.p26, p27 := rp hi h.p27, p28 := rp hi h.p28, p29 := rp hi h.p29, p30 := rp hi h.p30, p31 := fun _ => set_same (by have := h.siz; omega), p32 := rp hi h.p32, p33 := rp hi h.p33, p34 := rp hi h.p34, p35 := rp hi h.p35, p36 := rp hi h.p36, p37 := rp hi h.p37, p38 := rp hi h.p38, p39 := rp hi h.p39, p40 := rp hi h.p40, p41 := rp hi h.p41, p42 := rp hi h.p42, p43 := rp hi h.p43, p44 := rp hi h.p44 }⟩
                    · have hi : 32 < d.size := by omega
                      have q12 := h.k12
                      refine wpOp_guard rfl (wanted_of (d := 181) rfl rfl (h.p30 (hpre _ rfl ⟨30, .guard⟩ (by simp) rfl))) ?_
                      go_simp
                      exact ⟨_, rfl, { bel := h.bel, siz := (by simpa using h.siz), kp := rk h.kp, k2 := rs h.k2, k6 := rs h.k6, k12 := rs h.k12, k13 := rs h.k13, k14 := rs h.k14, p0 := rp hi h.p0, p1 := rp hi h.p1, p2 := rp hi h.p2, p3 := rp hi h.p3, p4 := rp hi h.p4, p5 := rp hi h.p5, p6 := rp hi h.p6, p7 := rp hi h.p7, p8 := rp hi h.p8, p9 := rp hi h.p9, p10 := rp hi h.p10, p11 := rp hi h.p11, p12 := rp hi h.p12, p13 := rp hi h.p13, p14 := rp hi h.p14, p15 := rp hi h.p15, p16 := rp hi h.p16, p17 := rp hi h.p17, p18 := rp hi h.p18, p19 := rp hi h.p19, p20 := rp hi h.p20, p21 := rp hi h.p21, p22 := rp hi h.p22, p23 := rp hi h.p23, p24 := rp hi h.p24, p25 := rp hi h.p25, p26 := rp hi h.p26, p27 := rp hi h.p27, p28 := rp hi h.p28, p29 := rp hi h.p29, p30 := rp hi h.p30, p31 := rp hi h.p31, p32 := fun _ => set_same (by have := h.siz; omega), p33 := rp hi h.p33, p34 := rp hi h.p34, p35 := rp hi h.p35, p36 := rp hi h.p36, p37 := rp hi h.p37, p38 := rp hi h.p38, p39 := rp hi h.p39, p40 := rp hi h.p40, p41 := rp hi h.p41, p42 := rp hi h.p42, p43 := rp hi h.p43, p44 := rp hi h.p44 }⟩
                    · have hi : 33 < d.size := by omega
                      have e31 := h.p31 (hpre _ rfl ⟨31, .data⟩ (by simp) rfl)
                      have e32 := h.p32 (hpre _ rfl ⟨32, .data⟩ (by simp) rfl)
                      have hx1 : (i : Int) < (n : Int) := by omega
                      refine wpOp_guard rfl (wanted_of (d := 181) rfl rfl (h.p30 (hpre _ rfl ⟨30, .guard⟩ (by simp) rfl))) ?_
                      go_simp
                      exact ⟨_, rfl, { bel := h.bel, siz := (by simpa using h.siz), kp := rk h.kp, k2 := rs h.k2, k6 := rs h.k6, k12 := rs h.k12, k13 := rs h.k13, k14 := rs h.k14, p0 := rp hi h.p0, p1 := rp hi h.p1, p2 := rp hi h.p2, p3 := rp hi h.p3, p4 := rp hi h.p4, p5 := rp hi h.p5, p6 := rp hi h.p6, p7 := rp hi h.p7, p8 := rp hi h.p8, p9 := rp hi h.p9, p10 := rp hi h.p10, p11 := rp hi h.p11, p12 := rp hi h.p12, p13 := rp hi h.p13, p14 := rp hi h.p14, p15 := rp hi h.p15, p16 := rp hi h.p16, p17 := rp hi h.p17, p18 := rp hi h.p18, p19 := rp hi h.p19, p20 := rp hi h.p20, p21 := rp hi h.p21, p22 := rp hi h.p22, p23 := rp hi h.p23, p24 := rp hi h.p24, p25 := rp hi h.p25, p26 := rp hi h.p26, p27 := rp hi h.p27, p28 := rp hi h.p28, p29 := rp hi h.p29, p30 := rp hi h.p30, p31 := rp hi h.p31, p32 := rp hi h.p32, p33 := fun _ => set_same (by have := h.siz; omega), p34 := rp hi h.p34, p35 := rp hi h.p35, p36 := rp hi h.p36, p37 := rp hi h.p37, p38 := rp hi h.p38, p39 := rp hi h.p39, p40 := rp hi h.p40, p41 := rp hi h.p41, p42 := rp hi h.p42, p43 := rp hi h.p43, p44 := rp hi h.p44 }⟩
                    · have hi : 34 < d.size := by omega
                      have e33 := h.p33 (hpre _ rfl ⟨33, .data⟩ (by simp) rfl)
                      refine wpOp_guard rfl (wanted_of (d := 181) rfl rfl (h.p30 (hpre _ rfl ⟨30, .guard⟩ (by simp) rfl))) ?_
                      go_simp
                      exact ⟨_, rfl, { bel := h.bel, siz := (by simpa using h.siz), kp := rk h.kp, k2 := rs h.k2, k6 := rs h.k6, k12 := rs h.k12, k13 := rs h.k13, k14 := rs h.k14, p0 := rp hi h.p0, p1 := rp hi h.p1, p2 := rp hi h.p2, p3 := rp hi h.p3, p4 := rp hi h.p4, p5 := rp hi h.p5, p6 := rp hi h.p6, p7 := rp hi h.p7, p8 := rp hi h.p8, p9 := rp hi h.p9, p10 := rp hi h.p10, p11 := rp hi h.p11, p12 := rp hi h.p12, p13 := rp hi h.p13, p14 := rp hi h.p14, p15 := rp hi h.p15, p16 := rp hi h.p16, p17 := rp hi h.p17, p18 := rp hi h.p18, p19 := rp hi h.p19, p20 := rp hi h.p20, p21 := rp hi h.p21, p22 := rp hi h.p22, p23 := rp hi h.p23, p24 := rp hi h.p24, p25 := rp hi h.p25, p26 := rp hi h.p26, p27 := rp hi h.p27, p28 := rp hi h.p28, p29 := rp hi h.p29, p30 := rp hi h.p30, p31 := rp hi h.p31, p32 := rp hi h.p32, p33 := rp hi h.p33, p34 := fun _ => set_same (by have := h.siz; omega), p35 := rp hi h.p35, p36 := rp hi h.p36, p37 := rp hi h.p37, p38 := rp hi h.p38, p39 := rp hi h.p39, p40 := rp hi h.p40, p41 := rp hi h.p41, p42 := rp hi h.p42, p43 := rp hi h.p43, p44 := rp hi h.p44 }⟩
                    · have hi : 35 < d.size := by omega
                      have e34 := h.p34 (hpre _ rfl ⟨34, .data⟩ (by simp) rfl)
                      obtain ⟨k0, k1, k2, k3, k4, k5⟩ := CM.out wc (HBY.out.trans (h.bel.mono HBY.out.size))
                      refine wpOp_guard rfl (wanted_of (d := 181) rfl rfl (h.p30 (hpre _ rfl ⟨30, .guard⟩ (by simp) rfl))) ?_
                      go_simp
                      exact ⟨_, rfl, { bel := h.bel, siz := (by simpa using h.siz), kp := rk h.kp, k2 := rs h.k2, k6 := rs h.k6, k12 := rs h.k12, k13 := rs h.k13, k14 := rs h.k14, p0 := rp hi h.p0, p1 := rp hi h.p1, p2 := rp hi h.p2, p3 := rp hi h.p3, p4 := rp hi h.p4, p5 := rp hi h.p5, p6 := rp hi h.p6, p7 := rp hi h.p7, p8 := rp hi h.p8, p9 := rp hi h.p9, p10 := rp hi h.p10, p11 := rp hi h.p11, p12 := rp hi h.p12, p13 := rp hi h.p13, p14 := rp hi h.p14, p15 := rp hi h.p15, p16 := rp hi h.p16, p17 := rp hi h.p17, p18 := rp hi h.p18, p19 := rp hi h.p19, p20 := rp hi h.p20, p21 := rp hi h.p21, p22 := rp hi h.p22, p23 := rp hi h.p23, p24 := rp hi h.p24, p25 := rp hi h.p25, p26 := rp hi h.p26, p27 := rp hi h.p27, p28 := rp hi h.p28, p29 := rp hi h.p29, p30 := rp hi h.p30, p31 := rp hi h.p31, p32 := rp hi h.p32, p33 := rp hi h.p33, p34 := rp hi h.p34, p35 := fun _ => set_same (by have := h.siz; omega), p36 := rp hi h.p36, p37 := rp hi h.p37, p38 := rp hi h.p38, p39 := rp hi h.p39, p40 := rp hi h.p40, p41 := rp hi h.p41, p42 := rp hi h.p42, p43 := rp hi h.p43, p44 := rp hi h.p44 }⟩
                    · have hi : 36 < d.size := by omega
                      have q6 := h.k6
                      refine wpOp_guard rfl (wanted_of (d := 181) rfl rfl (h.p30 (hpre _ rfl ⟨30, .guard⟩ (by simp) rfl))) ?_
                      go_simp
                      exact ⟨_, rfl, { bel := h.bel, siz := (by simpa using h.siz), kp := rk h.kp, k2 := rs h.k2, k6 := rs h.k6, k12 := rs h.k12, k13 := rs h.k13, k14 := rs h.k14, p0 := rp hi h.p0, p1 := rp hi h.p1, p2 := rp hi h.p2, p3 := rp hi h.p3, p4 := rp hi h.p4, p5 := rp hi h.p5, p6 := rp hi h.p6, p7 := rp hi h.p7, p8 := rp hi h.p8, p9 := rp hi h.p9, p10 := rp hi h.p10, p11 := rp hi h.p11, p12 := rp hi h.p12, p13 := rp hi h.p13, p14 := rp hi h.p14, p15 := rp hi h.p15, p16 := rp hi h.p16, p17 := rp hi h.p17, p18 := rp hi h.p18, p19 := rp hi h.p19, p20 := rp hi h.p20, p21 := rp hi h.p21, p22 := rp hi h.p22, p23 := rp hi h.p23, p24 := rp hi h.p24, p25 := rp hi h.p25, p26 := rp hi h.p26, p27 := rp hi h.p27, p28 := rp hi h.p28, p29 := rp hi h.p29, p30 := rp hi h.p30, p31 := rp hi h.p31, p32 := rp hi h.p32, p33 := rp hi h.p33, p34 := rp hi h.p34, p35 := rp hi h.p35, p36 := fun _ => set_same (by have := h.siz; omega), p37 := rp hi h.p37, p38 := rp hi h.p38, p39 := rp hi h.p39, p40 := rp hi h.p40, p41 := rp hi h.p41, p42 := rp hi h.p42, p43 := rp hi h.p43, p44 := rp hi h.p44 }⟩
                    · have hi : 37 < d.size := by omega
                      have q12 := h.k12
                      refine wpOp_guard rfl (wanted_of (d := 181) rfl rfl (h.p30 (hpre _ rfl ⟨30, .guard⟩ (by simp) rfl))) ?_
                      go_simp
                      exact ⟨_, rfl, { bel := h.bel, siz := (by simpa using h.siz), kp := rk h.kp, k2 := rs h.k2, k6 := rs h.k6, k12 := rs h.k12, k13 := rs h.k13, k14 := rs h.k14, p0 := rp hi h.p0, p1 := rp hi h.p1, p2 := rp hi h.p2, p3 := rp hi h.p3, p4 := rp hi h.p4, p5 := rp hi h.p5, p6 := rp hi h.p6, p7 := rp hi h.p7, p8 := rp hi h.p8, p9 := rp hi h.p9, p10 := rp hi h.p10, p11 := rp hi h.p11, p12 := rp hi h.p12, p13 := rp hi h.p13, p14 := rp hi h.p14, p15 := rp hi h.p15, p16 := rp hi h.p16, p17 := rp hi h.p17, p18 := rp hi h.p18, p19 := rp hi h.p19, p20 := rp hi h.p20, p21 := rp hi h.p21, p22 := rp hi h.p22, p23 := rp hi h.p23, p24 := rp hi h.p24, p25 := rp hi h.p25, p26 := rp hi h.p26, p27 := rp hi h.p27, p28 := rp hi h.p28, p29 := rp hi h.p29, p30 := rp hi h.p30, p31 := rp hi h.p31, p32 := rp hi h.p32, p33 := rp hi h.p33, p34 := rp hi h.p34, p35 := rp hi h.p35, p36 := rp hi h.p36, p37 := fun _ => set_same (by have := h.siz; omega), p38 := rp hi h.p38, p39 := rp hi h.p39, p40 := rp hi h.p40, p41 := rp hi h.p41, p42 := rp hi h.p42, p43 := rp hi h.p43, p44 := rp hi h.p44 }⟩
                    · have hi : 38 < d.size := by omega
                      have e37 := h.p37 (hpre _ rfl ⟨37, .data⟩ (by simp) rfl)
                      refine wpOp_guard rfl (wanted_of (d := 181) rfl rfl (h.p30 (hpre _ rfl ⟨30, .guard⟩ (by simp) rfl))) ?_
                      go_simp
                      simp (disch := omega) only [IntWalk.i64_in]
                      rw [show ((i : Nat) : Int) - 1 = ((j : Nat) : Int) by have := HJ.out; omega]
                      exact ⟨_, rfl, { bel := h.bel, siz := (by simpa using h.siz), kp := rk h.kp, k2 := rs h.k2, k6 := rs h.k6, k12 := rs h.k12, k13 := rs h.k13, k14 := rs h.k14, p0 := rp hi h.p0, p1 := rp hi h.p1, p2 := rp hi h.p2, p3 := rp hi h.p3, p4 := rp hi h.p4, p5 := rp hi h.p5, p6 := rp hi h.p6, p7 := rp hi h.p7, p8 := rp hi h.p8, p9 := rp hi h.p9, p10 := rp hi h.p10, p11 := rp hi h.p11, p12 := rp hi h.p12, p13 := rp hi h.p13, p14 := rp hi h.p14, p15 := rp hi h.p15, p16 := rp hi h.p16, p17 := rp hi h.p17, p18 := rp hi h.p18, p19 := rp hi h.p19, p20 := rp hi h.p20, p21 := rp hi h.p21, p22 := rp hi h.p22, p23 := rp hi h.p23, p24 := rp hi h.p24, p25 := rp hi h.p25, p26 := rp hi h.p26, p27 := rp hi h.p27, p28 := rp hi h.p28, p29 := rp hi h.p29, p30 := rp hi h.p30, p31 := rp hi h.p31, p32 := rp hi h.p32, p33 := rp hi h.p33, p34 := rp hi h.p34, p35 := rp hi h.p35, p36 := rp hi h.p36, p37 := rp hi h.p37, p38 := fun _ => set_same (by have := h.siz; omega), p39 := rp hi h.p39, p40 := rp hi h.p40, p41 := rp hi h.p41, p42 := rp hi h.p42, p43 := rp hi h.p43, p44 := rp hi h.p44 }⟩
                    · have hi : 39 < d.size := by omega
                      have e36 := h.p36 (hpre _ rfl ⟨36, .data⟩ (by simp) rfl)
                      have e38 := h.p38 (hpre _ rfl ⟨38, .data⟩ (by simp) rfl)
                      have hx1 : (j : Int) < (n : Int) := by omega
                      refine wpOp_guard rfl (wanted_of (d := 181) rfl rfl (h.p30 (hpre _ rfl ⟨30, .guard⟩ (by simp) rfl))) ?_
                      go_simp
                      exact ⟨_, rfl, { bel := h.bel, siz := (by simpa using h.siz), kp := rk h.kp, k2 := rs h.k2, k6 := rs h.k6, k12 := rs h.k12, k13 := rs h.k13, k14 := rs h.k14, p0 := rp hi h.p0, p1 := rp hi h.p1, p2 := rp hi h.p2, p3 := rp hi h.p3, p4 := rp hi h.p4, p5 := rp hi h.p5, p6 := rp hi h.p6, p7 := rp hi h.p7, p8 := rp hi h.p8, p9 := rp hi h.p9, p10 := rp hi h.p10, p11 := rp hi h.p11, p12 := rp hi h.p12, p13 := rp hi h.p13, p14 := rp hi h.p14, p15 := rp hi h.p15, p16 := rp hi h.p16, p17 := rp hi h.p17, p18 := rp hi h.p18, p19 := rp hi h.p19, p20 := rp hi h.p20, p21 := rp hi h.p21, p22 := rp hi h.p22, p23 := rp hi h.p23, p24 := rp hi h.p24, p25 := rp hi h.p25, p26 := rp hi h.p26, p27 := rp hi h.p27, p28 := rp hi h.p28, p29 := rp hi h.p29, p30 := rp hi h.p30, p31 := rp hi h.p31, p32 := rp hi h.p32, p33 := rp hi h.p33, p34 := rp hi h.p34, p35 := rp hi h.p35, p36 := rp hi h.p36, p37 := rp hi h.p37, p38 := rp hi h.p38, p39 := fun _ => set_same (by have := h.siz; omega), p40 := rp hi h.p40, p41 := rp hi h.p41, p42 := rp hi h.p42, p43 := rp hi h.p43, p44 := rp hi h.p44 }⟩
                    · have hi : 40 < d.size := by omega
                      have e39 := h.p39 (hpre _ rfl ⟨39, .data⟩ (by simp) rfl)
                      refine wpOp_guard rfl (wanted_of (d := 181) rfl rfl (h.p30 (hpre _ rfl ⟨30, .guard⟩ (by simp) rfl))) ?_
                      go_simp
                      exact ⟨_, rfl, { bel := h.bel, siz := (by simpa using h.siz), kp := rk h.kp, k2 := rs h.k2, k6 := rs h.k6, k12 := rs h.k12, k13 := rs h.k13, k14 := rs h.k14, p0 := rp hi h.p0, p1 := rp hi h.p1, p2 := rp hi h.p2, p3 := rp hi h.p3, p4 := rp hi h.p4, p5 := rp hi h.p5, p6 := rp hi h.p6, p7 := rp hi h.p7, p8 := rp hi h.p8, p9 := rp hi h.p9, p10 := rp hi h.p10, p11 := rp hi h.p11, p12 := rp hi h.p12, p13 := rp hi h.p13, p14 := rp hi h.p14, p15 := rp hi h.p15, p16 := rp hi h.p16, p17 := rp hi h.p17, p18 := rp hi h.p18, p19 := rp hi h.p19, p20 := rp hi h.p20, p21 := rp hi h.p21, p22 := rp hi h.p22, p23 := rp hi h.p23, p24 := rp hi h.p24, p25 := rp hi h.p25, p26 := rp hi h.p26, p27 := rp hi h.p27, p28 := rp hi h.p28, p29 := rp hi h.p29, p30 := rp hi h.p30, p31 := rp hi h.p31, p32 := rp hi h.p32, p33 := rp hi h.p33, p34 := rp hi h.p34, p35 := rp hi h.p35, p36 := rp hi h.p36, p37 := rp hi h.p37, p38 := rp hi h.p38, p39 := rp hi h.p39, p40 := fun _ => set_same (by have := h.siz; omega), p41 := rp hi h.p41, p42 := rp hi h.p42, p43 := rp hi h.p43, p44 := rp hi h.p44 }⟩
                    · have hi : 41 < d.size := by omega
                      have e40 := h.p40 (hpre _ rfl ⟨40, .data⟩ (by simp) rfl)
                      obtain ⟨k0, k1, k2, k3, k4, k5⟩ := CM.out wc (HBY.out.trans (h.bel.mono HBY.out.size))
                      refine wpOp_guard rfl (wanted_of (d := 181) rfl rfl (h.p30 (hpre _ rfl ⟨30, .guard⟩ (by simp) rfl))) ?_
                      go_simp
                      exact ⟨_, rfl, { bel := h.bel, siz := (by simpa using h.siz), kp := rk h.kp, k2 := rs h.k2, k6 := rs h.k6, k12 := rs h.k12, k13 := rs h.k13, k14 := rs h.k14, p0 := rp hi h.p0, p1 := rp hi h.p1, p2 := rp hi h.p2, p3 := rp hi h.p3, p4 := rp hi h.p4, p5 := rp hi h.p5, p6 := rp hi h.p6, p7 := rp hi h.p7, p8 := rp hi h.p8, p9 := rp hi h.p9, p10 := rp hi h.p10, p11 := rp hi h.p11, p12 := rp hi h.p12, p13 := rp hi h.p13, p14 := rp hi h.p14, p15 := rp hi h.p15, p16 := rp hi h.p16, p17 := rp hi h.p17, p18 := rp hi h.p18, p19 := rp hi h.p19, p20 := rp hi h.p20, p21 := rp hi h.p21, p22 := rp hi h.p22, p23 := rp hi h.p23, p24 := rp hi h.p24, p25 := rp hi h.p25, p26 := rp hi h.p26, p27 := rp hi h.p27, p28 := rp hi h.p28, p29 := rp hi h.p29, p30 := rp hi h.p30, p31 := rp hi h.p31, p32 := rp hi h.p32, p33 := rp hi h.p33, p34 := rp hi h.p34, p35 := rp hi h.p35, p36 := rp hi h.p36, p37 := rp hi h.p37, p38 := rp hi h.p38, p39 := rp hi h.p39, p40 := rp hi h.p40, p41 := fun _ => set_same (by have := h.siz; omega), p42 := rp hi h.p42, p43 := rp hi h.p43, p44 := rp hi h.p44 }⟩
                    · have hi : 42 < d.size := by omega
                      have e35 := h.p35 (hpre _ rfl ⟨35, .data⟩ (by simp) rfl)
                      have e41 := h.p41 (hpre _ rfl ⟨41, .data⟩ (by simp) rfl)
                      refine wpOp_guard rfl (wanted_of (d := 181) rfl rfl (h.p30 (hpre _ rfl ⟨30, .guard⟩ (by simp) rfl))) ?_
                      go_simp
                      refine (HSF.out wc (HBY.out.trans (h.bel.mono HBY.out.size))).mono ?_
                      rintro e1 w1 ⟨rfl, hb⟩
                      exact ⟨_, rfl, { bel := h.bel.trans (hb.mono h.bel.size), siz := (by simpa using h.siz), kp := rk h.kp, k2 := rs h.k2, k6 := rs h.k6, k12 := rs h.k12, k13 := rs h.k13, k14 := rs h.k14, p0 := rp hi h.p0, p1 := rp hi h.p1, p2 := rp hi h.p2, p3 := rp hi h.p3, p4 := rp hi h.p4, p5 := rp hi h.p5, p6 := rp hi h.p6, p7 := rp hi h.p7, p8 := rp hi h.p8, p9 := rp hi h.p9, p10 := rp hi h.p10, p11 := rp hi h.p11, p12 := rp hi h.p12, p13 := rp hi h.p13, p14 := rp hi h.p14, p15 := rp hi h.p15, p16 := rp hi h.p16, p17 := rp hi h.p17, p18 := rp hi h.p18, p19 := rp hi h.p19, p20 := rp hi h.p20, p21 := rp hi h.p21, p22 := rp hi h.p22, p23 := rp hi h.p23, p24 := rp hi h.p24, p25 := rp hi h.p25, p26 := rp hi h.p26, p27 := rp hi h.p27, p28 := rp hi h.p28, p29 := rp hi h.p29, p30 := rp hi h.p30, p31 := rp hi h.p31, p32 := rp hi h.p32, p33 := rp hi h.p33, p34 := rp hi h.p34, p35 := rp hi h.p35, p36 := rp hi h.p36, p37 := rp hi h.p37, p38 := rp hi h.p38, p39 := rp hi h.p39, p40 := rp hi h.p40, p41 := rp hi h.p41, p42 := fun _ => set_same (by have := h.siz; omega), p43 := rp hi h.p43, p44 := rp hi h.p44 }⟩
                    · have hi : 43 < d.size := by omega
                      have e30 := h.p30 (hpre _ rfl ⟨30, .data⟩ (by simp) rfl)
                      have e42 := h.p42 (hpre _ rfl ⟨42, .data⟩ (by simp) rfl)
                      refine wpOp_guard rfl (wanted_of (d := 178) rfl rfl (h.p27 (hpre _ rfl ⟨27, .guard⟩ (by simp) rfl))) ?_
                      go_simp
                      exact ⟨_, rfl, { bel := h.bel, siz := (by simpa using h.siz), kp := rk h.kp, k2 := rs h.k2, k6 := rs h.k6, k12 := rs h.k12, k13 := rs h.k13, k14 := rs h.k14, p0 := rp hi h.p0, p1 := rp hi h.p1, p2 := rp hi h.p2, p3 := rp hi h.p3, p4 := rp hi h.p4, p5 := rp hi h.p5, p6 := rp hi h.p6, p7 := rp hi h.p7, p8 := rp hi h.p8, p9 := rp hi h.p9, p10 := rp hi h.p10, p11 := rp hi h.p11, p12 := rp hi h.p12, p13 := rp hi h.p13, p14 := rp hi h.p14, p15 := rp hi h.p15, p16 := rp hi h.p16, p17 := rp hi h.p17, p18 := rp hi h.p18, p19 := rp hi h.p19, p20 := rp hi h.p20, p21 := rp hi h.p21, p22 := rp hi h.p22, p23 := rp hi h.p23, p24 := rp hi h.p24, p25 := rp hi h.p25, p26 := rp hi h.p26, p27 := rp hi h.p27, p28 := rp hi h.p28, p29 := rp hi h.p29, p30 := rp hi h.p30, p31 := rp hi h.p31, p32 := rp hi h.p32, p33 := rp hi h.p33, p34 := rp hi h.p34, p35 := rp hi h.p35, p36 := rp hi h.p36, p37 := rp hi h.p37, p38 := rp hi h.p38, p39 := rp hi h.p39, p40 := rp hi h.p40, p41 := rp hi h.p41, p42 := rp hi h.p42, p43 := fun _ => set_same (by have := h.siz; omega), p44 := rp hi h.p44 }⟩
                    · have hi : 44 < d.size := by omega
                      have e27 := h.p27 (hpre _ rfl ⟨27, .data⟩ (by simp) rfl)
                      have e43 := h.p43 (hpre _ rfl ⟨43, .data⟩ (by simp) rfl)
                      refine wpOp_plain rfl rfl ?_
                      go_simp
                      exact ⟨_, rfl, { bel := h.bel, siz := (by simpa using h.siz), kp := rk h.kp, k2 := rs h.k2, k6 := rs h.k6, k12 := rs h.k12, k13 := rs h.k13, k14 := rs h.k14, p0 := rp hi h.p0, p1 := rp hi h.p1, p2 := rp hi h.p2, p3 := rp hi h.p3, p4 := rp hi h.p4, p5 := rp hi h.p5, p6 := rp hi h.p6, p7 := rp hi h.p7, p8 := rp hi h.p8, p9 := rp hi h.p9, p10 := rp hi h.p10, p11 := rp hi h.p11, p12 := rp hi h.p12, p13 := rp hi h.p13, p14 := rp hi h.p14, p15 := rp hi h.p15, p16 := rp hi h.p16, p17 := rp hi h.p17, p18 := rp hi h.p18, p19 := rp hi h.p19, p20 := rp hi h.p20, p21 := rp hi h.p21, p22 := rp hi h.p22, p23 := rp hi h.p23, p24 := rp hi h.p24, p25 := rp hi h.p25, p26 := rp hi h.p26, p27 := rp hi h.p27, p28 := rp hi h.p28, p29 := rp hi h.p29, p30 := rp hi h.p30, p31 := rp hi h.p31, p32 := rp hi h.p32, p33 := rp hi h.p33, p34 := rp hi h.p34, p35 := rp hi h.p35, p36 := rp hi h.p36, p37 := rp hi h.p37, p38 := rp hi h.p38, p39 := rp hi h.p39, p40 := rp hi h.p40, p41 := rp hi h.p41, p42 := rp hi h.p42, p43 := rp hi h.p43, p44 := fun _ => set_same (by have := h.siz; omega) }⟩
                  case gendd =>
                    intro d a wc hd hI hall
                    obtain ⟨t, rfl, h⟩ := hI
                    have hdn : ∀ j, j < 45 → dn d j := fun j hj => dn_all hd hall hj
                    have hd : ∀ j, (_ : j < 45 := by decide) → dn d j := fun j hj => hdn j hj
                    have hfe := frame_eq [(151, _), (152, _), (153, _), (154, _), (155, _), (156, _), (157, _), (158, _), (159, _), (160, _), (161, _), (162, _), (163, _), (164, _), (165, _), (166, _), (167, _), (168, _), (169, _), (170, _), (171, _), (172, _), (173, _), (174, _), (175, _), (176, _), (177, _), (178, _), (179, _), (180, _), (181, _), (182, _), (183, _), (184, _), (185, _), (186, _), (187, _), (188, _), (189, _), (190, _), (191, _), (192, _), (193, _), (194, _), (195, _)] (h.siz.trans rfl) h.kp rfl ⟨h.p0 (hd 0), h.p1 (hd 1), h.p2 (hd 2), h.p3 (hd 3), h.p4 (hd 4), h.p5 (hd 5), h.p6 (hd 6), h.p7 (hd 7), h.p8 (hd 8), h.p9 (hd 9), h.p10 (hd 10), h.p11 (hd 11), h.p12 (hd 12), h.p13 (hd 13), h.p14 (hd 14), h.p15 (hd 15), h.p16 (hd 16), h.p17 (hd 17), h.p18 (hd 18), h.p19 (hd 19), h.p20 (hd 20), h.p21 (hd 21), h.p22 (hd 22), h.p23 (hd 23), h.p24 (hd 24), h.p25 (hd 25), h.p26 (hd 26), h.p27 (hd 27), h.p28 (hd 28), h.p29 (hd 29), h.p30 (hd 30), h.p31 (hd 31), h.p32 (hd 32), h.p33 (hd 33), h.p34 (hd 34), h.p35 (hd 35), h.p36 (hd 36), h.p37 (hd 37), h.p38 (hd 38), h.p39 (hd 39), h.p40 (hd 40), h.p41 (hd 41), h.p42 (hd 42), h.p43 (hd 43), h.p44 (hd 44), trivial⟩
                    simp only [List.foldl_cons, List.foldl_nil, List.setIfInBounds_toArray, List.set_cons_succ, List.set_cons_zero] at hfe
                    have hbc := h.bel
                    subst hfe
                    clear h hdn hd hall
                    replace HBY := Lib.hid (HBY.out.trans (hbc.mono HBY.out.size))
                    clear hbc
                    rename World => wy
                    go_wp2_with fail
                    go_roundg (n - (i + 1))
                    case measure => omega
                    case rel => exact ⟨i + 1, by omega, rfl, by go_num, HBY.out⟩
          · have hltI : ¬ (i : Int) < (n : Int) := by omega
            clear hbr
            go_wp2_with (go_at_call 12; refine (works_any _).mono ?_; rintro e9 w9 ⟨rfl, hb9⟩)
            go_ret
            exact ⟨rfl, HBA.out.trans ((H6a.out.trans ((HBR.out.trans (hb9.mono HBR.out.size)).mono H6a.out.size)).mono HBA.out.size)⟩
    · have e0 := Lx.cutsR_none hz
      rw [e0] at hra
      obtain ⟨Ua, Ka, rfl⟩ := hra.form
      generalize Lx.cutsN x s most = cn at *
      have hq : (cn == 0) = false := by simp [hz]
      have hq' : (cn != 0) = true := by simp [hz]
      simp only [List.length_nil]
      clear hra hz e0
      go_wp2_with (go_at_call 12; refine (works_any _).mono ?_; rintro e9 w9 ⟨rfl, hb9⟩)
      go_ret
      exact ⟨rfl, HBA.out.trans ((H4a.out.trans (hb9.mono H4a.out.size)).mono HBA.out.size)⟩

  · clear hfar
    go_wp2_with (go_at_call 12; refine (works_any _).mono ?_; rintro e2 w2 ⟨rfl, hb2⟩)
    go_ret
    exact ⟨rfl, HBA.out.trans ((H1.out.trans (hb2.mono H1.out.size)).mono HBA.out.size)⟩
end Go.Proofs.YtpmfjndbckblfaaDoor
