/- How the reference reads a gloss: what its loops keep. Plain law. DERIVED: THE SHELF's CONTRACTS AT THIS DUMP, IN PLAIN WORDS (tools/lay-plain.mjs out of 'TryzShelf.lean', which tools/lay-shelf.mjs wrote): THE SAME DECLARATIONS UNDER THE SAME NAMES: 'import', 'namespace', 'open', 'def', 'theorem' AND NOTHING ELSE: no command of the shelf's: FOR A HAND-IN. Each laying: the table of numbers ('.._ren') and one theorem, a field a fact of the dump's own or the kernel's comparison; each contract: ONE APPLICATION. -/
import Derived.Test.YtpmnpnlfgfleeaaGreatDoorMgGlossLaw
import Derived.Shelf.Strings.Builder1
import Derived.Shelf.Strings.Builder2
import Derived.Shelf.Small.Utf8
import Derived.Shelf.Small.Strs
import Derived.Shelf.Small.Wraps
import Derived.Shelf.Utf8.RuneCount
import Derived.Shelf.Strconv.Itoa0
import Derived.Shelf.Strconv.Itoa1
import Derived.Shelf.LaysM
import Derived.Shelf.Strconv.Itoa2
import Derived.Shelf.Strconv.Itoa3
import Derived.Shelf.Strings.Search1
import Derived.Shelf.Strings.Search2
import Derived.Shelf.Strings.Search3
import Derived.Shelf.Strings.Cut
import Derived.Shelf.Strings.Count
import Derived.Shelf.Strings.Shaped
import Derived.Shelf.Strings.Prefix
import Derived.Shelf.Strings.Split
import Derived.Shelf.Strings.SplitShaped
import Derived.Shelf.Unicode.Decode
import Derived.Shelf.Strings.Runes
import Derived.Shelf.Strings.RuneCount
import Derived.Shelf.Strings.AsciiSet
import Derived.Shelf.Strings.Explode
import Derived.Shelf.Unicode.DecodeSlow
import Derived.Shelf.Unicode.DecodeAny
import Derived.Shelf.Unicode.DecodeLast
import Derived.Ground.Names2Prog
import Derived.Shelf.Slices.Clone
import Derived.Shelf.Slices.SearchI
import Derived.Ground.SlgnProg
import Derived.Shelf.SlicesE.Clone
import Derived.Test.YtpmnpnlfgfleeaaGreatDoorProg
namespace Lx
open Go

theorem glossClit_size {x : Lexicon} (h : checkV x = 0) : ∀ (l : List Int) (t : ByteArray), (glossClit x l t).size ≤ t.size + 9 * l.length
  | [], t => by simp [glossClit]
  | c :: r, t => by
    have h1 : (⟨#[61]⟩ : ByteArray).size = 1 := rfl
    have hp := (check_parts h).2.2.2
    rw [glossClit]
    cases hg : x.clitics[c.toNat]? with
    | none =>
      simp only
      have := glossClit_size h r t
      rw [List.length_cons]
      omega
    | some g =>
      simp only
      have := glossClit_size h r (t ++ (⟨#[61]⟩ ++ g.name))
      have hn := (ok_clitic (good_at hp hg)).2.2.1
      rw [ByteArray.size_append, ByteArray.size_append, h1] at this
      rw [List.length_cons]
      omega
theorem glossV_size {x : Lexicon} {f : Form} (hf : formV x f = 0) : (glossV x f).size ≤ 80 := by
  obtain ⟨hv, e, he, _, _, hk1, hk9⟩ := form_parts hf
  have hp := check_parts hv.chk
  obtain ⟨_, hr8, hc8, _⟩ := ok_entry (good_at hp.2.1 he)
  have hcl8 : e.cls.size ≤ 8 := hc8.elim (fun q => by rw [size_isEmpty q]; omega) id
  have h0 := glossHead_size e (by rw [dec_dig ⟨hk1, hk9⟩]; simp) hr8 hcl8
  have h1 := glossEnd_size (f := f) hp.2.2.1 h0
  have h2 := glossClit_size hv.chk f.clitics (glossEnd x f (glossHead e))
  have := hv.few
  unfold glossV
  rw [he]
  simp only
  omega
theorem glossR_size {x : Lexicon} {f : Form} : (glossR x f).size ≤ 80 := by
  by_cases h : formV x f = 0
  · rw [glossR_ok h]; exact glossV_size h
  · rw [glossR_no h]; show 0 ≤ 80; omega
theorem bare_of {x : Lexicon} {f : Form} (hf : formV x f = 0) : formV x ⟨f.entry, f.ending, []⟩ = 0 := by
  obtain ⟨h0, h1, h2, _, _⟩ := form_pieces hf
  exact formV_0 h0 h1 h2 (by simp) rfl

/-- no form of entries ahead of i reads asq s; of entry i none with an ending ahead of k - 1 -/
def NotB (x : Lexicon) (s : ByteArray) (i : Nat) : Prop := ∀ g, formV x g = 0 → glossV x g = s → (i : Int) ≤ g.entry
def NotE (x : Lexicon) (s : ByteArray) (i k : Nat) : Prop := ∀ g, formV x g = 0 → glossV x g = s → (i : Int) ≤ g.entry ∧ (g.entry = (i : Int) → (k : Int) - 1 ≤ g.ending)
theorem notB_zero (x : Lexicon) (s : ByteArray) : NotB x s 0 := fun _ hg _ => (valid_of hg).ent.1
theorem notE_zero {x : Lexicon} {s : ByteArray} {i : Nat} (h : NotB x s i) : NotE x s i 0 := fun g hg hs => ⟨h g hg hs, fun _ => by have := (valid_of hg).fin; omega⟩
theorem notB_next {x : Lexicon} {s : ByteArray} {i k : Nat} (h : NotE x s i k) (hk : x.endings.length < k) : NotB x s (i + 1) := fun g hg hs => by
  obtain ⟨h1, h2⟩ := h g hg hs
  have := (valid_of hg).fin
  omega
theorem notB_end {x : Lexicon} {s : ByteArray} {i : Nat} (h : NotB x s i) (hi : x.entries.length ≤ i) : ∀ g, formV x g = 0 → glossV x g ≠ s := fun g hg hs => by
  have := h g hg hs
  have := (valid_of hg).ent
  omega
theorem way_pre {x : Lexicon} {g : Form} (hg : formV x g = 0) : (glossV x ⟨g.entry, g.ending, []⟩).data.toList.isPrefixOf (glossV x g).data.toList = true := by
  have h := gloss_way hg (bare_of hg) (onway_zero hg) (m := 0) (by simp)
  rw [h, List.isPrefixOf_iff_prefix]
  exact ⟨_, rfl⟩
theorem notE_skip {x : Lexicon} {s : ByteArray} {i k : Nat} (h : NotE x s i k) (hn : ¬ (formV x ⟨(i : Int), (k : Int) - 1, []⟩ = 0 ∧ (glossV x ⟨(i : Int), (k : Int) - 1, []⟩).data.toList.isPrefixOf s.data.toList = true)) : NotE x s i (k + 1) := fun g hg hs => by
  obtain ⟨h1, h2⟩ := h g hg hs
  refine ⟨h1, fun e => ?_⟩
  have h3 := h2 e
  have hne : g.ending ≠ (k : Int) - 1 := fun q => hn (by
    have hb := bare_of hg
    have hp := way_pre hg
    rw [e, q] at hb hp
    rw [hs] at hp
    exact ⟨hb, hp⟩)
  omega
/-- what the third loop keeps -/
structure OnF (x : Lexicon) (s : ByteArray) (i k c : Nat) (f : Form) : Prop where
  ent : f.entry = (i : Int)
  fin : f.ending = (k : Int) - 1
  val : formV x f = 0
  low : ∀ a ∈ f.clitics, a < (c : Int)
  way : ∀ g, formV x g = 0 → glossV x g = s → g.entry = (i : Int) → g.ending = (k : Int) - 1 → OnWay g f c
theorem onf_zero {x : Lexicon} {s : ByteArray} {i k : Nat} (h : formV x ⟨(i : Int), (k : Int) - 1, []⟩ = 0) : OnF x s i k 0 ⟨(i : Int), (k : Int) - 1, []⟩ :=
  ⟨rfl, rfl, h, by simp, fun g hg _ e1 e2 => by have := onway_zero hg; rw [e1, e2] at this; exact this⟩
theorem OnF.few {x : Lexicon} {s : ByteArray} {i k c : Nat} {f : Form} (h : OnF x s i k c f) : f.clitics.length ≤ 3 := (valid_of h.val).few
theorem onf_more {x : Lexicon} {s : ByteArray} {i k c : Nat} {f : Form} (h : OnF x s i k c f) (h3 : f.clitics.length < 3) (hc : c < x.clitics.length) : formV x (more f c) = 0 := more_valid h.val h.low h3 hc
theorem onf_step {x : Lexicon} {s : ByteArray} {i k c : Nat} {f : Form} (h : OnF x s i k c f) (h3 : f.clitics.length < 3) (hc : c < x.clitics.length) : OnF x s i k (c + 1) (stepG x s.data.toList f c) := by
  have hw : ∀ g, formV x g = 0 → glossV x g = s → g.entry = (i : Int) → g.ending = (k : Int) - 1 → OnWay g (stepG x s.data.toList f c) (c + 1) := fun g hg hs e1 e2 =>
    onway_step hg (by rw [hs]) h.val (h.way g hg hs e1 e2) h.low h3 hc
  unfold stepG at hw ⊢
  by_cases hh : hitB x s.data.toList f c = true
  · rw [if_pos hh] at hw ⊢
    refine ⟨h.ent, h.fin, onf_more h h3 hc, ?_, hw⟩
    intro a ha
    have ha : a ∈ f.clitics ++ [(c : Int)] := ha
    rw [List.mem_append, List.mem_singleton] at ha
    rcases ha with ha | ha
    · have := h.low a ha; omega
    · omega
  · rw [if_neg hh] at hw ⊢
    exact ⟨h.ent, h.fin, h.val, fun a ha => by have := h.low a ha; omega, hw⟩
theorem onf_hit {x : Lexicon} {s : ByteArray} {i k c : Nat} {f : Form} (h : OnF x s i k c f) (h3 : f.clitics.length < 3) (hc : c < x.clitics.length) (hh : hitB x s.data.toList f c = true) : OnF x s i k (c + 1) (more f c) := by
  have := onf_step h h3 hc
  unfold stepG at this
  rwa [if_pos hh] at this
theorem onf_miss {x : Lexicon} {s : ByteArray} {i k c : Nat} {f : Form} (h : OnF x s i k c f) (h3 : f.clitics.length < 3) (hc : c < x.clitics.length) (hh : hitB x s.data.toList f c = false) : OnF x s i k (c + 1) f := by
  have := onf_step h h3 hc
  unfold stepG at this
  rwa [if_neg (by rw [hh]; simp)] at this
theorem onf_end {x : Lexicon} {s : ByteArray} {i k c : Nat} {f : Form} (h : OnF x s i k c f) (he : x.clitics.length ≤ c ∨ 3 ≤ f.clitics.length) (hn : NotE x s i k) (hs : s ≠ glossV x f) : NotE x s i (k + 1) := fun g hg hgs => by
  obtain ⟨h1, h2⟩ := hn g hg hgs
  refine ⟨h1, fun e => ?_⟩
  have h3 := h2 e
  have hne : g.ending ≠ (k : Int) - 1 := fun q => by
    have := onway_end hg (h.way g hg hgs e q) he
    exact hs (by rw [this, hgs])
  omega
theorem read_bad {x : Lexicon} {s : ByteArray} (h : checkV x ≠ 0) : ReadG x s ⟨0, 0, []⟩ (checkV x) := .inl ⟨h, rfl, rfl⟩
theorem read_form {x : Lexicon} {s : ByteArray} {f : Form} (hf : formV x f = 0) (hs : s = glossV x f) : ReadG x s f 0 := .inr ⟨(valid_of hf).chk, .inl ⟨rfl, hf, hs.symm⟩⟩
theorem read_none {x : Lexicon} {s : ByteArray} (h : checkV x = 0) (hn : ∀ g, formV x g = 0 → glossV x g ≠ s) : ReadG x s ⟨0, 0, []⟩ 4 := .inr ⟨h, .inr ⟨rfl, rfl, hn⟩⟩
end Lx
namespace Go.Proofs
open Go.Shelf
def Tryz.lays145_ren : Go.Shelf.Ren := ⟨fun | 145 => 35 | 220 => 77 | 219 => 99 | 217 => 118 | 225 => 119 | 224 => 120 | 267 => 121 | 266 => 140 | 314 => 141 | n => n, fun | 9 => 9 | 4 => 4 | 59 => 70 | 3 => 3 | 5 => 5 | 46 => 150 | 146 => 178 | 51 => 175 | n => n, fun | 1 => 0 | n => n⟩
theorem Tryz.lays145 : Go.Proofs.Lays.n145 Tryz.prog Tryz.lays145_ren := {
  mixed := by kernel_rfl
  f145 := Tryz.func35.trans (congrArg some (by kernel_rfl))
  f217 := Tryz.func118.trans (congrArg some (by kernel_rfl))
  f219 := Tryz.func99.trans (congrArg some (by kernel_rfl))
  f220 := Tryz.func77.trans (congrArg some (by kernel_rfl))
  f224 := Tryz.func120.trans (congrArg some (by kernel_rfl))
  f225 := Tryz.func119.trans (congrArg some (by kernel_rfl))
  f266 := Tryz.func140.trans (congrArg some (by kernel_rfl))
  f267 := Tryz.func121.trans (congrArg some (by kernel_rfl))
  f314 := Tryz.func141.trans (congrArg some (by kernel_rfl))
  t3 := Tryz.underlying3
  a3 := Tryz.isAgg3
  z3 := Tryz.sizeOf3
  v3 := Tryz.zeroValue3
  t4 := Tryz.underlying4
  a4 := Tryz.isAgg4
  z4 := Tryz.sizeOf4
  v4 := Tryz.zeroValue4
  t5 := Tryz.underlying5
  a5 := Tryz.isAgg5
  z5 := Tryz.sizeOf5
  v5 := Tryz.zeroValue5
  t9 := Tryz.underlying9
  a9 := Tryz.isAgg9
  z9 := Tryz.sizeOf9
  v9 := Tryz.zeroValue9
  t46 := Tryz.underlying150
  a46 := Tryz.isAgg150
  z46 := Tryz.sizeOf150
  v46 := Tryz.zeroValue150
  t51 := Tryz.underlying175
  a51 := Tryz.isAgg175
  z51 := Tryz.sizeOf175
  v51 := Tryz.zeroValue175
  t59 := Tryz.underlying70
  a59 := Tryz.isAgg70
  z59 := Tryz.sizeOf70
  v59 := Tryz.zeroValue70
  t146 := Tryz.underlying178
  a146 := Tryz.isAgg178
  z146 := Tryz.sizeOf178
  v146 := Tryz.zeroValue178
  g1 := by kernel_rfl }
open Go.RowKit Go.Lib in
/-- strings.Cut: "Cut slices s around the first instance of sep, returning the text before and after sep. The found result reports whether sep appears in s. If sep does not appear in s, cut returns s, "", false.": IT RETURNS 'Lib.cut s sep'; the world is as it was but for the count of draws. (LAID: no walk: one application.) -/
theorem Tryz.strings_Cut (s sep : ByteArray) (m : Int) (w : World) (hs : s.size < 4294967281) (hm : w.cell? ⟨0, 0, none⟩ = some (.int .i64 m)) :
    Calls Tryz.prog 35 #[.string s, .string sep] w fun e w' => e = .returned (.tuple #[.string ⟨(Lib.cut s.data.toList sep.data.toList).1.toArray⟩, .string ⟨(Lib.cut s.data.toList sep.data.toList).2.1.toArray⟩, .bool (Lib.cut s.data.toList sep.data.toList).2.2]) ∧ ∃ n, w' = w.drewN n := Any.strings_Cut Tryz.lays145 s sep m w hs hm
def Tryz.lays146_ren : Go.Shelf.Ren := ⟨fun | 146 => 34 | 221 => 76 | 268 => 96 | 138 => 97 | 143 => 98 | 195 => 115 | 197 => 116 | 218 => 117 | 219 => 99 | 260 => 139 | 217 => 118 | 225 => 119 | 224 => 120 | 267 => 121 | 266 => 140 | 314 => 141 | n => n, fun | 9 => 9 | 31 => 68 | 3 => 3 | 4 => 4 | 0 => 0 | 105 => 160 | 21 => 21 | 5 => 5 | 46 => 150 | 119 => 190 | 139 => 193 | 138 => 192 | 146 => 178 | 51 => 175 | n => n, fun | 1 => 0 | 3 => 2 | 4 => 3 | n => n⟩
theorem Tryz.lays146 : Go.Proofs.Lays.n146 Tryz.prog Tryz.lays146_ren := {
  mixed := by kernel_rfl
  f138 := Tryz.func97.trans (congrArg some (by kernel_rfl))
  f143 := Tryz.func98.trans (congrArg some (by kernel_rfl))
  f146 := Tryz.func34.trans (congrArg some (by kernel_rfl))
  f195 := Tryz.func115.trans (congrArg some (by kernel_rfl))
  f197 := Tryz.func116.trans (congrArg some (by kernel_rfl))
  f217 := Tryz.func118.trans (congrArg some (by kernel_rfl))
  f218 := Tryz.func117.trans (congrArg some (by kernel_rfl))
  f219 := Tryz.func99.trans (congrArg some (by kernel_rfl))
  f221 := Tryz.func76.trans (congrArg some (by kernel_rfl))
  f224 := Tryz.func120.trans (congrArg some (by kernel_rfl))
  f225 := Tryz.func119.trans (congrArg some (by kernel_rfl))
  f260 := Tryz.func139.trans (congrArg some (by kernel_rfl))
  f266 := Tryz.func140.trans (congrArg some (by kernel_rfl))
  f267 := Tryz.func121.trans (congrArg some (by kernel_rfl))
  f268 := Tryz.func96.trans (congrArg some (by kernel_rfl))
  f314 := Tryz.func141.trans (congrArg some (by kernel_rfl))
  t0 := Tryz.underlying0
  a0 := Tryz.isAgg0
  z0 := Tryz.sizeOf0
  v0 := Tryz.zeroValue0
  t3 := Tryz.underlying3
  a3 := Tryz.isAgg3
  z3 := Tryz.sizeOf3
  v3 := Tryz.zeroValue3
  t4 := Tryz.underlying4
  a4 := Tryz.isAgg4
  z4 := Tryz.sizeOf4
  v4 := Tryz.zeroValue4
  t5 := Tryz.underlying5
  a5 := Tryz.isAgg5
  z5 := Tryz.sizeOf5
  v5 := Tryz.zeroValue5
  t9 := Tryz.underlying9
  a9 := Tryz.isAgg9
  z9 := Tryz.sizeOf9
  v9 := Tryz.zeroValue9
  t21 := Tryz.underlying21
  a21 := Tryz.isAgg21
  z21 := Tryz.sizeOf21
  v21 := Tryz.zeroValue21
  t31 := Tryz.underlying68
  a31 := Tryz.isAgg68
  z31 := Tryz.sizeOf68
  v31 := Tryz.zeroValue68
  t46 := Tryz.underlying150
  a46 := Tryz.isAgg150
  z46 := Tryz.sizeOf150
  v46 := Tryz.zeroValue150
  t51 := Tryz.underlying175
  a51 := Tryz.isAgg175
  z51 := Tryz.sizeOf175
  v51 := Tryz.zeroValue175
  t105 := Tryz.underlying160
  a105 := Tryz.isAgg160
  z105 := Tryz.sizeOf160
  v105 := Tryz.zeroValue160
  t119 := Tryz.underlying190
  a119 := Tryz.isAgg190
  z119 := Tryz.sizeOf190
  t138 := Tryz.underlying192
  a138 := Tryz.isAgg192
  z138 := Tryz.sizeOf192
  v138 := Tryz.zeroValue192
  t139 := Tryz.underlying193
  a139 := Tryz.isAgg193
  z139 := Tryz.sizeOf193
  v139 := Tryz.zeroValue193
  t146 := Tryz.underlying178
  a146 := Tryz.isAgg178
  z146 := Tryz.sizeOf178
  v146 := Tryz.zeroValue178
  g1 := by kernel_rfl
  g3 := by kernel_rfl
  g4 := by kernel_rfl }
open Go.RowKit Go.Lib in
/-- strings.Split. (LAID: no walk: one application.) -/
theorem Tryz.strings_Split (s sep : ByteArray) (m : Int) (w : World) (hs : s.size < 4294967281) (hm : w.cell? ⟨0, 0, none⟩ = some (.int .i64 m)) (h1 : 1 ≤ sep.size) :
    Calls Tryz.prog 34 #[.string s, .string sep] w fun e w' =>
      e = .returned (.slice (some ⟨w.heap.size, 0, none⟩) (Lib.countB s sep + 1) (Lib.countB s sep + 1)) ∧ w' = w.alloc (.cells ((Lib.splitB sep 0 (Lib.countB s sep) s).map Value.string).toArray 9) := Any.strings_Split Tryz.lays146 (by kernel_rfl) s sep m w hs hm h1
end Go.Proofs
