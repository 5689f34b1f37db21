/- A valid text may be written, and is read as it was: plain law.; Read and Write of both codes, as values; reading what was written and writing what was read: plain law. -/
import Derived.Test.YtenmkbpdkfhbjaaGreatRaTextPlain
import Derived.Test.YtenmkbpdkfhbjaaGreatRaSgFmtPlain
namespace Cd
open Go
open Tx
theorem upper_eq {c : UInt8} (h : Sg.upper c = true) : upperB c = true := by
  unfold Sg.upper at h
  unfold upperB
  simpa using h
theorem word_eq {c : UInt8} (h : Sg.alnum c = true) : wordB c = true := by
  unfold Sg.alnum Lx.letter Sg.digit at h
  unfold wordB upperB
  simp only [Bool.or_eq_true, Bool.and_eq_true, decide_eq_true_eq] at h ⊢
  rcases h with (h | h) | h
  · exact .inl (.inr h)
  · exact .inl (.inl h)
  · exact .inr h
theorem code_ok {t : ByteArray} (h : Sg.codeB t = true) : CodeOk t.data.toList := by
  obtain ⟨h1, h2, h3⟩ := Sg.code_all h
  refine ⟨h3, ?_⟩
  unfold Sg.codeB at h
  simp only [Bool.and_eq_true] at h
  have hu := h.1.2
  cases hl : t.data.toList with
  | nil => exact absurd hl h2
  | cons u w =>
    rw [hl] at hu
    refine ⟨u, w, rfl, upper_eq (by simpa using hu), fun b hb => word_eq (h1 b (by rw [hl]; simp [hb]))⟩
/-- what a node's own look says -/
theorem own_facts {l : Sg.SList} {b : Option Tx.Node} {n : Tx.Node} (h : ownV l b n = 0) :
    (n.kind = 1 → 0 ≤ n.sign ∧ n.sign < l.signs.length ∧ 0 ≤ n.turn ∧ n.turn ≤ 3 ∧ 0 ≤ n.state ∧ n.state ≤ 3 ∧ n.lo = 0 ∧ n.hi = 0) ∧
    (n.kind = 6 → 0 ≤ n.lo ∧ n.lo ≤ n.hi ∧ n.hi ≤ 9 ∧ 1 ≤ n.hi ∧ n.sign = 0 ∧ n.turn = 0 ∧ n.mirror = false ∧ n.state = 0) ∧
    (n.kind ≠ 1 → n.kind ≠ 6 → n.sign = 0 ∧ n.turn = 0 ∧ n.mirror = false ∧ n.state = 0 ∧ n.lo = 0 ∧ n.hi = 0) := by
  unfold ownV at h
  by_cases c1 : n.kind < 1 ∨ 7 < n.kind
  · rw [if_pos c1] at h; exact absurd h (by decide)
  rw [if_neg c1] at h
  by_cases c2 : n.depth < 0 ∨ 4 < n.depth ∨ most b < n.depth
  · rw [if_pos c2] at h; exact absurd h (by decide)
  rw [if_neg c2] at h
  by_cases k1 : n.kind = 1
  · rw [if_pos k1] at h
    by_cases c3 : n.sign < 0 ∨ (l.signs.length : Int) ≤ n.sign
    · rw [if_pos c3] at h; exact absurd h (by decide)
    rw [if_neg c3] at h
    by_cases c4 : n.turn < 0 ∨ 3 < n.turn ∨ n.state < 0 ∨ 3 < n.state ∨ (n.mirror = true ∧ evenAt l n.sign = true)
    · rw [if_pos c4] at h; exact absurd h (by decide)
    rw [if_neg c4] at h
    by_cases c5 : n.lo ≠ 0 ∨ n.hi ≠ 0
    · rw [if_pos c5] at h; exact absurd h (by decide)
    exact ⟨fun _ => by omega, fun e => by omega, fun e => absurd k1 e⟩
  rw [if_neg k1] at h
  by_cases k6 : n.kind = 6
  · rw [if_pos k6] at h
    by_cases c3 : n.lo < 0 ∨ n.hi < n.lo ∨ 9 < n.hi ∨ n.hi < 1
    · rw [if_pos c3] at h; exact absurd h (by decide)
    rw [if_neg c3] at h
    by_cases c4 : n.sign ≠ 0 ∨ n.turn ≠ 0 ∨ n.mirror = true ∨ n.state ≠ 0
    · rw [if_pos c4] at h; exact absurd h (by decide)
    have hm : n.mirror = false := by
      cases hm : n.mirror
      · rfl
      · exact absurd (.inr (.inr (.inl hm))) c4
    exact ⟨fun e => absurd e k1, fun _ => ⟨by omega, by omega, by omega, by omega, by omega, by omega, hm, by omega⟩, fun _ e => absurd k6 e⟩
  rw [if_neg k6] at h
  by_cases c4 : n.sign ≠ 0 ∨ n.turn ≠ 0 ∨ n.mirror = true ∨ n.state ≠ 0 ∨ n.lo ≠ 0 ∨ n.hi ≠ 0
  · rw [if_pos c4] at h; exact absurd h (by decide)
  have hm : n.mirror = false := by
    cases hm : n.mirror
    · rfl
    · exact absurd (.inr (.inr (.inl hm))) c4
  exact ⟨fun e => absurd e k1, fun e => absurd e k6, fun _ _ => ⟨by omega, by omega, hm, by omega, by omega, by omega⟩⟩
/-- a valid text -/
structure Valid (l : Sg.SList) (ns : List Tx.Node) : Prop where
  list : Sg.checkV l = 0
  own : ∀ i, i < ns.length → ownAt l ns i = 0
  fam : ∀ i, i < ns.length → famP ns i
theorem valid_of {l : Sg.SList} {ns : List Tx.Node} (h : checkT l ns = 0) : Valid l ns ∧ ns.length ≤ 200 := by
  unfold checkT at h
  by_cases c1 : Sg.checkV l ≠ 0
  · rw [if_pos c1] at h; exact absurd h c1
  rw [if_neg c1] at h
  by_cases c2 : 200 < ns.length
  · rw [if_pos c2] at h; exact absurd h (by decide)
  rw [if_neg c2] at h
  by_cases c3 : Sg.firstE (ownAt l ns) ns.length ≠ 0
  · rw [if_pos c3] at h; exact absurd h c3
  rw [if_neg c3] at h
  by_cases c4 : (List.range ns.length).all (famB ns) = true
  · exact ⟨⟨by simpa using c1, Sg.firstE_ne (by simpa using c3), fam_all.1 c4⟩, by omega⟩
  · rw [if_neg c4] at h; exact absurd h (by decide)
theorem code_at {l : Sg.SList} (h : Sg.checkV l = 0) {k : Int} (h1 : 0 ≤ k) (h2 : k < l.signs.length) : CodeOk (codeAt l k) := by
  obtain ⟨s, hs⟩ : ∃ s, l.signs[k.toNat]? = some s := ⟨_, List.getElem?_eq_getElem (by omega)⟩
  unfold codeAt
  rw [hs]
  exact code_ok ((Sg.fineS h).2.2 s (List.mem_of_getElem? hs)).c
theorem name_mem {l : Sg.SList} : ∀ {ks : List Item} {x : Item}, x ∈ nameL l ks → ∃ y ∈ ks, x = nameI l y
  | [], x, h => by rw [nameL] at h; cases h
  | y :: ys, x, h => by
    rw [nameL] at h
    rcases List.mem_cons.1 h with rfl | h
    · exact ⟨y, by simp, rfl⟩
    · obtain ⟨z, hz, e⟩ := name_mem h
      exact ⟨z, by simp [hz], e⟩
theorem name_len {l : Sg.SList} : ∀ ks : List Item, (nameL l ks).length = ks.length
  | [] => by rw [nameL]
  | y :: ys => by rw [nameL, List.length_cons, name_len ys, List.length_cons]
theorem name_node {l : Sg.SList} (x : Item) : (nameI l x).node = x.node := by
  obtain ⟨n, c, p, ks⟩ := x
  rw [nameI]
  rfl
mutual
theorem good_I {l : Sg.SList} {ns : List Tx.Node} (hv : Valid l ns) : ∀ (x : Item) (i : Nat) (d : Int), RepI ns d i x → Good (nameI l x)
  | .mk n c p ks, i, d, h => by
    rw [RepI] at h
    obtain ⟨hi, hn, hdp, hks⟩ := h
    have hd := deep_of hv.own
    have hown := hv.own i hi
    unfold ownAt at hown
    rw [← hn] at hown
    obtain ⟨o1, o6, oi⟩ := own_facts hown
    have hkd : kd ns i = n.kind := by unfold kd; rw [← hn]
    have hpl := kids_places hd hi hks
    have hlen : ks.length = (kidsV ns i).length := by rw [← hpl, places_len]
    obtain ⟨hk1, hk7⟩ := hd.kinds i hi
    rw [hkd] at hk1 hk7
    have hgl := good_L hv ks (i + 1) (endV ns i) (d + 1) hks
    have hkid : ∀ x ∈ nameL l ks, ∃ k ∈ kidsV ns i, x.node.kind = kd ns k := fun x hx => by
      obtain ⟨y, hy, rfl⟩ := name_mem hx
      obtain ⟨k, hk, hr⟩ := rep_mem hks y hy
      rw [hpl] at hk
      exact ⟨k, hk, by rw [name_node]; exact rep_kind hr⟩
    have h5n : ∀ x ∈ nameL l ks, x.node.kind ≠ 5 := fun x hx e => by
      obtain ⟨k, hk, e'⟩ := hkid x hx
      obtain ⟨m1, m2, m3⟩ := mem_kids.1 hk
      have hkl := (end_in m1 m2).1
      have := ((hv.fam k hkl).2.2.2.2.1 (by omega)).2.2.2.1
      have := hd.pos i hi
      omega
    obtain ⟨p0, p2, p3, p4, p5, p7⟩ := hv.fam i hi
    rw [hkd] at p0 p2 p3 p4 p5 p7
    have hnil : leafB n.kind = true → nameL l ks = [] := fun hl => by
      have := leaf_kids hd hi (by rw [hkd]; exact hl)
      rw [this] at hlen
      have : ks = [] := List.eq_nil_of_length_eq_zero hlen
      rw [this, nameL]
    rw [nameI, Good]
    by_cases e1 : n.kind = 1
    · obtain ⟨a1, a2, a3, a4, a5, a6, a7, a8⟩ := o1 e1
      exact .inl ⟨e1, ⟨e1, code_at hv.list a1 a2, ⟨a3, a4⟩, ⟨a5, a6⟩, (fun q => by cases q), ⟨a7, a8⟩⟩, hnil (leaf_iff.2 (.inl e1))⟩
    by_cases e6 : n.kind = 6
    · obtain ⟨a1, a2, a3, a4, a5, a6, a7, a8⟩ := o6 e6
      exact .inr (.inl ⟨e6, ⟨e6, ⟨a1, by omega⟩, ⟨by omega, a3⟩, ⟨a5, a6, a7, a8⟩⟩, hnil (leaf_iff.2 (.inr e6))⟩)
    obtain ⟨a1, a2, a3, a4, a5, a6⟩ := oi e1 e6
    refine .inr (.inr ⟨by omega, ⟨a1, a2, a3, a4, a5, a6⟩, hgl, fun e => ?_, fun e => ?_, fun e => ?_, fun e => ?_, fun e => ?_⟩)
    · obtain ⟨q1, q2⟩ := p4 e
      refine ⟨by rw [name_len, hlen, q1], fun x hx => ?_⟩
      obtain ⟨k, hk, e'⟩ := hkid x hx
      rw [e']
      exact q2 k hk
    · obtain ⟨q1, -, q2⟩ := p2 e
      refine ⟨by rw [name_len, hlen]; exact q1, fun x hx => ?_⟩
      obtain ⟨k, hk, e'⟩ := hkid x hx
      exact ⟨by rw [e']; exact q2 k hk, h5n x hx, by rw [e']; exact p0 (by omega) k hk⟩
    · obtain ⟨q1, -, q2⟩ := p3 e
      refine ⟨by rw [name_len, hlen]; exact q1, fun x hx => ?_⟩
      obtain ⟨k, hk, e'⟩ := hkid x hx
      exact ⟨by rw [e']; exact q2 k hk, h5n x hx, by rw [e']; exact p0 (by omega) k hk⟩
    · obtain ⟨q1, -⟩ := p5 e
      refine ⟨fun q => ?_, fun x hx => h5n x hx⟩
      have := congrArg List.length q
      rw [name_len, hlen] at this
      simp at this
      rw [this] at q1
      simp at q1
    · obtain ⟨q1, -⟩ := p7 e
      refine ⟨fun q => ?_, fun x hx => ⟨h5n x hx, ?_⟩⟩
      · have := congrArg List.length q
        rw [name_len, hlen] at this
        simp at this
        rw [this] at q1
        simp at q1
      · obtain ⟨k, hk, e'⟩ := hkid x hx
        rw [e']
        exact p0 (by omega) k hk
theorem good_L {l : Sg.SList} {ns : List Tx.Node} (hv : Valid l ns) : ∀ (xs : List Item) (i j : Nat) (d : Int), RepL ns d i j xs → GoodL (nameL l xs)
  | [], _, _, _, _ => by rw [nameL, GoodL]; trivial
  | x :: xs, i, j, d, h => by
    rw [RepL] at h
    rw [nameL, GoodL]
    exact ⟨good_I hv x i d h.1, good_L hv xs (endV ns i) j d h.2⟩
end
mutual
/-- signs found again: what was read is the text -/
theorem flatI_back {l : Sg.SList} {f : List UInt8 → Int} (d : Int) : ∀ (x y : Item), normI y = normI (nameI l x) → (∀ n ∈ flatI d x, n.kind = 1 → f (codeAt l n.sign) = n.sign) → flatI d (resI f y) = flatI d x
  | .mk n c p ks, .mk m c' p' ks', h, h1 => by
    rw [nameI, normI, normI] at h
    injection h with e1 e2 e3 e4
    obtain ⟨kd, dp, sg, tn, mr, st, lo, hi⟩ := n
    obtain ⟨kd', dp', sg', tn', mr', st', lo', hi'⟩ := m
    simp only [Tx.Node.mk.injEq] at e1 e2
    obtain ⟨rfl, -, es, rfl, rfl, rfl, rfl, rfl⟩ := e1
    have hk : flatL (d + 1) (resL f ks') = flatL (d + 1) ks := flatL_back (l := l) (d + 1) ks ks' e4 fun q hq => h1 q (by rw [flatI]; simp [hq])
    rw [resI, flatI, flatI, hk]
    congr 1
    by_cases hk1 : kd' = 1
    · subst hk1
      simp only [if_true] at e2 ⊢
      have := h1 ⟨1, d, sg, tn', mr', st', lo', hi'⟩ (by rw [flatI]; simp) rfl
      rw [e2]
      simp only at this
      rw [this]
    · simp only [hk1, if_false] at es ⊢
      rw [es]
theorem flatL_back {l : Sg.SList} {f : List UInt8 → Int} (d : Int) : ∀ (xs ys : List Item), normL ys = normL (nameL l xs) → (∀ n ∈ flatL d xs, n.kind = 1 → f (codeAt l n.sign) = n.sign) → flatL d (resL f ys) = flatL d xs
  | [], [], _, _ => by rw [resL]
  | [], y :: ys, h, _ => by
    rw [nameL, normL, normL] at h
    cases h
  | x :: xs, [], h, _ => by
    rw [nameL, normL, normL] at h
    cases h
  | x :: xs, y :: ys, h, h1 => by
    rw [nameL, normL, normL] at h
    injection h with e1 e2
    rw [resL, flatL, flatL, flatI_back (l := l) d x y e1 fun n hn => h1 n (by rw [flatL]; simp [hn]), flatL_back (l := l) d xs ys e2 fun n hn => h1 n (by rw [flatL]; simp [hn])]
end
/-- what a code cannot say of a node -/
def lackB (kind : Int) (n : Tx.Node) : Bool := decide (kind = 2) && (decide (n.state ≠ 0) || decide (n.lo ≠ n.hi))
def lacksV (kind : Int) (ns : List Tx.Node) : List Int := ((List.range ns.length).filter fun i => lackB kind (nd ns i)).map Int.ofNat
theorem lack_none {ns : List Tx.Node} (h : lacksV 2 ns = []) {i : Nat} (hi : i < ns.length) : (nd ns i).state = 0 ∧ (nd ns i).lo = (nd ns i).hi := by
  unfold lacksV at h
  rw [List.map_eq_nil_iff, List.filter_eq_nil_iff] at h
  have := h i (List.mem_range.2 hi)
  unfold lackB at this
  simp at this
  exact this
mutual
theorem goodT_I {l : Sg.SList} {ns : List Tx.Node} (hv : Valid l ns) (hl : lacksV 2 ns = []) : ∀ (x : Item) (i : Nat) (d : Int), RepI ns d i x → GoodT (nameI l x)
  | .mk n c p ks, i, d, h => by
    rw [RepI] at h
    obtain ⟨hi, hn, hdp, hks⟩ := h
    have hd := deep_of hv.own
    have hown := hv.own i hi
    have hlk := lack_none hl hi
    unfold ownAt at hown
    rw [← hn] at hown hlk
    obtain ⟨o1, o6, oi⟩ := own_facts hown
    have hkd : kd ns i = n.kind := by unfold kd; rw [← hn]
    have hpl := kids_places hd hi hks
    have hlen : ks.length = (kidsV ns i).length := by rw [← hpl, places_len]
    obtain ⟨hk1, hk7⟩ := hd.kinds i hi
    rw [hkd] at hk1 hk7
    have hgl := goodT_L hv hl ks (i + 1) (endV ns i) (d + 1) hks
    obtain ⟨p0, p2, p3, p4, p5, p7⟩ := hv.fam i hi
    rw [hkd] at p0 p2 p3 p4 p5 p7
    have hnil : leafB n.kind = true → nameL l ks = [] := fun hl => by
      have := leaf_kids hd hi (by rw [hkd]; exact hl)
      rw [this] at hlen
      have : ks = [] := List.eq_nil_of_length_eq_zero hlen
      rw [this, nameL]
    rw [nameI, GoodT]
    by_cases e1 : n.kind = 1
    · obtain ⟨a1, a2, a3, a4, a5, a6, a7, a8⟩ := o1 e1
      exact .inl ⟨e1, ⟨e1, code_at hv.list a1 a2, ⟨a3, a4⟩, ⟨a5, a6⟩, (fun _ => hlk.1), ⟨a7, a8⟩⟩, hnil (leaf_iff.2 (.inl e1))⟩
    by_cases e6 : n.kind = 6
    · obtain ⟨a1, a2, a3, a4, a5, a6, a7, a8⟩ := o6 e6
      exact .inr (.inl ⟨e6, ⟨hlk.2, a4, a5, a6, a7, a8⟩, hnil (leaf_iff.2 (.inr e6))⟩)
    obtain ⟨a1, a2, a3, a4, a5, a6⟩ := oi e1 e6
    refine .inr (.inr ⟨by omega, ⟨a1, a2, a3, a4, a5, a6⟩, hgl, fun q => ?_⟩)
    have hz := congrArg List.length q
    rw [name_len, hlen] at hz
    simp only [List.length_nil] at hz
    have hk : n.kind = 2 ∨ n.kind = 3 ∨ n.kind = 4 ∨ n.kind = 5 ∨ n.kind = 7 := by omega
    rcases hk with e | e | e | e | e
    · have := (p2 e).1; omega
    · have := (p3 e).1; omega
    · have := (p4 e).1; omega
    · have := (p5 e).1; omega
    · have := (p7 e).1; omega
theorem goodT_L {l : Sg.SList} {ns : List Tx.Node} (hv : Valid l ns) (hl : lacksV 2 ns = []) : ∀ (xs : List Item) (i j : Nat) (d : Int), RepL ns d i j xs → GoodTL (nameL l xs)
  | [], _, _, _, _ => by rw [nameL, GoodTL]; trivial
  | x :: xs, i, j, d, h => by
    rw [RepL] at h
    rw [nameL, GoodTL]
    exact ⟨goodT_I hv hl x i d h.1, goodT_L hv hl xs (endV ns i) j d h.2⟩
end
end Cd
namespace Cd
open Go
open Tx
/-- the number of the sign with a code, or -1 -/
def signIx (l : Sg.SList) (c : List UInt8) : Int := match l.signs.findIdx? (fun s => decide (s.code.data.toList = c)) with
  | some i => (i : Int)
  | none => -1
theorem data_inj {a b : ByteArray} (h : a.data.toList = b.data.toList) : a = b := by
  have e : a.data = b.data := Array.toList_inj.1 h
  cases a; cases b
  simp only at e
  rw [e]
theorem ix_code {l : Sg.SList} (h : Sg.checkV l = 0) {k : Int} (h1 : 0 ≤ k) (h2 : k < l.signs.length) : signIx l (codeAt l k) = k := by
  obtain ⟨i, rfl⟩ := Int.eq_ofNat_of_zero_le h1
  have hi : i < l.signs.length := by omega
  have hs : l.signs[i]? = some l.signs[i] := List.getElem?_eq_getElem hi
  have hc : codeAt l (i : Int) = l.signs[i].code.data.toList := by
    unfold codeAt
    rw [Int.toNat_natCast, hs]
  rw [hc]
  unfold signIx
  have : l.signs.findIdx? (fun s => decide (s.code.data.toList = l.signs[i].code.data.toList)) = some i := by
    rw [List.findIdx?_eq_some_iff_getElem]
    refine ⟨hi, by simp, fun j hj => ?_⟩
    have hp := (Sg.sign_parts ((Sg.check_sign h).2.2 i _ hs)).2.1
    rw [List.any_eq_false] at hp
    intro e
    have hm : l.signs[j] ∈ l.signs.take i := List.mem_of_getElem? (i := j) (by rw [List.getElem?_take_of_lt hj]; exact List.getElem?_eq_getElem (by omega))
    exact hp _ hm (by simpa using data_inj (by simpa using e))
  rw [this]
/-- where the first code stands that the list has not -/
def unknownV (l : Sg.SList) (qs : List (List UInt8 × Nat)) : Option Nat := (qs.find? fun q => decide (signIx l q.1 = -1)).map (·.2)
/-- what Read returns: the nodes, the place, the error -/
def readV (kind : Int) (l : Sg.SList) (s : List UInt8) : List Tx.Node × Int × Int :=
  if kind ≠ 1 ∧ kind ≠ 2 then ([], 0, 1) else if Sg.checkV l ≠ 0 then ([], 0, Sg.checkV l) else if 65536 < s.length then ([], 0, 2) else
  match parseG s kind with
  | .bad k => ([], k, 4)
  | .ok xs _ => match unknownV l (codesL xs) with
    | some k => ([], k, 23)
    | none => if checkT l (flatL 0 (resL (signIx l) xs)) ≠ 0 then ([], 0, checkT l (flatL 0 (resL (signIx l) xs))) else (flatL 0 (resL (signIx l) xs), 0, 0)
/-- what Lacks and Write return -/
def lacksE (kind : Int) (l : Sg.SList) (ns : List Tx.Node) : Int := if kind ≠ 1 ∧ kind ≠ 2 then 1 else checkT l ns
mutual
/-- an item that was read knows the codes of its signs; f finds them -/
theorem codes_normI {l : Sg.SList} : ∀ (x y : Item) (d : Int), normI y = normI (nameI l x) → (∀ n ∈ flatI d x, n.kind = 1 → signIx l (codeAt l n.sign) = n.sign ∧ 0 ≤ n.sign) → ∀ q ∈ codesI y, signIx l q.1 ≠ -1
  | .mk n c p ks, .mk m c' p' ks', d, h, h1 => by
    rw [nameI, normI, normI] at h
    injection h with e1 e2 e3 e4
    have hkk : m.kind = n.kind := by
      have := congrArg Tx.Node.kind e1
      exact this
    intro q hq
    rw [codesI] at hq
    rcases List.mem_append.1 hq with hq | hq
    · by_cases hk1 : m.kind = 1
      · rw [if_pos hk1] at hq e2
        rw [if_pos (hkk ▸ hk1)] at e2
        rw [List.mem_singleton] at hq
        subst hq
        have := h1 { n with depth := d } (by rw [flatI]; simp) (by show n.kind = 1; rw [← hkk]; exact hk1)
        simp only at this
        rw [e2, this.1]
        omega
      · rw [if_neg hk1] at hq
        cases hq
    · exact codes_normL (l := l) ks ks' (d + 1) e4 (fun n hn => h1 n (by rw [flatI]; simp [hn])) q hq
theorem codes_normL {l : Sg.SList} : ∀ (xs ys : List Item) (d : Int), normL ys = normL (nameL l xs) → (∀ n ∈ flatL d xs, n.kind = 1 → signIx l (codeAt l n.sign) = n.sign ∧ 0 ≤ n.sign) → ∀ q ∈ codesL ys, signIx l q.1 ≠ -1
  | [], [], _, _, _ => by
    intro q hq
    rw [codesL] at hq
    cases hq
  | [], y :: ys, _, h, _ => by
    rw [nameL, normL, normL] at h
    cases h
  | x :: xs, [], _, h, _ => by
    rw [nameL, normL, normL] at h
    cases h
  | x :: xs, y :: ys, d, h, h1 => by
    rw [nameL, normL, normL] at h
    injection h with e1 e2
    intro q hq
    rw [codesL] at hq
    rcases List.mem_append.1 hq with hq | hq
    · exact codes_normI (l := l) x y d e1 (fun n hn => h1 n (by rw [flatL]; simp [hn])) q hq
    · exact codes_normL (l := l) xs ys d e2 (fun n hn => h1 n (by rw [flatL]; simp [hn])) q hq
end
theorem leaf_size {line : Bool} {n : Tx.Node} {c : List UInt8} (h : LeafOk line n c) : (leafU line n c).length ≤ 12 := by
  have h1 := h.code.len
  obtain ⟨q, e, -⟩ := digit_itoa (a := n.turn) (by have := h.turn; omega)
  unfold leafU
  simp only [List.length_append]
  have a1 : (if n.mirror = true then [(92 : UInt8)] else []).length ≤ 1 := by split <;> simp
  have a2 : (if 0 < n.turn then (47 : UInt8) :: Lib.itoa n.turn else []).length ≤ 2 := by
    split
    · rw [e]; simp
    · simp
  have a3 : (if line = true then (if n.state = 1 then [(35 : UInt8)] else if n.state = 2 then [61] else if n.state = 3 then [33] else []) else []).length ≤ 1 := by
    split
    · split
      · simp
      · split
        · simp
        · split <;> simp
    · simp
  omega
mutual
theorem un_most : ∀ (x : Item) (b : Bool), Good x → (unI b x).length + 1 ≤ 14 * sizeI x
  | .mk n c p ks, b, h => by
    by_cases hk : n.kind ≠ 1 ∧ n.kind ≠ 6
    · obtain ⟨-, -, h3, -⟩ := good_inner h hk
      have hu := un_mostL ks (betw n.kind) (decide (n.kind = 2)) h3
      rw [un_mk, if_neg hk.1, if_neg hk.2, sizeI, List.length_append, List.length_append]
      have a1 : (openU b n.kind).length ≤ 1 := by
        unfold openU
        split
        · split <;> simp
        · split
          · simp
          · split <;> simp
      have a2 : (shutU b n.kind).length ≤ 1 := by
        unfold shutU
        split
        · split <;> simp
        · split
          · simp
          · split <;> simp
      omega
    · rw [Good] at h
      rw [un_mk, sizeI]
      rcases h with ⟨h1, h2, rfl⟩ | ⟨h1, h2, rfl⟩ | ⟨h1, -⟩
      · rw [if_pos h1, sizeL]
        have := leaf_size h2
        omega
      · rw [if_neg (by omega), if_pos h1, sizeL]
        obtain ⟨q1, e1, -⟩ := digit_itoa h2.lo
        obtain ⟨q2, e2, -⟩ := digit_itoa h2.hi
        unfold gapU
        rw [e1, e2]
        simp
      · omega
theorem un_mostL : ∀ (xs : List Item) (c : UInt8) (b : Bool), GoodL xs → (unL c b xs).length ≤ 14 * sizeL xs
  | [], c, b, _ => by rw [un_nil, sizeL]; simp
  | [x], c, b, h => by
    rw [GoodL] at h
    have := un_most x b h.1
    rw [un_two, un_none, List.append_nil, sizeL, sizeL]
    omega
  | x :: y :: xs, c, b, h => by
    rw [GoodL] at h
    have h1 := un_most x b h.1
    have h2 := un_mostL (y :: xs) c b h.2
    rw [un_two, un_more, sizeL, List.length_append, List.length_cons]
    rw [un_two] at h2
    omega
end
theorem word_size (k : Int) : (wordOf k).length ≤ 6 := by
  unfold wordOf
  split
  · simp
  · split
    · simp
    · split
      · simp
      · split <;> simp
mutual
theorem ut_most : ∀ x : Item, GoodT x → (∀ n ∈ flatI 0 x, n.hi ≤ 9) → (utI x).length + 1 ≤ 14 * sizeI x
  | .mk n c p ks, h, h9 => by
    rw [GoodT] at h
    rw [ut_mk, sizeI]
    rcases h with ⟨h1, h2, rfl⟩ | ⟨h1, h2, rfl⟩ | ⟨h1, h2, h3, h4⟩
    · rw [if_pos h1, sizeL]
      have := leaf_size h2
      omega
    · rw [if_neg (by omega), if_pos h1, sizeL, List.length_replicate]
      have := h9 { n with depth := 0 } (by rw [flatI]; simp)
      simp only at this
      omega
    · have h9' : ∀ n ∈ flatL 0 ks, n.hi ≤ 9 := fun m hm => by
        have e := flatL_shift 0 1 ks
        have hm' : deeper 1 m ∈ flatL (0 + 1) ks := by rw [e]; exact List.mem_map_of_mem hm
        exact h9 (deeper 1 m) (by rw [flatI]; exact List.mem_cons_of_mem _ hm')
      have := ut_mostL ks h3 h9'
      have hw := word_size n.kind
      rw [if_neg (by omega), if_neg (by omega)]
      simp only [List.length_cons, List.length_append, List.length_nil]
      omega
theorem ut_mostL : ∀ xs : List Item, GoodTL xs → (∀ n ∈ flatL 0 xs, n.hi ≤ 9) → (utL xs).length ≤ 14 * sizeL xs
  | [], _, _ => by rw [ut_nil, sizeL]; simp
  | [x], h, h9 => by
    rw [GoodTL] at h
    have := ut_most x h.1 fun n hn => h9 n (by rw [flatL]; simp [hn])
    rw [ut_one, sizeL, sizeL]
    omega
  | x :: y :: xs, h, h9 => by
    rw [GoodTL] at h
    have h1 := ut_most x h.1 fun n hn => h9 n (by rw [flatL]; simp [hn])
    have h2 := ut_mostL (y :: xs) h.2 fun n hn => h9 n (by rw [flatL]; simp [hn])
    rw [ut_more, sizeL, List.length_append, List.length_append]
    simp only [List.length_cons, List.length_nil]
    omega
end
end Cd
