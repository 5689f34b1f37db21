/- The example of the laws: what is reckoned. -/
import Derived.Test.YtpmnpnlfgfleeaaDoorMgCutsPlain
import Derived.Test.YtpmnpnlfgfleeaaDoorMgFitsPlain
namespace Lx
def nn : ByteArray := ⟨#[110, 110]⟩
def knownL : Lexicon := ⟨[⟨⟨#[110, 102, 114]⟩, 1, ⟨#[103, 111, 111, 100]⟩, 2⟩, ⟨⟨#[110]⟩, 2, ⟨#[]⟩, 1⟩], [⟨1, ⟨#[116]⟩, ⟨#[102, 101, 109]⟩, 1⟩], [⟨⟨#[102]⟩, ⟨#[104, 105, 115]⟩, 1⟩, ⟨⟨#[114]⟩, ⟨#[116, 111]⟩, 0⟩]⟩
def atsL (i : Nat) : List Match := matchesV knownL (nn.extract i nn.size)
def put0 (l : List Tail) (t : Tail) : List Tail := match l with
  | [] => [t]
  | _ => []
theorem put0_mem (l : List Tail) (t y : Tail) (h : y ∈ put0 l t) : y = t ∨ y ∈ l := by
  cases l with
  | nil => simp [put0] at h; exact .inl h
  | cons a r => simp [put0] at h
theorem put0_len (l : List Tail) (t : Tail) : (put0 l t).length ≤ 1 := by
  cases l <;> simp [put0]
theorem ats_len : ∀ i, i < 2 → (atsL i).length = 1 := by decide +kernel
theorem tab0_len (x : Lexicon) (ats : Nat → List Match) (n : Nat) : ∀ k j, (tabT x put0 ats n k j).length ≤ 1 := by
  intro k
  induction k with
  | zero => intro j; simp only [tabT]; split <;> simp
  | succ k ih =>
    intro j
    simp only [tabT]
    split
    · refine foldl_inv (P := fun l : List Tail => l.length ≤ 1) _ [] (by simp) ?_
      intro l m hl _
      exact foldl_inv (P := fun l : List Tail => l.length ≤ 1) _ l hl (fun l' nx _ _ => put0_len _ _)
    · exact ih j
theorem occ0 {l : List Tail} {t : Tail} (h : Occ knownL put0 atsL 2 l t) : l = [] := by
  obtain ⟨k, a, b, m, nx, hk, ha, hb, _, rfl⟩ := h.ex
  have h1 := (List.getElem?_eq_some_iff.1 ha).1
  have h2 := (List.getElem?_eq_some_iff.1 hb).1
  have h3 := ats_len (2 - (k + 1)) (by omega)
  have h4 := tab0_len knownL atsL 2 k (2 - (k + 1) + m.long)
  obtain rfl : a = 0 := by omega
  obtain rfl : b = 0 := by omega
  simp [addNexts, addMs]
theorem cuts0_len : (cutsOf (tabT knownL put0 atsL 2 2 0)).length = 1 := by decide +kernel
theorem cuts0_forms : (cutsOf (tabT knownL put0 atsL 2 2 0)).map (fun c => (c.1.length, c.2)) = [(2, 2)] := by decide +kernel
theorem check0 : checkV knownL = 0 := by decide +kernel
theorem sounds0 : soundsB nn 64 = true := by decide +kernel
theorem form0 : formV knownL ⟨0, 0, [0]⟩ = 0 := by decide +kernel
theorem gloss0 : glossR knownL ⟨0, 0, [0]⟩ = ⟨#[110, 102, 114, 47, 49, 47, 103, 111, 111, 100, 45, 102, 101, 109, 61, 104, 105, 115]⟩ := by decide +kernel
end Lx
