/- groups.kids: the iterator over the kids of a node, or over the groups of a text. -/
import Derived.Test.YtenmkbpdkfhbjaaRbTxEnd
import Derived.Test.YtenmkbpdkfhbjaaRbIter
import Derived.Test.YtenmkbpdkfhbjaaRbMatches
import Derived.Deep.CutBlock
namespace Tx
/-- where the way from kid to kid begins and ends -/
def fromV (node : Int) : Nat := if 0 ≤ node then node.toNat + 1 else 0
def toV (ns : List Node) (node : Int) : Nat := if 0 ≤ node then endV ns node.toNat else ns.length
def kidsJ (ns : List Node) (node : Int) : List Nat := jump ns (ns.length + 1) (fromV node) (toV ns node)
theorem jump_fuel {ns : List Node} {e : Nat} : ∀ (f g k : Nat), e - k ≤ f → e - k ≤ g → jump ns f k e = jump ns g k e
  | 0, g, k, h1, h2 => by
    have hk : ¬ k < e := by omega
    cases g with
    | zero => rfl
    | succ g => rw [jump, jump, if_neg hk]
  | f + 1, 0, k, h1, h2 => by
    have hk : ¬ k < e := by omega
    rw [jump, jump, if_neg hk]
  | f + 1, g + 1, k, h1, h2 => by
    rw [jump, jump]
    split
    · rename_i hk
      have := end_gt ns k
      rw [jump_fuel f g (endV ns k) (by omega) (by omega)]
    · rfl
theorem jump_step {ns : List Node} {f k e : Nat} (h : k < e) (hf : e - k ≤ f) : jump ns f k e = k :: jump ns f (endV ns k) e := by
  cases f with
  | zero => omega
  | succ f =>
    conv => lhs; rw [jump, if_pos h]
    have := end_gt ns k
    rw [jump_fuel f (f + 1) (endV ns k) (by omega) (by omega)]
theorem jump_done {ns : List Node} {f k e : Nat} (h : ¬ k < e) : jump ns f k e = [] := by
  cases f with
  | zero => rfl
  | succ f => rw [jump, if_neg h]
theorem kidsJ_eq {ns : List Node} {i : Nat} (hd : Deep ns) (hi : i < ns.length) : kidsJ ns (i : Int) = kidsV ns i := by
  unfold kidsJ fromV toV
  rw [if_pos (by omega), if_pos (by omega), Int.toNat_natCast]
  exact jump_eq hd hi (by omega)
end Tx
namespace Go.Proofs.Ytenmkbpdkfhbjaa
open Go Go.RowKit
attribute [local go_sem] Oper.semAt_some

/-- what kids yields -/
def EKid (k : Nat) (_ : World) (args : Array Value) : Prop := args = #[.int .i64 (k : Int)]
theorem firm_kid : Firm EKid := fun _ _ _ _ h _ => h
theorem kids_any (A : Option Addr) (n c : Nat) (node : Int) (w : World) : Calls Try.prog 33 #[.slice A n c, .int .i64 node] w (fun e w' => e = .returned (.func (.func 36) #[] #[.pointer (some ⟨w.heap.size, 0, none⟩), .pointer (some ⟨w.heap.size + 1, 0, none⟩)]) ∧ w' = (w.alloc (.cells #[.slice A n c] 30)).alloc (.cells #[.int .i64 node] 3)) := by
  go_enter Try.func33, Try.ntmps33
  go_wp2
  go_ret
  exact ⟨rfl, rfl⟩
/-- what the iterator captured -/
structure KidsAt (w : World) (bl bn : Nat) (A : Option Addr) (c : Nat) (ns : List Tx.Node) (node : Int) (ok : Nat → Prop) : Prop where
  hl : w.heap[bl]? = some (.cells #[.slice A ns.length c] 30 (0, 0))
  hn : w.heap[bn]? = some (.cells #[.int .i64 node] 3 (0, 0))
  ol : ok bl
  on : ok bn
  rd : RdX w ok 8 encN (.slice A ns.length c) ns
  lt : ∀ b, ok b → b < w.heap.size
set_option maxRecDepth 100000 in
set_option maxHeartbeats 8000000 in
theorem kids_gives (ns : List Tx.Node) (node : Int) (hnode : -1 ≤ node ∧ node < ns.length) (hns : ns.length ≤ 1000000) (w : World) (bl bn : Nat) (A : Option Addr) (c : Nat) (ok : Nat → Prop) (hat : KidsAt w bl bn A c ns node ok) :
    Gives Try.prog 36 #[.pointer (some ⟨bl, 0, none⟩), .pointer (some ⟨bn, 0, none⟩)] EKid ok (Tx.kidsJ ns node) w := by
  intro m l T J Jx W hWs hokW hT hJ hJx hY h0
  have hWl := (hokW bl hat.ol).2.trans hat.hl
  have hWn := (hokW bn hat.on).2.trans hat.hn
  have hltl : bl < W.heap.size := by have := (hokW bl hat.ol).1; omega
  have hltn : bn < W.heap.size := by have := (hokW bn hat.on).1; omega
  have HT := Lib.hid hT
  have HJ := Lib.hid hJ
  have HJX := Lib.hid hJx
  have HY := Lib.hid hY
  have H0 := Lib.hid h0
  have HAT := Lib.hid hat
  have HOKW := Lib.hid hokW
  have HNS := Lib.hid hns
  have HND := Lib.hid hnode
  have OWN : Hid (∀ W' : World, (∀ b, b < W.heap.size → ok b → W'.heap[b]? = W.heap[b]?) → W.heap.size ≤ W'.heap.size →
      W'.cell? ⟨bl, 0, none⟩ = some (.slice A ns.length c) ∧ W'.cell? ⟨bn, 0, none⟩ = some (.int .i64 node) ∧ RdN W' W'.heap.size (.slice A ns.length c) ns) := Lib.hid fun W' hk hz => by
    have q1 := (hk bl hltl HAT.out.ol).trans hWl
    have q2 := (hk bn hltn HAT.out.on).trans hWn
    refine ⟨by simp [World.cell?, q1], by simp [World.cell?, q2], ?_⟩
    refine (HAT.out.rd.keep (w' := W') (ok' := fun b => b < W'.heap.size) fun b hb => ?_).to fun b hb => hb
    have h1 := HOKW.out b hb
    exact ⟨by have := h1.1; omega, (hk b (by have := h1.1; omega) hb).trans h1.2⟩
  clear hT hJ hJx hY h0 hat hokW hWl hWn hltl hltn
  refine callsIn_of_wp_marks Try.func36 rfl trivial ?_
  simp only [Try.ntmps36, List.size_toArray, List.length_cons, List.length_nil, Nat.reduceAdd, Nat.reduceSub, Array.replicate_succ, Array.replicate_zero, List.push_toArray, List.append_toArray, List.nil_append, List.cons_append]
  refine wpIn_wide.2 ?_
  obtain ⟨q0, q1, q2⟩ := OWN.out W (fun _ _ _ => rfl) (Nat.le_refl _)
  have HQ2 := Lib.hid q2
  clear q2 hnode hns
  go_upto_region 0 with fail
  go_quiet (fail)
  rename_i nq _
  obtain ⟨V, hV⟩ : ∃ V, V = W.drewN nq := ⟨_, rfl⟩
  have p0 : V.cell? ⟨bl, 0, none⟩ = some (.slice A ns.length c) := by rw [hV]; exact q0
  have p1 : V.cell? ⟨bn, 0, none⟩ = some (.int .i64 node) := by rw [hV]; exact q1
  rw [← hV]
  have HV := Lib.hid hV
  have HEND : Hid (∀ n i : Nat, i < ns.length → Calls Try.prog 37 #[.slice A ns.length c, .int .i64 i] (V.drewN n) (fun e w' => e = .returned (.int .i64 (Tx.endV ns i : Int)) ∧ ∃ m, w' = (V.drewN n).drewN m)) := Lib.hid (fun n i hil => by
    rw [hV]
    exact end_any ((W.drewN nq).drewN n) W.heap.size A c ns i HQ2.out hil HNS.out)
  clear hV
  go_upto_if 10 with fail
  go_cut [4, 5] from 10 to 16 (fun a b wc => a = .int .i64 (Tx.fromV node : Int) ∧ b = .int .i64 (Tx.toV ns node : Int) ∧ ∃ n, wc = V.drewN n)
  case first =>
    by_cases h0 : 0 ≤ node
    · have hg : decide ((0 : Int) ≤ node) = true := by simpa using h0
      have hid := HND.out
      have hil : node.toNat < ns.length := by omega
      have HF : Hid (Tx.fromV node = node.toNat + 1 ∧ Tx.toV ns node = Tx.endV ns node.toNat) := Lib.hid ⟨by unfold Tx.fromV; rw [if_pos h0], by unfold Tx.toV; rw [if_pos h0]⟩
      have hiI : node < 9223372036854775807 := by have := HNS.out; omega
      have HEN2 : Hid (∀ n : Nat, Calls Try.prog 37 #[.slice A ns.length c, .int .i64 node] (V.drewN n) (fun e w' => e = .returned (.int .i64 (Tx.endV ns node.toNat : Int)) ∧ ∃ m, w' = (V.drewN n).drewN m)) := Lib.hid (fun n => by
        have := HEND.out n node.toNat hil
        rw [Int.toNat_of_nonneg h0] at this
        exact this)
      clear hid hil
      go_upto_region 2 with fail
      go_quiet ((go_at_call 37; exact Calls.quiet_of (HEN2.out _)))
      go_wp2_with fail
      go_meet
      case rel =>
        rw [HF.out.1, HF.out.2]
        exact ⟨by congr 1; omega, rfl, _, rfl⟩
    · have hg : decide ((0 : Int) ≤ node) = false := by simpa using h0
      have HF : Hid (Tx.fromV node = 0 ∧ Tx.toV ns node = ns.length) := Lib.hid ⟨by unfold Tx.fromV; rw [if_neg h0], by unfold Tx.toV; rw [if_neg h0]⟩
      go_wp2_with fail
      go_meet
      go_light
      rw [HF.out.1, HF.out.2]
      exact ⟨rfl, rfl, 0, rfl⟩
  case rest =>
    obtain ⟨rfl, rfl, n2, hn2⟩ := hcut
    obtain ⟨fr, hfr⟩ : ∃ fr, fr = Tx.fromV node := ⟨_, rfl⟩
    obtain ⟨te, hto⟩ : ∃ te, te = Tx.toV ns node := ⟨_, rfl⟩
    rw [← hfr, ← hto]
    have hfl : te ≤ ns.length := by
      rw [hto]
      unfold Tx.toV
      split
      · exact Tx.end_le (by have := HND.out; omega)
      · exact Nat.le_refl _
    have hB : Below W.heap.size W wc := by rw [hn2, HV.out]; exact below_drewN (below_drewN (Below.refl _ _) _) _
    have HB := Lib.hid hB
    have HJ1 : Hid (J [] (fun _ => False) wc) := Lib.hid (HJ.out _ _ _ _ H0.out (.all hB))
    have HXS : Hid (Tx.kidsJ ns node = Tx.jump ns (ns.length + 1) fr te) := Lib.hid (by rw [hfr, hto]; rfl)
    have hsz : W.heap.size = wc.heap.size := by rw [hn2, HV.out]; rfl
    have HSZ := Lib.hid hsz
    clear hn2 hfr hto hB p0 p1 hsz q0 q1
    go_wp2_with fail
    go_loopg [6] (te - fr) (fun g v wr => ∃ (k : Nat) (pre : List Nat) (S : Nat → Prop), g = te - k ∧ v = .int .i64 (k : Int) ∧ pre ++ Tx.jump ns (ns.length + 1) k te = Tx.kidsJ ns node ∧ J pre S wr ∧ (∀ b, S b → W.heap.size ≤ b ∧ b < wr.heap.size) ∧ (∀ b, b < W.heap.size → ok b → wr.heap[b]? = W.heap[b]?) ∧ W.heap.size ≤ wr.heap.size)
    case atStart => exact ⟨fr, [], fun _ => False, rfl, rfl, HXS.out.symm, HJ1.out, fun b h => h.elim, fun b hb _ => HB.out.block b hb, HB.out.size⟩
    case round =>
      obtain ⟨k, pre, S, rfl, rfl, hpre, hj, hsb, hok, hz⟩ := hrel
      obtain ⟨p0, p1, hrd⟩ := OWN.out wr hok hz
      have HPRE := Lib.hid hpre
      have HJR := Lib.hid hj
      have HSB := Lib.hid hsb
      have HOK := Lib.hid hok
      have HRD := Lib.hid hrd
      clear hpre hj hsb hok hrd
      by_cases hlt : k < te
      · have hltI : (k : Int) < (te : Int) := by omega
        have hkl : k < ns.length := by omega
        have hgt := Tx.end_gt ns k
        have hstep : (pre ++ [k]) ++ Tx.jump ns (ns.length + 1) (Tx.endV ns k) te = Tx.kidsJ ns node := by
          rw [← HPRE.out, Tx.jump_step hlt (by omega), List.append_assoc]
          rfl
        have HST := Lib.hid hstep
        have hpf : (pre ++ [k]) <+: Tx.kidsJ ns node := ⟨_, hstep⟩
        have HPF := Lib.hid hpf
        obtain ⟨fn, tmps, assign, body, hy, hR⟩ := HY.out 8 pre S k #[.int .i64 (k : Int)] wr HJR.out HSB.out hz hpf rfl
        clear hstep hpf p0 p1
        go_upto_region 6 with fail
        refine (wpIn_wide (n := 9)).1 ?_
        gi_wp2
        refine hR.mono ?_
        clear hR hy
        rintro e W2 ⟨S2, ht2, hres⟩
        have hk2 : ∀ b, b < W.heap.size → ok b → W2.heap[b]? = W.heap[b]? := fun b hb hx => (ht2.st.block b (by omega) ⟨fun h => (HT.out b h).1 hx, fun h => by have := (HSB.out b h).1; omega⟩).trans (HOK.out b hb hx)
        have hz2 := ht2.st.size
        have hS2 : ∀ b, S2 b → W.heap.size ≤ b ∧ b < W2.heap.size := fun b hb => by
          rcases ht2.sub b hb with q | q
          · have := HSB.out b q; omega
          · omega
        obtain ⟨p0, p1, hrd⟩ := OWN.out W2 hk2 (by omega)
        have HK2 := Lib.hid hk2
        have HS2 := Lib.hid hS2
        have HRD2 := Lib.hid hrd
        clear ht2 hk2 hS2 hrd
        rcases hres with ⟨rfl, hJ2⟩ | ⟨rfl, hJx2⟩
        · have HJ2 := Lib.hid hJ2
          clear hJ2
          gi_wp2
          go_wp2_with fail
          refine (end_any W2 W2.heap.size A c ns k HRD2.out hkl HNS.out).mono ?_
          rintro e w3 ⟨rfl, n3, hn3⟩
          have hb3 : Below W2.heap.size W2 w3 := by rw [hn3]; exact below_drewN (Below.refl _ _) _
          have hs3 : w3.heap.size = W2.heap.size := by rw [hn3]; rfl
          have HB3 := Lib.hid hb3
          clear hn3 hb3
          go_wp2_with fail
          go_roundg (te - Tx.endV ns k)
          case measure => omega
          case rel => exact ⟨Tx.endV ns k, pre ++ [k], S2, rfl, rfl, HST.out, HJ.out _ _ _ _ HJ2.out (.all HB3.out), fun b hb => by have := HS2.out b hb; omega, fun b hb hx => (HB3.out.block b (by omega)).trans (HK2.out b hb hx), by omega⟩
        · have HJ2 := Lib.hid hJx2
          clear hJx2
          gi_wp2
          go_wp2_with fail
          exact ⟨_, results_none rfl _ _ _, ⟨_, rfl⟩, S2, HS2.out, .inr ⟨_, HPF.out, HJ2.out⟩⟩
      · have hltI : ¬ (k : Int) < (te : Int) := by omega
        have hfin : pre = Tx.kidsJ ns node := by
          have := HPRE.out
          rw [Tx.jump_done hlt, List.append_nil] at this
          exact this
        have HJF : Hid (J (Tx.kidsJ ns node) S wr) := Lib.hid (hfin ▸ HJR.out)
        clear hfin
        go_wp2_with fail
        exact ⟨_, results_none rfl _ _ _, ⟨_, rfl⟩, S, HSB.out, .inl HJF.out⟩
end Go.Proofs.Ytenmkbpdkfhbjaa
