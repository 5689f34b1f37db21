/- ostraconlaw05.copied: an equal form in new memory. -/
import Derived.Test.YtpmnpnlfgfleeaaGreatDoorMgCopy
import Derived.Test.YtpmnpnlfgfleeaaGreatDoorMgCheckForm
namespace Go.Proofs.YtpmnpnlfgfleeaaGreatDoor
open Go.RowKit

theorem wpList_append_rd {α : Type} {enc : α → List Value} {P : Program} {w : World} {ops : Array Oper} {rest : List Oper} {o : Oper} {a : Act} {Q : Exit → Act → World → Prop} (hgd : o.guard = none) (s x : Operand) (t : TypeId)
    (ho : o.op = .call { callee := .builtin .append, args := #[s, x], argTypes := #[t, t] })
    (base : Nat) (e : TypeId) (i : TypeInfo) (z : Value) (size bytes : Nat) (hu : ∀ x, (enc x).length = size) (h1 : ∀ x, ∀ u ∈ enc x, u.oneCell' = true)
    (ht : P.underlying t = some (.slice e)) (hi : P.info? e = some i) (hz : i.zero = some z)
    (hsize : i.size = size) (hby : i.bytes = bytes) (hzs : z.cells.size = size) (hsz : 0 < size)
    (v : Value) (n : Nat) (xs : List Value) (hs : a.eval s = v) (hown : w.ownsRow base e size v n xs) (B : Nat) (sv : Value) (ys : List α) (hx : a.eval x = sv) (hr : RdS w B size enc sv ys)
    (h63 : n + ys.length ≤ maxLen) (hbytes : (n + ys.length) * bytes ≤ 140737488355328) (hbase : base ≤ w.heap.size)
    (h : ∀ v' w', w'.ownsRow base e size v' (n + ys.length) (xs ++ ys.flatMap enc) → w.grownBy w' v.ownBlock → (v'.ownBlock = v.ownBlock ∨ v'.ownBlock = some w.heap.size) → wpList P ops Q rest (a.put o.dst v') w') : wpList P ops Q (o :: rest) a w :=
  wpList_plain hgd fun _ hK => wp_append_rd s x t ho base e i z size bytes hu h1 ht hi hz hsize hby hzs hsz v n xs hs hown B sv ys hx hr h63 hbytes hbase fun v' w' h2 h3 h4 => hK _ _ (h v' w' h2 h3 h4)

theorem start_fst (w : World) (A B : Obj) : ((w.alloc A).alloc B).heap[w.heap.size]? = some A := by
  have q := heap_alloc_new w A
  rw [Below.heap_alloc _ _ _ (by simp)]
  exact q

theorem dn_all {d : Array Bool} {n : Nat} (hd : d.size = n) (hall : ∀ i, i < n → d.getD i true = true) {j : Nat} (hj : j < n) : dn d j := by
  have := hall j hj
  unfold dn
  simp [Array.getD, hd, hj] at this ⊢
  exact this
theorem own_empty {w : World} {base : Nat} {e : TypeId} {size : Nat} (hb : base ≤ w.heap.size) : (w.alloc (.cells #[] e)).ownsRow base e size (.slice (some ⟨w.heap.size, 0, none⟩) 0 0) 0 [] := by
  have := World.ownsRow_lit (w := w) (base := base) (e := e) (size := size) #[] 0 hb (by decide) (by simp)
  simpa using this

set_option maxRecDepth 100000 in
set_option maxHeartbeats 1000000 in
theorem copied_any (v : Value) (f : Lx.Form) (w : World) (hf : RdF w w.heap.size v f) (hlen : f.clitics.length ≤ 1000) :
    Calls Tryz.prog 11 #[v] w (fun e w' => ∃ v', e = .returned v' ∧ RdF w' w'.heap.size v' f ∧ Below w.heap.size w w') := by
  obtain ⟨⟨vs, rfl, hrs⟩⟩ := hf
  have HR := Lib.hid hrs
  obtain ⟨A0, c0, rfl, -⟩ := hrs
  obtain ⟨i0, hi0, hz0, hs0, hb0⟩ := info_parts info_int
  go_enter Tryz.func11, Tryz.ntmps11
  go_wp2_with (at_builtin; (refine wpList_append_rd (enc := encInt) rfl (.tmp 3) (.tmp 5) _ rfl (w.heap.size + 2) 3 i0 _ 1 8 len_int one_int Tryz.underlying27 hi0 hz0 hs0 hb0 rfl Nat.one_pos (.slice (some ⟨w.heap.size + 2, 0, none⟩) 0 0) 0 [] rfl ?ho w.heap.size _ f.clitics rfl ?hr ?h63 ?hb ?hB ?_))
  case ho => have := own_empty (w := (w.alloc (.cells #[.int .i64 f.entry, .int .i64 f.ending, .slice A0 f.clitics.length c0] 29)).alloc (.cells #[.int .i64 0, .int .i64 0, .slice none 0 0] 29)) (e := 3) (size := 1) (base := w.heap.size + 2) (by simp); simpa using this
  case hr => exact HR.out.below ((((Below.refl _ _).alloc (Nat.le_refl _) _).alloc (by simp) _).alloc (by simp; omega) _)
  case h63 => simp only [maxLen]; omega
  case hb => omega
  case hB => simp
  intro v' w' hown0 hg hat
  have hown : w'.ownsRow (w.heap.size + 2) 3 1 v' f.clitics.length (f.clitics.flatMap encInt) := by simpa using hown0
  clear hown0 hat
  obtain ⟨A3, c3, rfl⟩ := own_form hown
  have hsz : w.heap.size + 3 ≤ w'.heap.size := by have := hg.size; simp at this; omega
  have k0 : w'.heap[w.heap.size]? = some (.cells #[.int .i64 f.entry, .int .i64 f.ending, .slice A0 f.clitics.length c0] 29 (0, 0)) := by
    rw [hg.block _ (by simp; omega) (by simp [Value.ownBlock])]
    rw [Below.heap_alloc _ _ _ (by simp; omega)]
    exact start_fst w _ _
  have k1 : w'.heap[w.heap.size + 1]? = some (.cells #[.int .i64 0, .int .i64 0, .slice none 0 0] 29 (0, 0)) := by
    rw [hg.block _ (by simp) (by simp [Value.ownBlock])]
    rw [Below.heap_alloc _ _ _ (by simp)]
    exact start_res w _
  have HB : Hid (Below w.heap.size w w') := Lib.hid (((((Below.refl _ _).alloc (Nat.le_refl _) _).alloc (by simp) _).alloc (by simp; omega) _).grown hg (by simp; omega) (fun k hk => by simp [Value.ownBlock] at hk; omega))
  have m0 : w'.cell? ⟨w.heap.size, 0, none⟩ = some (.int .i64 f.entry) := by simp [World.cell?, k0]
  have m1 : w'.cell? ⟨w.heap.size, 1, none⟩ = some (.int .i64 f.ending) := by simp [World.cell?, k0]
  have m2 : w'.cell? ⟨w.heap.size, 2, none⟩ = some (.slice A0 f.clitics.length c0) := by simp [World.cell?, k0]
  have z : w'.frozen? ⟨w.heap.size, 2, none⟩ = false := by simp [World.frozen?, k0]
  have q0 : w'.cell? ⟨w.heap.size + 1, 0, none⟩ = some (.int .i64 0) := by simp [World.cell?, k1]
  have q1 : w'.cell? ⟨w.heap.size + 1, 1, none⟩ = some (.int .i64 0) := by simp [World.cell?, k1]
  have q2 : w'.cell? ⟨w.heap.size + 1, 2, none⟩ = some (.slice none 0 0) := by simp [World.cell?, k1]
  have z0 : w'.frozen? ⟨w.heap.size + 1, 0, none⟩ = false := by simp [World.frozen?, k1]
  have z1 : w'.frozen? ⟨w.heap.size + 1, 1, none⟩ = false := by simp [World.frozen?, k1]
  have z2 : w'.frozen? ⟨w.heap.size + 1, 2, none⟩ = false := by simp [World.frozen?, k1]
  have HO := Lib.hid hown
  clear hown hg k0 k1
  go_wp2_with fail
  refine bodyPost_ret (v := .agg #[.int .i64 f.entry, .int .i64 f.ending, .slice A3 f.clitics.length c3]) ?_ rfl ⟨_, rfl, ⟨⟨_, rfl, ?_⟩⟩, ?_⟩
  · simp [results, Tryz.results11, go_sem, q0, q1, q2]
  · exact rds_of_own len_int (ownsRow_setCell_below (ownsRow_setCell_below (ownsRow_setCell_below (ownsRow_setCell_below HO.out (by simp; try omega) _) (by simp; try omega) _) (by simp; try omega) _) (by simp; try omega) _)
  · exact ((((HB.out).setCell (by simp) _).setCell (by simp) _).setCell (by simp) _).setCell (by simp) _
end Go.Proofs.YtpmnpnlfgfleeaaGreatDoor
