/- ostraconlaw05.copied: an equal form in new memory. -/
import Derived.Test.YtpmnpnlfgfleeaaDoorMgCopy
import Derived.Test.YtpmnpnlfgfleeaaDoorMgCheckForm
namespace Go.Proofs.YtpmnpnlfgfleeaaDoor
open Go.RowKit

theorem wpList_append_rd {α : Type} {enc : α → List Value} {P : Program} {w : World} {ops : Array Oper} {rest : List Oper} {o : Oper} {a : Act} {Q : Exit → Act → World → Prop} (hgd : o.guard = none) (s x : Operand) (t : TypeId)
    (ho : o.op = .call { callee := .builtin .append, args := #[s, x], argTypes := #[t, t] })
    (base : Nat) (e : TypeId) (i : TypeInfo) (z : Value) (size bytes : Nat) (hu : ∀ x, (enc x).length = size) (h1 : ∀ x, ∀ u ∈ enc x, u.oneCell' = true)
    (ht : P.underlying t = some (.slice e)) (hi : P.info? e = some i) (hz : i.zero = some z)
    (hsize : i.size = size) (hby : i.bytes = bytes) (hzs : z.cells.size = size) (hsz : 0 < size)
    (v : Value) (n : Nat) (xs : List Value) (hs : a.eval s = v) (hown : w.ownsRow base e size v n xs) (B : Nat) (sv : Value) (ys : List α) (hx : a.eval x = sv) (hr : RdS w B size enc sv ys)
    (h63 : n + ys.length ≤ maxLen) (hbytes : (n + ys.length) * bytes ≤ 140737488355328) (hbase : base ≤ w.heap.size)
    (h : ∀ v' w', w'.ownsRow base e size v' (n + ys.length) (xs ++ ys.flatMap enc) → w.grownBy w' v.ownBlock → (v'.ownBlock = v.ownBlock ∨ v'.ownBlock = some w.heap.size) → wpList P ops Q rest (a.put o.dst v') w') : wpList P ops Q (o :: rest) a w :=
  wpList_plain hgd fun _ hK => wp_append_rd s x t ho base e i z size bytes hu h1 ht hi hz hsize hby hzs hsz v n xs hs hown B sv ys hx hr h63 hbytes hbase fun v' w' h2 h3 h4 => hK _ _ (h v' w' h2 h3 h4)

theorem start_fst (w : World) (A B : Obj) : ((w.alloc A).alloc B).heap[w.heap.size]? = some A := by
  have q := heap_alloc_new w A
  rw [Below.heap_alloc _ _ _ (by simp)]
  exact q

theorem dn_all {d : Array Bool} {n : Nat} (hd : d.size = n) (hall : ∀ i, i < n → d.getD i true = true) {j : Nat} (hj : j < n) : dn d j := by
  have := hall j hj
  unfold dn
  simp [Array.getD, hd, hj] at this ⊢
  exact this
theorem own_empty {w : World} {base : Nat} {e : TypeId} {size : Nat} (hb : base ≤ w.heap.size) : (w.alloc (.cells #[] e)).ownsRow base e size (.slice (some ⟨w.heap.size, 0, none⟩) 0 0) 0 [] := by
  have := World.ownsRow_lit (w := w) (base := base) (e := e) (size := size) #[] 0 hb (by decide) (by simp)
  simpa using this


end Go.Proofs.YtpmnpnlfgfleeaaDoor
