/- ostraconref01.collide. -/
import Derived.Test.YtkmimjngmfdpmaaGreatDoorMoSgMeet
namespace Go.Proofs.YtkmimjngmfdpmaaGreatDoor
open Go Go.RowKit

set_option maxRecDepth 100000 in
set_option maxHeartbeats 2000000 in
theorem r1collide_any (a b : Sg.Value) (w : World) : Calls Tryz.prog 105 #[.agg #[.int .i64 a.kind, .string a.text, .int .i64 a.lo, .int .i64 a.hi], .agg #[.int .i64 b.kind, .string b.text, .int .i64 b.lo, .int .i64 b.hi]] w (RetBB (Sg.meetB a b) w) := by
  obtain ⟨ka, sa, la, ua⟩ := a
  obtain ⟨kb, sb, lb, ub⟩ := b
  have HB : Hid (Below w.heap.size w ((w.alloc (.cells #[.int .i64 ka, .string sa, .int .i64 la, .int .i64 ua] 60)).alloc (.cells #[.int .i64 kb, .string sb, .int .i64 lb, .int .i64 ub] 60))) := Lib.hid (((Below.refl _ _).alloc (Nat.le_refl _) _).alloc (by simp) _)
  by_cases hk : ka = kb
  · subst hk
    by_cases hs : sa = sb
    · subst hs
      have HM : Hid (Sg.meetB ⟨ka, sa, la, ua⟩ ⟨ka, sa, lb, ub⟩ = (decide (la ≤ ub) && decide (lb ≤ ua))) := Lib.hid (by simp [Sg.meetB])
      by_cases h1 : la ≤ ub
      · by_cases h2 : lb ≤ ua
        · have HF := Lib.hid (HM.out.trans (by simp [h1, h2] : _ = true))
          go_enter Tryz.func105, Tryz.ntmps105
          go_wp2_with fail
          go_ret
          exact ⟨ret_bool (by rw [HF.out]), HB.out⟩
        · have HF := Lib.hid (HM.out.trans (by simp [h1, h2] : _ = false))
          go_enter Tryz.func105, Tryz.ntmps105
          go_wp2_with fail
          go_ret
          exact ⟨ret_bool (by rw [HF.out]; try simp), HB.out⟩
      · have HF := Lib.hid (HM.out.trans (by simp [h1] : _ = false))
        go_enter Tryz.func105, Tryz.ntmps105
        go_wp2_with fail
        go_ret
        exact ⟨ret_bool (by rw [HF.out]), HB.out⟩
    · have ht : (sa.toList == sb.toList) = false := Lx.toList_ne hs
      have HF : Hid (Sg.meetB ⟨ka, sa, la, ua⟩ ⟨ka, sb, lb, ub⟩ = false) := Lib.hid (by simp [Sg.meetB, hs])
      clear hs
      go_enter Tryz.func105, Tryz.ntmps105
      go_wp2_with fail
      go_ret
      exact ⟨ret_bool (by rw [HF.out]), HB.out⟩
  · have hk' : (ka == kb) = false := by rw [beq_eq_false_iff_ne]; exact hk
    have HF : Hid (Sg.meetB ⟨ka, sa, la, ua⟩ ⟨kb, sb, lb, ub⟩ = false) := Lib.hid (by simp [Sg.meetB, hk])
    go_enter Tryz.func105, Tryz.ntmps105
    go_wp2_with fail
    go_ret
    exact ⟨ret_bool (by rw [HF.out]), HB.out⟩
end Go.Proofs.YtkmimjngmfdpmaaGreatDoor
