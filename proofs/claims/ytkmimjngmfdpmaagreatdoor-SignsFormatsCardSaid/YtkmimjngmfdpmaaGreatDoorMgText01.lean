/- ostraconref01: Split, Lines, Number; ostraconref05.full. -/
import Derived.Test.YtkmimjngmfdpmaaGreatDoorMgTextPlain
import Derived.Test.YtkmimjngmfdpmaaGreatDoorMgRTails
import Derived.Test.YtkmimjngmfdpmaaGreatDoorMgGlossPlain
import Derived.Test.YtkmimjngmfdpmaaGreatDoorMgLeaf
namespace Go.Proofs.YtkmimjngmfdpmaaGreatDoor
open Go Go.RowKit

def encStr (b : ByteArray) : List Value := [.string b]
theorem len_str (b : ByteArray) : (encStr b).length = 1 := rfl
theorem one_str (b : ByteArray) : ∀ u ∈ encStr b, u.oneCell' = true := by intro u hu; simp [encStr] at hu; subst hu; rfl
theorem info_str : (Tryz.prog.info? 9).map (fun i => (i.zero, i.size, i.bytes)) = some (some (.string ⟨#[]⟩), 1, 16) := by kernel_rfl
theorem extract_take (t : ByteArray) (f k : Nat) (h : k ≤ t.size) : (t.extract f k).data.toList = (t.data.toList.take k).drop f := by
  rw [Lib.extract_data, List.take_drop]
  by_cases hf : f ≤ k
  · rw [show f + (k - f) = k by omega]
  · rw [List.drop_eq_nil_of_le (by simp; omega), List.drop_eq_nil_of_le (by simp; omega)]
theorem pst_at (c : UInt8) (t : ByteArray) (k : Nat) (h : k < t.size) : Lx.pst c (t.data.toList.take (k + 1)) = if t[k] = c then ((Lx.pst c (t.data.toList.take k)).1 ++ [(Lx.pst c (t.data.toList.take k)).2], []) else ((Lx.pst c (t.data.toList.take k)).1, (Lx.pst c (t.data.toList.take k)).2 ++ [t[k]]) := by
  have hk : k < t.data.toList.length := h
  rw [List.take_succ_eq_append_getElem hk, Lx.pst_snoc]
  rfl
theorem pst_piece (c : UInt8) (t : ByteArray) (k f : Nat) (hk : k ≤ t.size) (hf : f + (Lx.pst c (t.data.toList.take k)).2.length = k) : (t.extract f k).data.toList = (Lx.pst c (t.data.toList.take k)).2 := by
  rw [extract_take t f k hk]
  obtain ⟨x, hx⟩ := Lx.pst_suffix c (t.data.toList.take k)
  have hl : (t.data.toList.take k).length = k := by rw [List.length_take]; have : t.data.toList.length = t.size := rfl; omega
  have hxl : x.length = f := by
    have := congrArg List.length hx
    rw [List.length_append, hl] at this
    omega
  conv => lhs; rw [hx]
  rw [← hxl, List.drop_left]

/-- words, in new memory -/
def RetWords (q : List (List UInt8)) (w : World) (e : Ending) (w' : World) : Prop := ∃ v, ∃ l : List ByteArray, e = .returned v ∧ w'.ownsRow w.heap.size 9 1 v l.length (l.flatMap encStr) ∧ l.map (·.data.toList) = q ∧ Below w.heap.size w w'
set_option maxRecDepth 100000 in
set_option maxHeartbeats 2000000 in
theorem r1Split_any (t : ByteArray) (c : UInt8) (w : World) (ht : t.size ≤ 1000000) : Calls Tryz.prog 62 #[.string t, .int .u8 (c.toNat : Int)] w (RetWords (Lib.split t.data.toList [c]) w) := by
  obtain ⟨i1, hi1, hz1, hs1, hb1⟩ := info_parts info_str
  go_enter Tryz.func62, Tryz.ntmps62
  go_wp2_with fail
  go_loopg [5, 6, 7] (t.size + 1) (fun g v fr i wr => ∃ (k f : Nat) (l : List ByteArray), k ≤ t.size + 1 ∧ g = t.size + 1 - k ∧ i = .int .i64 k ∧ fr = .int .i64 f ∧ (∃ A n cc, v = .slice A n cc) ∧ wr.ownsRow w.heap.size 9 1 v l.length (l.flatMap encStr) ∧ Below w.heap.size w wr ∧ l.length ≤ k ∧
    (k ≤ t.size → l.map (·.data.toList) = (Lx.pst c (t.data.toList.take k)).1 ∧ f + (Lx.pst c (t.data.toList.take k)).2.length = k) ∧ (k = t.size + 1 → l.map (·.data.toList) = Lib.split t.data.toList [c]))
  case atStart => exact ⟨0, 0, [], Nat.zero_le _, rfl, rfl, rfl, ⟨_, _, _, rfl⟩, World.ownsRow_nil _ _ _ _, Below.refl _ _, Nat.le_refl _, fun _ => ⟨rfl, rfl⟩, fun h => by omega⟩
  case round =>
    obtain ⟨k, f, l, hk, rfl, rfl, rfl, ⟨Av, nv, cv, rfl⟩, hown, hbel, hlk, hp1, hp2⟩ := hrel
    have HOWN := Lib.hid hown
    have HBEL := Lib.hid hbel
    have HP2 := Lib.hid hp2
    have hszr := hbel.size
    obtain rfl : nv = l.length := by
      obtain ⟨_, _, e⟩ := own_form hown
      injection e
    clear hown hbel hp2
    by_cases hle : k ≤ t.size
    · obtain ⟨p1, p2⟩ := hp1 hle
      have hleI : (k : Int) ≤ (t.size : Int) := by omega
      have hfk : f ≤ k := by omega
      have HP1 := Lib.hid p1
      have HPC := Lib.hid (pst_piece c t k f hle p2)
      have HPK := Lib.hid p2
      clear p1 p2 hp1
      by_cases hcut : k = t.size ∨ ∃ h : k < t.size, t[k] = c
      · -- the piece ends here
        have HNEXT : Hid (∀ l' : List ByteArray, l'.map (·.data.toList) = (Lx.pst c (t.data.toList.take k)).1 ++ [(Lx.pst c (t.data.toList.take k)).2] → (k + 1 ≤ t.size → l'.map (·.data.toList) = (Lx.pst c (t.data.toList.take (k + 1))).1 ∧ (k + 1) + (Lx.pst c (t.data.toList.take (k + 1))).2.length = k + 1) ∧ (k + 1 = t.size + 1 → l'.map (·.data.toList) = Lib.split t.data.toList [c])) := Lib.hid fun l' hl' => by
          refine ⟨fun h => ?_, fun h => ?_⟩
          · have hlt : k < t.size := by omega
            obtain ⟨_, hc⟩ := hcut.resolve_left (by omega)
            rw [pst_at c t k hlt, if_pos hc]
            exact ⟨hl', rfl⟩
          · have : t.data.toList.take k = t.data.toList := List.take_of_length_le (by show t.data.toList.length ≤ k; have : t.data.toList.length = t.size := rfl; omega)
            rw [this] at hl'
            rw [hl', Lx.pst_split]
        have HREST : Hid (∀ (v' : Value) (w' : World), w'.ownsRow w.heap.size 9 1 v' (l.length + 1) (l.flatMap encStr ++ [t.extract f k].flatMap encStr) → w'.ownsRow w.heap.size 9 1 v' (l ++ [t.extract f k]).length ((l ++ [t.extract f k]).flatMap encStr)) := Lib.hid fun v' w' h => by
          rw [List.length_append, List.flatMap_append]
          exact h
        have HRD : Hid (∀ W : World, wr.heap.size ≤ W.heap.size → RdS (W.alloc (.cells #[.string (t.extract f k)] 9)) (W.alloc (.cells #[.string (t.extract f k)] 9)).heap.size 1 encStr (.slice (some ⟨W.heap.size, 0, none⟩) 1 1) [t.extract f k]) := Lib.hid fun W _ =>
          rds_block (xs := [t.extract f k]) len_str (heap_alloc_new W _) rfl (by simp) (Nat.le_refl 1) (by decide)
        have hk1 : l.length + 1 ≤ maxLen := by simp only [maxLen]; omega
        have hk2 : (l.length + 1) * 16 ≤ 140737488355328 := by omega
        have hOW : Hid ((wr.alloc (.cells #[.string (t.extract f k)] 9)).ownsRow w.heap.size 9 1 (.slice Av l.length cv) l.length (l.flatMap encStr)) := Lib.hid (keep_own HOWN.out ((Below.refl _ _).alloc (Nat.le_refl _) _))
        have hbase : w.heap.size ≤ (wr.alloc (.cells #[.string (t.extract f k)] 9)).heap.size := by simp; omega
        have HEQ : Hid ((l ++ [t.extract f k]).map (·.data.toList) = (Lx.pst c (t.data.toList.take k)).1 ++ [(Lx.pst c (t.data.toList.take k)).2]) := Lib.hid (by
          rw [List.map_append, HP1.out]
          show _ ++ [(t.extract f k).data.toList] = _
          rw [HPC.out])
        rcases Nat.lt_or_ge k t.size with hlt | hge
        · obtain ⟨_, hc⟩ := hcut.resolve_left (by omega)
          have hne : ¬ (k : Int) = (t.size : Int) := by omega
          have hcI : (t[k].toNat : Int) = (c.toNat : Int) := by rw [hc]
          clear hcut
          go_wp2_with (at_builtin; go_must (refine wpList_append_rd (enc := encStr) rfl (.tmp 25) (.tmp 30) _ rfl w.heap.size 9 i1 _ 1 16 len_str one_str Tryz.underlying58 hi1 hz1 hs1 hb1 rfl (by decide) (.slice Av l.length cv) l.length (l.flatMap encStr) rfl hOW.out _ (.slice (some ⟨wr.heap.size, 0, none⟩) 1 1) [t.extract f k] rfl (HRD.out wr (Nat.le_refl _)) hk1 hk2 hbase ?_))
          intro v8 w8 hown8 hg8 hat8
          obtain ⟨A8, c8, rfl⟩ := own_form hown8
          have HB8 : Hid (Below w.heap.size w w8) := Lib.hid ((HBEL.out.alloc (by omega) _).grown hg8 (by simp; omega) (fun q hq => (hOW.out.lt q hq).1))
          have HO8 := Lib.hid (HREST.out _ _ hown8)
          have HN8 := Lib.hid (HNEXT.out _ HEQ.out)
          clear hown8 hg8 hat8
          go_wp2_with fail
          go_roundg (t.size + 1 - (k + 1))
          case measure => omega
          case rel => exact ⟨k + 1, k + 1, l ++ [t.extract f k], by omega, rfl, by go_num, by go_num, ⟨_, _, _, rfl⟩, HO8.out, HB8.out, by rw [List.length_append, List.length_singleton]; omega, HN8.out.1, fun h => by first | exact HN8.out.2 h | exact HN8.out.2 trivial⟩
        · have hkt : k = t.size := by omega
          subst hkt
          clear hcut
          go_wp2_with (at_builtin; go_must (refine wpList_append_rd (enc := encStr) rfl (.tmp 25) (.tmp 30) _ rfl w.heap.size 9 i1 _ 1 16 len_str one_str Tryz.underlying58 hi1 hz1 hs1 hb1 rfl (by decide) (.slice Av l.length cv) l.length (l.flatMap encStr) rfl hOW.out _ (.slice (some ⟨wr.heap.size, 0, none⟩) 1 1) [t.extract f t.size] rfl (HRD.out wr (Nat.le_refl _)) hk1 hk2 hbase ?_))
          intro v8 w8 hown8 hg8 hat8
          obtain ⟨A8, c8, rfl⟩ := own_form hown8
          have HB8 : Hid (Below w.heap.size w w8) := Lib.hid ((HBEL.out.alloc (by omega) _).grown hg8 (by simp; omega) (fun q hq => (hOW.out.lt q hq).1))
          have HO8 := Lib.hid (HREST.out _ _ hown8)
          have HN8 := Lib.hid (HNEXT.out _ HEQ.out)
          clear hown8 hg8 hat8
          go_wp2_with fail
          go_roundg (t.size + 1 - (t.size + 1))
          case measure => omega
          case rel => exact ⟨t.size + 1, t.size + 1, l ++ [t.extract f t.size], by omega, rfl, by go_num, by go_num, ⟨_, _, _, rfl⟩, HO8.out, HB8.out, by rw [List.length_append, List.length_singleton]; omega, HN8.out.1, fun h => by first | exact HN8.out.2 h | exact HN8.out.2 trivial⟩
      · have hlt : k < t.size := by
          rcases Nat.lt_or_ge k t.size with q | q
          · exact q
          · exact absurd (.inl (by omega)) hcut
        have hc : ¬ t[k] = c := fun e => hcut (.inr ⟨hlt, e⟩)
        have hne : ¬ (k : Int) = (t.size : Int) := by omega
        have hcI : ¬ (t[k].toNat : Int) = (c.toNat : Int) := fun e => hc (UInt8.toNat_inj.1 (by omega))
        have hb1 : ((k : Int) == (t.size : Int)) = false := by simp; omega
        have hb2 : ((t[k].toNat : Int) == (c.toNat : Int)) = false := by rw [beq_eq_false_iff_ne]; exact hcI
        have HN8 : Hid (k + 1 ≤ t.size → l.map (·.data.toList) = (Lx.pst c (t.data.toList.take (k + 1))).1 ∧ f + (Lx.pst c (t.data.toList.take (k + 1))).2.length = k + 1) := Lib.hid fun _ => by
          rw [pst_at c t k hlt, if_neg hc]
          refine ⟨HP1.out, ?_⟩
          have := HPK.out
          simp only [List.length_append, List.length_singleton]
          omega
        clear hcut
        go_wp2_with fail
        go_roundg (t.size + 1 - (k + 1))
        case measure => omega
        case rel => exact ⟨k + 1, f, l, by omega, rfl, by go_num, rfl, ⟨_, _, _, rfl⟩, HOWN.out, HBEL.out, by omega, HN8.out, fun h => by omega⟩
    · have hleI : ¬ (k : Int) ≤ (t.size : Int) := by omega
      clear hp1
      go_wp2_with fail
      go_ret
      exact ⟨_, l, rfl, HOWN.out, HP2.out (by omega), HBEL.out⟩
end Go.Proofs.YtkmimjngmfdpmaaGreatDoor
