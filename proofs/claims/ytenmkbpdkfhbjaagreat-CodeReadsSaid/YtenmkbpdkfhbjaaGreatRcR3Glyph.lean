/- The document's reader: a sign. -/
import Derived.Test.YtenmkbpdkfhbjaaGreatRcR3Ret
import Derived.Test.YtenmkbpdkfhbjaaGreatRcCdGlyph
import Derived.Test.YtenmkbpdkfhbjaaGreatRcCdVisit
namespace Go.Proofs.YtenmkbpdkfhbjaaGreat
open Go Go.RowKit

def Cd.stB (k : Int) : UInt8 := if k = 1 then 35 else if k = 2 then 61 else 33
theorem st_sees {s : List UInt8} {e : Nat} {q : Int} (h : q = Cd.stateOf s[e]?) {k : Int} (hk : k = 1 ∨ k = 2 ∨ k = 3) : Cd.sees s e (Cd.stB k) = decide (k = q) := by
  subst h
  unfold Cd.sees Cd.stateOf
  cases s[e]? with
  | none => rcases hk with rfl | rfl | rfl <;> simp
  | some c =>
    by_cases h1 : c = 35
    · subst h1; rcases hk with rfl | rfl | rfl <;> decide
    · by_cases h2 : c = 61
      · subst h2; rcases hk with rfl | rfl | rfl <;> decide
      · by_cases h3 : c = 33
        · subst h3; rcases hk with rfl | rfl | rfl <;> decide
        · rcases hk with rfl | rfl | rfl <;> simp [h1, h2, h3, Cd.stB]
theorem st_bd (o : Option UInt8) : 0 ≤ Cd.stateOf o ∧ Cd.stateOf o ≤ 3 := by
  unfold Cd.stateOf
  repeat' split
  all_goals decide
set_option maxRecDepth 100000 in
set_option maxHeartbeats 16000000 in
theorem glyph3_any (R : Nat) (L : Sg.SList) (As : Option Addr) (cs : Nat) (s : ByteArray) (kind : Int) (k : Nat) (u : Int) (w : World) (h : R3Is R L As cs s kind k u w) (hs : s.size ≤ 1000000)
    (hv : Sg.checkV L = 0) (hlR : ∀ W, w.grownBy W (some R) → RdSL W W.heap.size (.agg #[.int .i64 L.periods, .slice As L.signs.length cs]) L) :
    Calls Tryz.prog 112 #[.pointer (some ⟨R, 0, none⟩)] w (RetR R L As cs s kind u (Cd.glyphG s.data.toList (decide (kind = 1)) k) w) := by
  have hRl := h.lt
  have hk := h.le
  have HR0 := Lib.hid h
  have HLE := Lib.hid (letter3_any R L As cs s kind k u true w h)
  unfold RetB3 at HLE
  have HQ := Lib.hid (Cd.glyph_eq (s := s.data.toList) (decide (kind = 1)) k)
  cases hlet : Cd.letB s.data.toList k true
  · rw [hlet] at HLE
    have HB : Hid (Cd.glyphG s.data.toList (decide (kind = 1)) k = .bad k) := Lib.hid (by
      rw [HQ.out]
      unfold Cd.letB at hlet
      cases hb : s.data.toList[k]? with
      | none => rfl
      | some c => rw [hb] at hlet; simp only [if_true] at hlet; simp only; rw [if_neg (by rw [hlet]; exact Bool.false_ne_true)])
    clear h hlet hlR
    go_enter Tryz.func112, Tryz.ntmps112
    go_wp2_with fail
    refine HLE.out.mono ?_
    rintro e w1 ⟨rfl, hb⟩
    have HB1 := Lib.hid hb
    clear hb
    go_wp2_with fail
    refine bodyPost_ret (results_tmp2 rfl _ _ _) rfl ?_
    rw [HB.out]
    exact ⟨grown_of_below HB1.out, _, _, _, _, rfl, HR0.out.below HB1.out⟩
  rw [hlet] at HLE
  have hks : k < s.size := by
    unfold Cd.letB at hlet
    cases hb : s.data.toList[k]? with
    | none => rw [hb] at hlet; cases hlet
    | some c => simpa using (List.getElem?_eq_some_iff.1 hb).1
  have HUP : Hid (Cd.glyphG s.data.toList (decide (kind = 1)) k = Cd.glyphE s.data.toList (decide (kind = 1)) k ((s.data.toList.drop k).take (Cd.codeEnd s.data.toList k - k)) (Cd.codeEnd s.data.toList k)) := Lib.hid (by
    rw [HQ.out]
    unfold Cd.letB at hlet
    cases hb : s.data.toList[k]? with
    | none => rw [hb] at hlet; cases hlet
    | some c => rw [hb] at hlet; simp only [if_true] at hlet; simp only; rw [if_pos hlet])
  obtain ⟨E, hE⟩ : ∃ E, E = Cd.codeEnd s.data.toList k := ⟨_, rfl⟩
  have hkl : k < s.data.toList.length := by simpa using hks
  have hE0 : k < E := by rw [hE]; exact Cd.code_gt' k
  have hE8 : E ≤ k + 8 := by rw [hE]; exact Cd.code_len k
  have hEs : E ≤ s.size := by rw [hE]; simpa using Cd.code_le hkl
  have HIN : Hid (∀ j, k < j → j < E → j - k < 8 ∧ ∃ b, s.data.toList[j]? = some b ∧ Cd.wordB b = true) := Lib.hid (by rw [hE]; exact fun j a b => Cd.code_in a b)
  have HOUT : Hid (E = k + 8 ∨ ∀ b, s.data.toList[E]? = some b → Cd.wordB b = false) := Lib.hid (by rw [hE]; exact Cd.code_out k)
  have HLT : Hid (∀ j, k ≤ j → j ≤ E → j - k < 8 → Cd.letB s.data.toList j (decide (j = k)) = decide (j < E)) := Lib.hid fun j h1 h2 h3 => by
    by_cases hjk : j = k
    · subst hjk
      rw [show decide (j = j) = true by simp, hlet, decide_eq_true hE0]
    · rw [show decide (j = k) = false by simp [hjk]]
      unfold Cd.letB
      by_cases hjE : j < E
      · obtain ⟨-, b, hb, hw⟩ := HIN.out j (by omega) hjE
        rw [hb, decide_eq_true hjE]
        simpa using hw
      · have : j = E := by omega
        subst this
        rw [decide_eq_false hjE]
        rcases HOUT.out with q | q
        · omega
        · cases hb : s.data.toList[j]? with
          | none => rfl
          | some b => simpa using q b hb
  have HE := Lib.hid hE
  have HLR := Lib.hid hlR
  have HV := Lib.hid hv
  clear h hlet hlR hE hkl hv
  go_enter Tryz.func112, Tryz.ntmps112
  go_wp2_with fail
  refine HLE.out.mono ?_
  rintro e w1 ⟨rfl, hb⟩
  have hr1 := HR0.out.below hb
  obtain ⟨-, -, -, -, c4, -, -, -, -⟩ := hr1.at
  have HG1 : Hid (w.grownBy w1 (some R)) := Lib.hid (grown_of_below hb)
  have HR1 := Lib.hid hr1
  clear hb hr1
  go_upto_block 0 with fail
  clear c4
  go_cut [34] (fun _ wc => w.grownBy wc (some R) ∧ R3Is R L As cs s kind E u wc)
  case first =>
    go_wp2_with fail
    go_loopg [34] (E - k) (fun g _ wr => ∃ j, k ≤ j ∧ j ≤ E ∧ g = E - j ∧ w.grownBy wr (some R) ∧ R3Is R L As cs s kind j u wr)
    case atStart => exact ⟨k, Nat.le_refl _, by omega, rfl, HG1.out, HR1.out⟩
    case round =>
      obtain ⟨j, hj1, hj2, rfl, hg, hr⟩ := hrel
      have HGr := Lib.hid hg
      have HRw := Lib.hid hr
      obtain ⟨-, -, -, -, c4, -, f4, -, hltr⟩ := hr.at
      clear hg hr
      by_cases hc : j - k < 8
      · have q1 : decide ((j : Int) - (k : Int) < 8) = true := by simp; omega
        have q2 : -9223372036854775808 ≤ (j : Int) - (k : Int) ∧ (j : Int) - (k : Int) ≤ 9223372036854775807 := by omega
        have HLJ := Lib.hid (letter3_any R L As cs s kind j u (decide (j = k)) wr HRw.out)
        unfold RetB3 at HLJ
        rw [HLT.out j hj1 hj2 hc] at HLJ
        obtain ⟨bf, hbf⟩ : ∃ b, decide (j = k) = b := ⟨_, rfl⟩
        rw [hbf] at HLJ
        have q3 : ((j : Int) == (k : Int)) = bf := by rw [← hbf]; by_cases q : j = k <;> simp [q]; omega
        clear hbf
        by_cases hjE : j < E
        · rw [decide_eq_true hjE] at HLJ
          have hjs : j < s.size := by omega
          go_wp2_with fail
          refine HLJ.out.mono ?_
          rintro e w3 ⟨rfl, hb3⟩
          have hr3 := HRw.out.below hb3
          obtain ⟨-, -, -, -, d4, -, g4, -, -⟩ := hr3.at
          have HR3 := Lib.hid hr3
          have HB3 := Lib.hid hb3
          clear hb3 hr3 c4 f4
          go_wp2_with fail
          go_roundg (E - (j + 1))
          case measure => omega
          case rel => exact ⟨j + 1, by omega, by omega, rfl, grown_after (grown_below HGr.out HB3.out) (grown_set _ _ _ _) (.inl rfl), HR3.out.next hjs⟩
        · rw [decide_eq_false hjE] at HLJ
          have HJE : Hid (j = E) := Lib.hid (by omega)
          go_wp2_with fail
          refine HLJ.out.mono ?_
          rintro e w3 ⟨rfl, hb3⟩
          have HB3 := Lib.hid hb3
          clear hb3 c4 f4
          go_wp2_with fail
          go_meet
          case rel => exact ⟨grown_below HGr.out HB3.out, HJE.out ▸ HRw.out.below HB3.out⟩
      · have q1 : decide ((j : Int) - (k : Int) < 8) = false := by simp; omega
        have HJE : Hid (j = E) := Lib.hid (by omega)
        go_wp2_with fail
        go_meet
        case rel => exact ⟨HGr.out, HJE.out ▸ HRw.out⟩
  case rest =>
    obtain ⟨hg, hr⟩ := hcut
    obtain ⟨X, hX⟩ : ∃ X, X = wc.heap.size := ⟨_, rfl⟩
    obtain ⟨w2, hw2⟩ : ∃ w2, w2 = wc.alloc (.cells #[.int .i64 1, .int .i64 0, .int .i64 0, .int .i64 0, .bool false, .int .i64 0, .int .i64 0, .int .i64 0] 59) := ⟨_, rfl⟩
    have HS2 : Hid (S3 w R L As cs s kind E u X #[.int .i64 1, .int .i64 0, .int .i64 0, .int .i64 0, .bool false, .int .i64 0, .int .i64 0, .int .i64 0] w2) := Lib.hid (by
      have hb : Below wc.heap.size wc w2 := by rw [hw2]; exact (Below.refl _ _).alloc (Nat.le_refl _) _
      exact ⟨grown_below hg hb, hr.below hb, by rw [hw2, hX]; exact heap_alloc_new _ _, hRl, by rw [hX]; exact hg.size⟩)
    have HXX := Lib.hid hX
    have HW2 := Lib.hid hw2
    clear hg hr hX hw2
    go_upto_region 7 with fail
    rw [← HW2.out, ← HXX.out]
    clear HW2 HXX
    obtain ⟨cc, hcc⟩ : ∃ cc, cc = (s.data.toList.drop k).take (E - k) := ⟨_, rfl⟩
    have hce : s.extract k E = Cd.bs cc := by rw [hcc]; unfold Cd.bs; rw [← Lib.extract_data]
    obtain ⟨ev, hf1, hf2⟩ := find_is HV.out (s.extract k E)
    obtain ⟨sg, hsg⟩ : ∃ sg, sg = Cd.fndV L cc := ⟨_, rfl⟩
    have hcl : (s.extract k E).data.toList = cc := by rw [hce]; rfl
    rw [hcl] at hf1 hf2
    rw [← hsg] at hf1
    have HFI : Hid (∀ n, Calls Tryz.prog 119 #[.agg #[.int .i64 L.periods, .slice As L.signs.length cs], .string (s.extract k E)] (w2.drewN n) (fun e w' => e = .returned (.tuple #[.int .i64 sg, .int .i64 ev]) ∧ Below (w2.drewN n).heap.size (w2.drewN n) w')) := Lib.hid fun n => by
      have := r1Find_any (.agg #[.int .i64 L.periods, .slice As L.signs.length cs]) L (s.extract k E) (w2.drewN n) (HLR.out _ (grown_drew' HS2.out.g n))
      rw [hf1] at this
      exact this
    obtain ⟨u1, hu1⟩ : ∃ u1, u1 = Cd.unkS L u (cc, k) := ⟨_, rfl⟩
    have HU1 := Lib.hid hu1
    have HCC := Lib.hid hcc
    have HSG := Lib.hid hsg
    have HF2 := Lib.hid hf2
    have q1 : (0 : Int) ≤ (k : Int) := by omega
    have q2 : (k : Int) ≤ (E : Int) := by omega
    have q3 : (E : Int) ≤ (s.size : Int) := by omega
    have q4 : decide (k ≤ E) = true := by simp; omega
    obtain ⟨c0, c1, c2, -, c4, -, -, -, -⟩ := HS2.out.r.at
    clear hcc hce hf1 hf2 hsg hcl hu1
    go_cut [6, 7] from 44 to 60 (fun sv tv wd => sv = .int .i64 sg ∧ tv = .int .i64 ev ∧ Below w2.heap.size w2 wd)
    case first =>
      go_region_with (go_at_call 119; refine (HFI.out 1).mono ?_; rintro e w6 ⟨rfl, hb6⟩; have HB6 := Lib.hid ((drew_below 1).trans hb6); clear hb6)
      all_goals
        try go_wp2_with fail
        go_meet
        case rel => exact ⟨rfl, rfl, HB6.out⟩
    case rest =>
      obtain ⟨rfl, rfl, hb3⟩ := hcut
      have HS3 := Lib.hid (HS2.out.below hb3)
      clear hb3 HFI c0 c1 c2 c4
      have hr3 := HS3.out.r
      obtain ⟨c0, c1, c2, c3, c4, c5, f4, f5, hlt⟩ := hr3.at
      clear hr3
      obtain ⟨bb, hbb⟩ : ∃ bb, bb = decide (ev ≠ 0 ∧ u < 0) := ⟨_, rfl⟩
      have HUU : Hid (u1 = if bb = true then (k : Int) else u) := Lib.hid (by
        rw [HU1.out, hbb]
        unfold Cd.unkS
        have hf := HF2.out
        by_cases h1 : Cd.signIx L cc = -1
        · have hv0 : ¬ ev = 0 := fun q => (hf.1 q) h1
          simp [h1, hv0]
        · have hv0 : ev = 0 := hf.2 h1
          simp [h1, hv0])
      have HBB := Lib.hid hbb
      clear hbb
      go_upto_region 8 with fail
      go_cut [69] from 61 to 69 (fun v we => v = .bool bb ∧ S3 w R L As cs s kind E u X #[.int .i64 1, .int .i64 0, .int .i64 0, .int .i64 0, .bool false, .int .i64 0, .int .i64 0, .int .i64 0] we)
      case first =>
        obtain ⟨e1, he1⟩ : ∃ z, (ev != 0) = z := ⟨_, rfl⟩
        obtain ⟨e2, he2⟩ : ∃ z, decide (u < 0) = z := ⟨_, rfl⟩
        have HUV : Hid (bb = (e1 && e2)) := Lib.hid (by
          rw [HBB.out, ← he1, ← he2, Bool.decide_and]
          congr 1
          by_cases q : ev = 0 <;> simp [q])
        cases e1 <;> cases e2
        all_goals
          go_wp2_with fail
          go_meet
          case rel => exact ⟨by rw [HUV.out]; rfl, HS3.out⟩
      case rest =>
       obtain ⟨rfl, hs4⟩ := hcut
       have HS4 := Lib.hid hs4
       clear c0 c1 c2 c3 c4 c5 f4 f5 hlt HS3
       obtain ⟨c0, c1, c2, c3, c4, c5, f4, f5, hlt⟩ := hs4.r.at
       clear hs4
       go_upto_if 69 with fail
       go_cut [73] (fun _ we => S3 w R L As cs s kind E u1 X #[.int .i64 1, .int .i64 0, .int .i64 0, .int .i64 0, .bool false, .int .i64 0, .int .i64 0, .int .i64 0] we)
       case first =>
        cases bb
        · go_wp2_with fail
          go_meet
          case rel => rw [HUU.out]; exact HS4.out
        · go_wp2_with fail
          go_meet
          case rel => rw [HUU.out]; exact HS4.out.putU _
       case rest =>
        have HS4 := Lib.hid hcut
        clear hcut c0 c1 c2 c3 c4 c5 f4 f5 hlt
        have x2 := (in_box HS4.out.x 2).1
        have y2 := (in_box HS4.out.x 2).2
        simp at x2
        go_upto_region 11 with fail
        obtain ⟨w5, hw5⟩ : ∃ w5, w5 = wc.setCell ⟨X, 2, none⟩ (.int .i64 sg) := ⟨_, rfl⟩
        rw [← hw5]
        have HS5 : Hid (S3 w R L As cs s kind E u1 X #[.int .i64 1, .int .i64 0, .int .i64 sg, .int .i64 0, .bool false, .int .i64 0, .int .i64 0, .int .i64 0] w5) := Lib.hid (by rw [hw5]; exact HS4.out.set 2 (.int .i64 sg))
        have HI5 := Lib.hid (takes3_any R L As cs s kind E u1 92 w5 HS5.out.r hs)
        unfold RetTk at HI5
        clear hw5 x2 y2
        go_wp2_with fail
        refine HI5.out.mono ?_
        rintro e w6 ⟨rfl, hg6, hr6⟩
        obtain ⟨mi, hmi⟩ : ∃ mi, mi = Cd.sees s.data.toList E 92 := ⟨_, rfl⟩
        rw [← hmi]
        obtain ⟨E1, hE1⟩ : ∃ E1, E1 = (if Cd.sees s.data.toList E 92 = true then E + 1 else E) := ⟨_, rfl⟩
        rw [← hE1] at hr6
        have HMI : Hid ((if Cd.sees s.data.toList E 92 = true then (Cd.R.ok true (E + 1) : Cd.R Bool) else .ok false E) = .ok mi E1) := Lib.hid (by
          rw [hmi, hE1]
          cases Cd.sees s.data.toList E 92 <;> rfl)
        have HS6 := Lib.hid (HS5.out.call hg6 hr6)
        have x4 := (in_box HS6.out.x 4).1
        have y4 := (in_box HS6.out.x 4).2
        simp at x4
        clear hmi hE1 hg6 hr6 HI5
        go_upto_region 12 with fail
        obtain ⟨w7, hw7⟩ : ∃ w7, w7 = w6.setCell ⟨X, 4, none⟩ (.bool mi) := ⟨_, rfl⟩
        rw [← hw7]
        have HS7 : Hid (S3 w R L As cs s kind E1 u1 X #[.int .i64 1, .int .i64 0, .int .i64 sg, .int .i64 0, .bool mi, .int .i64 0, .int .i64 0, .int .i64 0] w7) := Lib.hid (by rw [hw7]; exact HS6.out.set 4 (.bool mi))
        have HI7 := Lib.hid (takes3_any R L As cs s kind E1 u1 47 w7 HS7.out.r hs)
        unfold RetTk at HI7
        clear hw7 x4 y4
        have HT : Hid (Cd.turnG s.data.toList E1 = if Cd.sees s.data.toList E1 47 = true then Cd.digitG s.data.toList 49 51 (E1 + 1) else .ok 0 E1) := Lib.hid rfl
        have HQ2 : Hid (Cd.glyphG s.data.toList (decide (kind = 1)) k = (Cd.turnG s.data.toList E1).bind fun tn e2 => .ok (.mk (Cd.glyphN tn mi (if decide (kind = 1) = true then Cd.stateOf s.data.toList[e2]? else 0)) cc k []) (if (if decide (kind = 1) = true then Cd.stateOf s.data.toList[e2]? else 0) = 0 then e2 else e2 + 1)) := Lib.hid (by
          rw [HUP.out, ← HE.out]
          unfold Cd.glyphE
          rw [HMI.out, HCC.out]
          rfl)
        go_wp2_with fail
        refine HI7.out.mono ?_
        rintro e w8 ⟨rfl, hg8, hr8⟩
        have HG8 := Lib.hid hg8
        have HR8 := Lib.hid hr8
        clear hg8 hr8 HI7
        go_upto_if 80 with fail
        go_cut [83] (fun _ wf => ∃ tn e2, Cd.turnG s.data.toList E1 = .ok tn e2 ∧ S3 w R L As cs s kind e2 u1 X #[.int .i64 1, .int .i64 0, .int .i64 sg, .int .i64 tn, .bool mi, .int .i64 0, .int .i64 0, .int .i64 0] wf)
        case first =>
          have hr8 := HR8.out
          have hg8 := HG8.out
          cases hsee : Cd.sees s.data.toList E1 47
          · rw [hsee] at hr8 HT
            rw [if_neg Bool.false_ne_true] at hr8
            have HT2 := Lib.hid (HT.out.trans (if_neg Bool.false_ne_true))
            have HS8 := Lib.hid (HS7.out.call hg8 hr8)
            clear hsee hg8 hr8 HR8
            go_wp2_with fail
            go_meet
            case rel => exact ⟨0, E1, HT2.out, HS8.out⟩
          · rw [hsee] at hr8 HT
            rw [if_pos rfl] at hr8
            have HT2 := Lib.hid (HT.out.trans (if_pos rfl))
            have HS8 := Lib.hid (HS7.out.call hg8 hr8)
            have HD := Lib.hid (digit3_any R L As cs s kind (E1 + 1) u1 49 51 w8 hr8 hs (by decide))
            unfold RetDg at HD
            clear hsee hg8 hr8
            cases hdg : Cd.digitG s.data.toList 49 51 (E1 + 1) with
            | bad jb =>
              rw [hdg] at HD HT2
              have HB2 : Hid (Cd.glyphG s.data.toList (decide (kind = 1)) k = .bad jb) := Lib.hid (by rw [HQ2.out, HT2.out]; rfl)
              clear hdg
              go_wp2_with fail
              refine HD.out.mono ?_
              rintro e w9 ⟨hg9, rfl, hr9⟩
              have HR9 : Hid (RetR R L As cs s kind u (Cd.glyphG s.data.toList (decide (kind = 1)) k) w (.returned (.tuple #[.slice none 0 0, .bool false])) w9) := Lib.hid (by
                rw [HB2.out]
                exact ⟨grown_trans HS8.out.g hg9, _, _, _, _, rfl, hr9⟩)
              clear hg9 hr9
              go_wp2_with fail
              refine bodyPost_ret (results_tmp2 rfl _ _ _) rfl ?_
              exact HR9.out
            | ok tn e2 =>
              rw [hdg] at HD HT2
              clear hdg
              go_wp2_with fail
              refine HD.out.mono ?_
              rintro e w9 ⟨hg9, rfl, hr9⟩
              have HS9 := Lib.hid (HS8.out.call hg9 hr9)
              have x3 := (in_box HS9.out.x 3).1
              have y3 := (in_box HS9.out.x 3).2
              simp at x3
              clear hg9 hr9
              go_wp2_with fail
              go_meet
              case rel => exact ⟨tn, e2, HT2.out, HS9.out.set 3 (.int .i64 tn)⟩
        case rest =>
          obtain ⟨tn, e2, hT2, hs9⟩ := hcut
          obtain ⟨q, hq⟩ : ∃ q, q = Cd.stateOf s.data.toList[e2]? := ⟨_, rfl⟩
          have hqb := st_bd s.data.toList[e2]?
          rw [← hq] at hqb
          have HSEE : Hid (∀ i : Int, i = 1 ∨ i = 2 ∨ i = 3 → Cd.sees s.data.toList e2 (Cd.stB i) = decide (i = q)) := Lib.hid fun i hi => st_sees hq hi
          have HEX : Hid (∀ (st : Int) (wr : World), st = (if decide (kind = 1) = true then q else 0) → S3 w R L As cs s kind (if st = 0 then e2 else e2 + 1) u1 X #[.int .i64 1, .int .i64 0, .int .i64 sg, .int .i64 tn, .bool mi, .int .i64 st, .int .i64 0, .int .i64 0] wr →
              RetR R L As cs s kind u (Cd.glyphG s.data.toList (decide (kind = 1)) k) w (.returned (.tuple #[.slice (some ⟨wr.heap.size, 0, none⟩) 1 1, .bool true])) (wr.alloc (.cells #[.int .i64 1, .int .i64 0, .int .i64 sg, .int .i64 tn, .bool mi, .int .i64 st, .int .i64 0, .int .i64 0] 59))) := Lib.hid fun st wr hst h3 => by
            have e1 : Cd.glyphG s.data.toList (decide (kind = 1)) k = .ok (.mk (Cd.glyphN tn mi st) cc k []) (if st = 0 then e2 else e2 + 1) := by
              rw [HQ2.out, hT2, hst, hq]
              rfl
            have hb : Below wr.heap.size wr (wr.alloc (.cells #[.int .i64 1, .int .i64 0, .int .i64 sg, .int .i64 tn, .bool mi, .int .i64 st, .int .i64 0, .int .i64 0] 59)) := (Below.refl _ _).alloc (Nat.le_refl _) _
            have hrx := rdx_one wr ⟨1, 0, sg, tn, mi, st, 0, 0⟩
            have hn : Cd.nodI L (.mk (Cd.glyphN tn mi st) cc k []) = [⟨1, 0, sg, tn, mi, st, 0, 0⟩] := by rw [Cd.nod_glyph, HSG.out]
            rw [e1]
            refine ⟨grown_below h3.g hb, some ⟨wr.heap.size, 0, none⟩, 1, by rw [hn]; rfl, ?_, ?_⟩
            · have := h3.r.below hb
              rw [HU1.out] at this
              have e3 : Cd.codesI (.mk (Cd.glyphN tn mi st) cc k []) = [(cc, k)] := by rw [Cd.codesI, Cd.codesL, if_pos (show (Cd.glyphN tn mi st).kind = 1 from rfl)]; rfl
              rw [e3]
              exact this
            · rw [hn]
              exact hrx.keep fun b hb2 => ⟨⟨by rw [hb2]; exact h3.g.size, by rw [hb2]; simp⟩, rfl⟩
          have HS9 := Lib.hid hs9
          clear hT2 hq hs9
          go_upto_region 17 with fail
          go_wp2_with fail
          go_loopg [10] 3 (fun g v wr => ∃ (i : Nat) (st : Int), v = .int .i64 (i : Int) ∧ 1 ≤ i ∧ i ≤ 4 ∧ g = 4 - i ∧ ((st = 0 ∧ (i = 1 ∨ (kind = 1 ∧ (q = 0 ∨ (i : Int) ≤ q)))) ∨ (kind = 1 ∧ st = q ∧ q ≠ 0 ∧ (i : Int) = q + 1)) ∧ S3 w R L As cs s kind (if st = 0 then e2 else e2 + 1) u1 X #[.int .i64 1, .int .i64 0, .int .i64 sg, .int .i64 tn, .bool mi, .int .i64 st, .int .i64 0, .int .i64 0] wr)
          case atStart => exact ⟨1, 0, rfl, by omega, by omega, rfl, .inl ⟨rfl, .inl rfl⟩, HS9.out⟩
          case round =>
            clear HS9
            obtain ⟨i, st, rfl, hi1, hi4, rfl, hst, hs3⟩ := hrel
            have HS := Lib.hid hs3
            have HST := Lib.hid hst
            obtain ⟨-, -, -, c3, -, -, -, -, -⟩ := hs3.r.at
            obtain ⟨x0, x1, x2, x3, x4, x5, x6, x7⟩ := box8_cells hs3.x
            have y5 := (in_box hs3.x 5).2
            clear hs3 hst
            by_cases hend : kind = 1 ∧ st = 0 ∧ i ≤ 3
            · obtain ⟨hk1, rfl, hi3⟩ := hend
              have k1 : (kind == 1) = true := by simp [hk1]
              have HIQ : Hid (q = 0 ∨ (i : Int) ≤ q) := Lib.hid (by
                rcases HST.out with ⟨-, h | h⟩ | h
                · subst h; omega
                · exact h.2
                · omega)
              have HTK := Lib.hid (takes3_any R L As cs s kind e2 u1 (Cd.stB i) wr HS.out.r hs)
              unfold RetTk at HTK
              rw [HSEE.out i (by omega)] at HTK
              have HK1 := Lib.hid hk1
              clear hk1
              by_cases hiq : (i : Int) = q
              · rw [decide_eq_true hiq] at HTK
                have HGO : Hid (∀ w', wr.grownBy w' (some R) → R3Is R L As cs s kind (e2 + 1) u1 w' → S3 w R L As cs s kind (if (i : Int) = 0 then e2 else e2 + 1) u1 X #[.int .i64 1, .int .i64 0, .int .i64 sg, .int .i64 tn, .bool mi, .int .i64 i, .int .i64 0, .int .i64 0] (w'.setCell ⟨X, 5, none⟩ (.int .i64 i))) := Lib.hid fun w' q1 q2 => by
                  rw [if_neg (by omega)]
                  exact (HS.out.call q1 q2).set 5 (.int .i64 i)
                have HIQ2 := Lib.hid hiq
                have HXX : Hid (∀ w', wr.grownBy w' (some R) → R3Is R L As cs s kind (e2 + 1) u1 w' → w'.heap[X]? = some (.cells #[.int .i64 1, .int .i64 0, .int .i64 sg, .int .i64 tn, .bool mi, .int .i64 0, .int .i64 0, .int .i64 0] 59 (0, 0))) := Lib.hid fun w' q1 q2 => (HS.out.call q1 q2).x
                clear hiq
                obtain rfl | rfl | rfl : i = 1 ∨ i = 2 ∨ i = 3 := by omega
                · go_wp2_with fail
                  refine HTK.out.mono ?_
                  rintro e w5 ⟨rfl, hg5, hr5⟩
                  rw [if_pos trivial] at hr5
                  have HS5 := Lib.hid (HGO.out w5 hg5 hr5)
                  have hx5 := HXX.out w5 hg5 hr5
                  have y5 := (in_box hx5 5).2
                  have x5 := (in_box hx5 5).1
                  simp at x5
                  clear hg5 hr5 hx5 x0 x1 x2 x3 x4 x6 x7 c3
                  go_wp2_with fail
                  go_roundg (4 - (1 + 1))
                  case measure => omega
                  case rel => exact ⟨1 + 1, 1, by go_num, by omega, by omega, rfl, .inr ⟨HK1.out, HIQ2.out, by have := HIQ2.out; omega, by have := HIQ2.out; omega⟩, HS5.out⟩
                · go_wp2_with fail
                  refine HTK.out.mono ?_
                  rintro e w5 ⟨rfl, hg5, hr5⟩
                  rw [if_pos trivial] at hr5
                  have HS5 := Lib.hid (HGO.out w5 hg5 hr5)
                  have hx5 := HXX.out w5 hg5 hr5
                  have y5 := (in_box hx5 5).2
                  have x5 := (in_box hx5 5).1
                  simp at x5
                  clear hg5 hr5 hx5 x0 x1 x2 x3 x4 x6 x7 c3
                  go_wp2_with fail
                  go_roundg (4 - (2 + 1))
                  case measure => omega
                  case rel => exact ⟨2 + 1, 2, by go_num, by omega, by omega, rfl, .inr ⟨HK1.out, HIQ2.out, by have := HIQ2.out; omega, by have := HIQ2.out; omega⟩, HS5.out⟩
                · go_wp2_with fail
                  refine HTK.out.mono ?_
                  rintro e w5 ⟨rfl, hg5, hr5⟩
                  rw [if_pos trivial] at hr5
                  have HS5 := Lib.hid (HGO.out w5 hg5 hr5)
                  have hx5 := HXX.out w5 hg5 hr5
                  have y5 := (in_box hx5 5).2
                  have x5 := (in_box hx5 5).1
                  simp at x5
                  clear hg5 hr5 hx5 x0 x1 x2 x3 x4 x6 x7 c3
                  go_wp2_with fail
                  go_roundg (4 - (3 + 1))
                  case measure => omega
                  case rel => exact ⟨3 + 1, 3, by go_num, by omega, by omega, rfl, .inr ⟨HK1.out, HIQ2.out, by have := HIQ2.out; omega, by have := HIQ2.out; omega⟩, HS5.out⟩
              · rw [decide_eq_false hiq] at HTK
                have HGO : Hid (∀ w', wr.grownBy w' (some R) → R3Is R L As cs s kind e2 u1 w' → S3 w R L As cs s kind (if (0 : Int) = 0 then e2 else e2 + 1) u1 X #[.int .i64 1, .int .i64 0, .int .i64 sg, .int .i64 tn, .bool mi, .int .i64 0, .int .i64 0, .int .i64 0] w') := Lib.hid fun w' q1 q2 => by
                  rw [if_pos rfl]
                  exact HS.out.call q1 q2
                have HIQ2 := Lib.hid hiq
                clear hiq
                obtain rfl | rfl | rfl : i = 1 ∨ i = 2 ∨ i = 3 := by omega
                · go_wp2_with fail
                  refine HTK.out.mono ?_
                  rintro e w5 ⟨rfl, hg5, hr5⟩
                  rw [if_neg Bool.false_ne_true] at hr5
                  have HS5 := Lib.hid (HGO.out w5 hg5 hr5)
                  clear hg5 hr5 x0 x1 x2 x3 x4 x5 x6 x7 c3 y5
                  go_wp2_with fail
                  go_roundg (4 - (1 + 1))
                  case measure => omega
                  case rel => exact ⟨1 + 1, 0, by go_num, by omega, by omega, rfl, .inl ⟨rfl, .inr ⟨HK1.out, by have h1 := HIQ.out; have h2 := HIQ2.out; omega⟩⟩, HS5.out⟩
                · go_wp2_with fail
                  refine HTK.out.mono ?_
                  rintro e w5 ⟨rfl, hg5, hr5⟩
                  rw [if_neg Bool.false_ne_true] at hr5
                  have HS5 := Lib.hid (HGO.out w5 hg5 hr5)
                  clear hg5 hr5 x0 x1 x2 x3 x4 x5 x6 x7 c3 y5
                  go_wp2_with fail
                  go_roundg (4 - (2 + 1))
                  case measure => omega
                  case rel => exact ⟨2 + 1, 0, by go_num, by omega, by omega, rfl, .inl ⟨rfl, .inr ⟨HK1.out, by have h1 := HIQ.out; have h2 := HIQ2.out; omega⟩⟩, HS5.out⟩
                · go_wp2_with fail
                  refine HTK.out.mono ?_
                  rintro e w5 ⟨rfl, hg5, hr5⟩
                  rw [if_neg Bool.false_ne_true] at hr5
                  have HS5 := Lib.hid (HGO.out w5 hg5 hr5)
                  clear hg5 hr5 x0 x1 x2 x3 x4 x5 x6 x7 c3 y5
                  go_wp2_with fail
                  go_roundg (4 - (3 + 1))
                  case measure => omega
                  case rel => exact ⟨3 + 1, 0, by go_num, by omega, by omega, rfl, .inl ⟨rfl, .inr ⟨HK1.out, by have h1 := HIQ.out; have h2 := HIQ2.out; omega⟩⟩, HS5.out⟩
            · have HEXW := Lib.hid (HEX.out st wr (by
                rcases HST.out with ⟨h1, h2 | h2⟩ | h2
                · subst h2
                  rw [if_neg (by simp; omega)]
                  exact h1
                · rw [if_pos (by simpa using h2.1), h1]
                  have := h2.2
                  omega
                · rw [if_pos (by simpa using h2.1)]
                  exact h2.2.1) HS.out)
              have HEND := Lib.hid hend
              clear hend
              by_cases hk1 : kind = 1
              · have k1 : (kind == 1) = true := by simp [hk1]
                have HK1 := Lib.hid hk1
                clear hk1
                by_cases hst0 : st = 0
                · subst hst0
                  have hi4' : i = 4 := by have := HEND.out; have := HK1.out; omega
                  subst hi4'
                  go_wp2_with fail
                  refine bodyPost_ret (results_tmp2 rfl _ _ _) rfl ?_
                  exact HEXW.out
                · have t0 : (st == 0) = false := by simp [hst0]
                  clear hst0
                  by_cases hi3 : i ≤ 3
                  · have hi3I : (i : Int) ≤ 3 := by omega
                    go_wp2_with fail
                    refine bodyPost_ret (results_tmp2 rfl _ _ _) rfl ?_
                    exact HEXW.out
                  · have hi3I : ¬ (i : Int) ≤ 3 := by omega
                    go_wp2_with fail
                    refine bodyPost_ret (results_tmp2 rfl _ _ _) rfl ?_
                    exact HEXW.out
              · have k1 : (kind == 1) = false := by simp [hk1]
                have HK1 := Lib.hid hk1
                clear hk1
                by_cases hi3 : i ≤ 3
                · have hi3I : (i : Int) ≤ 3 := by omega
                  go_wp2_with fail
                  refine bodyPost_ret (results_tmp2 rfl _ _ _) rfl ?_
                  exact HEXW.out
                · have hi3I : ¬ (i : Int) ≤ 3 := by omega
                  go_wp2_with fail
                  refine bodyPost_ret (results_tmp2 rfl _ _ _) rfl ?_
                  exact HEXW.out
end Go.Proofs.YtenmkbpdkfhbjaaGreat
