/-
  Layer 1 (chars), the chapter's: Points, Valid.
-/
import Derived.Test.YtejjidbodfoiiaaGreatDoorMkE
namespace Go.Proofs.YtejjidbodfoiiaaGreatDoor
open Go.RowKit
set_option linter.unusedVariables false
set_option linter.unusedSimpArgs false
attribute [local go_sem] B_data B_size

def ptF (p : Int × Nat) : List Value := [.int .i64 p.1, .int .i64 ((p.2 : Nat) : Int)]
theorem ptF_len (p : Int × Nat) : (ptF p).length = 2 := rfl
/-- the code points of a text -/
def PtsOf : List (Int × Nat) → List UInt8 → Prop
  | [], l => l = []
  | p :: r, l => l ≠ [] ∧ Nx l p.1 p.2 ∧ PtsOf r (l.drop p.2)
theorem Nx.pos {l : List UInt8} {c : Int} {n : Nat} (h : Nx l c n) (hl : l ≠ []) : 1 ≤ n ∧ n ≤ l.length ∧ n ≤ 4 := by
  have h0 : 0 < l.length := List.length_pos_iff.2 hl
  rcases h with ⟨_, _, rfl⟩ | ⟨_, _, _, _, _, rfl⟩ | ⟨h, rfl, _⟩
  · omega
  · omega
  · have := sq_le l
    refine ⟨by omega, this, ?_⟩
    cases l with
    | nil => exact absurd rfl hl
    | cons b r =>
      rw [sq_cons]
      split
      · omega
      · rcases r with _ | ⟨x, _ | ⟨y, _ | ⟨z, r⟩⟩⟩ <;> simp only <;> repeat (first | omega | split)
theorem Tryz.infoPoint : (Tryz.prog.info? 187).map (fun i => (i.zero, i.size, i.bytes)) = some (some (.agg #[.int .i64 0, .int .i64 0]), 2, 16) := by kernel_rfl
set_option maxHeartbeats 2000000 in
set_option maxRecDepth 100000 in
theorem points_any (s : ByteArray) (w : World) (hs : s.size ≤ 1000000000) :
    Calls Tryz.prog 152 #[.string s] w fun e w' => ∃ A n c ps, e = .returned (.slice A n c) ∧ Rd w' w'.heap.size 2 A n (ps.flatMap ptF) ∧ PtsOf ps s.toList ∧ n ≤ s.size ∧ Below w.heap.size w w' := by
  go_enter Tryz.func152, Tryz.ntmps152
  go_wp2
  go_loopw [3, 4] (fun v i wr => ∃ (k : Nat) (ps : List (Int × Nat)), k ≤ s.size ∧ i = .int .i64 k ∧ ps.length ≤ k ∧ wr.ownsRow w.heap.size 187 2 v ps.length (ps.flatMap ptF) ∧ Below w.heap.size w wr ∧ Hid (∀ q, PtsOf q (s.toList.drop k) → PtsOf (ps ++ q) s.toList)) (fun _ i _ => s.size - (intOf i).toNat)
  case atStart => exact ⟨0, [], Nat.zero_le _, rfl, Nat.zero_le _, ⟨rfl, .inl ⟨rfl, rfl⟩⟩, Below.refl _ _, fun q h => h⟩
  case round =>
    obtain ⟨k, ps, hk, rfl, hpl, hown, hbw, hr⟩ := hrel
    have hbs := hbw.size
    by_cases hlt : k < s.size
    · obtain ⟨A, c, rfl, hnc⟩ := own_form hown
      go_wp2_with fail
      refine (at_any s k _ (by omega) hlt).mono ?_
      rintro e w1 ⟨ch, n, hx, rfl, hb1⟩
      obtain ⟨hn1, hn2, hn4⟩ := hx.pos (drop_ne hlt)
      rw [drop_len] at hn2
      have HX := Lib.hid hx
      have hown1 := own_below hown hb1
      have hB1 := hbw.trans (hb1.mono hbs)
      have hb1s := hb1.size
      clear hx hown hbw
      have hown2 := hown1.alloc (.cells #[.int .i64 ch, .int .i64 ((n : Nat) : Int)] 187)
      have hB2 := hB1.alloc hB1.size (.cells #[.int .i64 ch, .int .i64 ((n : Nat) : Int)] 187)
      go_wp2_with (at_builtin; refine wpList_app rfl _ _ 184 rfl 187 (.agg #[.int .i64 0, .int .i64 0]) 2 16 Tryz.underlying184 Tryz.infoPoint rfl (by decide) (w1.alloc (.cells #[.int .i64 ch, .int .i64 ((n : Nat) : Int)] 187)) [.int .i64 ch, .int .i64 ((n : Nat) : Int)] rfl ?c1 w.heap.size (.slice A ps.length c) ps.length (ps.flatMap ptF) hown2 rfl ?c3 ?c2 (by decide) ?c4 ?_)
      case c1 => intro u hu; simp at hu; rcases hu with rfl | rfl <;> rfl
      case c2 => omega
      case c3 => exact congrArg (fun m => Value.slice (some ⟨m, 0, none⟩) 1 1) (by simp)
      case c4 => exact hB2.size
      intro v' w2 hown3 hgr hb2
      have e1 : ps.flatMap ptF ++ [.int .i64 ch, .int .i64 ((n : Nat) : Int)] = (ps ++ [(ch, n)]).flatMap ptF := by simp [ptF]
      rw [e1] at hown3
      have hB3 := hB2.trans hb2
      have hcell : w2.cell? ⟨w1.heap.size, 1, none⟩ = some (.int .i64 ((n : Nat) : Int)) := by
        rw [hgr.cell_far _ (by simp) ?_]
        · simp
        · intro h
          have := (hown1.lt _ h.symm).2
          simp at this
      have HF : Hid (∀ q, PtsOf q (s.toList.drop (k + n)) → PtsOf ((ps ++ [(ch, n)]) ++ q) s.toList) := by
        intro q hq
        rw [List.append_assoc]
        refine hr.out _ ⟨drop_ne hlt, HX.out, ?_⟩
        rw [List.drop_drop]; exact hq
      clear hgr hb2 hB2 hown2 hown1 e1 hr
      go_wp2
      go_roundw
      case rel => exact ⟨k + n, ps ++ [(ch, n)], by omega, by go_num, by simp; omega, by simpa using hown3, hB3, HF⟩
      case measure => simp [intOf]; omega
    · obtain ⟨A, c, rfl, hnc⟩ := own_form hown
      have hfin : PtsOf ps s.toList := by
        have := hr.out [] (by rw [List.drop_of_length_le (by rw [len_toList]; omega)]; rfl)
        simpa using this
      have HFIN := Lib.hid hfin
      clear hfin hr
      go_wp2
      go_ret
      exact ⟨A, _, c, ps, rfl, Rd.of_own hown, HFIN.out, by omega, hbw⟩
def BPost (r : Bool) (w : World) (e : Ending) (w' : World) : Prop := e = .returned (.bool r) ∧ Below w.heap.size w w'
set_option maxHeartbeats 2000000 in
set_option maxRecDepth 100000 in
theorem rvalid_any (s : ByteArray) (w : World) (hs : s.size ≤ 1000000000) :
    Calls Tryz.prog 138 #[.string s] w (BPost (validB s.toList) w) := by
  go_enter Tryz.func138, Tryz.ntmps138
  go_wp2_with fail
  refine (points_any s _ hs).mono ?_
  rintro e w1 ⟨A, n, c, ps, rfl, hrd, hps, hn, hb1⟩
  have HC := Lib.hid (hrd.count ptF 2 ptF_len (by omega))
  have HPS : Hid (PtsOf (ps.drop 0) s.toList) := hps
  clear hps
  go_wp2
  go_loopw [8] (fun i wr => ∃ (k : Nat) (l : List UInt8), k ≤ n ∧ i = .int .i64 k ∧ Below w1.heap.size w1 wr ∧ Hid (validB s.toList = validB l ∧ PtsOf (ps.drop k) l)) (fun i _ => n - (intOf i).toNat)
  case atStart => exact ⟨0, s.toList, Nat.zero_le _, rfl, Below.refl _ _, ⟨rfl, HPS.out⟩⟩
  case round =>
    obtain ⟨k, l, hk, rfl, hbw, hr⟩ := hrel
    have hbs := hbw.size
    by_cases hlt : k < n
    · obtain ⟨p, hp⟩ := get_of (l := ps) (k := k) (by rw [HC.out]; exact hlt)
      obtain ⟨b, o, rfl, hbm, hcell⟩ := (hrd.below hbw).elem ptF 2 ptF_len (by omega) hp
      obtain ⟨ch, m⟩ := p
      have c0 : wr.cell? ⟨b, o + k * 2, none⟩ = some (.int .i64 ch) := hcell 0 _ rfl
      have c1 : wr.cell? ⟨b, o + k * 2 + 1, none⟩ = some (.int .i64 ((m : Nat) : Int)) := hcell 1 _ rfl
      have hpt : PtsOf ((ch, m) :: ps.drop (k + 1)) l := by rw [← drop_get hp]; exact hr.out.2
      obtain ⟨hne, hx, hrest⟩ := hpt
      have hv := hx.valid hne
      have HV := Lib.hid hr.out.1
      have HR := Lib.hid hrest
      have hB2 := hb1.trans ((hbw.alloc hbs (.cells #[.int .i64 ch, .int .i64 ((m : Nat) : Int)] 187)).mono hb1.size)
      have hB3 := hbw.alloc hbs (.cells #[.int .i64 ch, .int .i64 ((m : Nat) : Int)] 187)
      clear hr hx hrest hcell
      rcases hv with ⟨hb, hv⟩ | ⟨hb, hu, hv, hn1, hn2⟩
      · have HF : Hid (validB s.toList = false) := by rw [HV.out, hv]; rfl
        by_cases hc : ch = 65533 ∧ m = 1
        · obtain ⟨rfl, rfl⟩ := hc
          have hu : unclB 65533 = false := by decide
          go_wp2_with fail
          refine (rclean_any _ _).mono ?_
          rintro e w2 ⟨rfl, rfl⟩
          rw [hu]
          go_wp2
          go_ret
          exact ⟨ret_bool HF.out.symm, hB2⟩
        · have hu : unclB ch = true := by rcases hb with h | h; exact absurd h hc; exact h
          clear hb hc hv
          go_wp2_with fail
          refine (rclean_any _ _).mono ?_
          rintro e w2 ⟨rfl, rfl⟩
          rw [hu]
          go_wp2
          go_ret
          exact ⟨ret_bool HF.out.symm, hB2⟩
      · have HF : Hid (validB s.toList = validB (l.drop m) ∧ PtsOf (ps.drop (k + 1)) (l.drop m)) := ⟨by rw [HV.out, hv], HR.out⟩
        clear hv
        by_cases h1 : ch = 65533
        · subst h1
          have hn : ((m : Int) == 1) = false := beq_eq_false_iff_ne.2 (by omega)
          clear hb
          go_wp2_with fail
          refine (rclean_any _ _).mono ?_
          rintro e w2 ⟨rfl, rfl⟩
          rw [hu]
          go_wp2
          go_roundw
          case rel => exact ⟨k + 1, _, by omega, by go_num, hB3, HF⟩
          case measure => simp [intOf]; omega
        · have hn : ((ch : Int) == 65533) = false := beq_eq_false_iff_ne.2 h1
          clear hb h1
          go_wp2_with fail
          refine (rclean_any _ _).mono ?_
          rintro e w2 ⟨rfl, rfl⟩
          rw [hu]
          go_wp2
          go_roundw
          case rel => exact ⟨k + 1, _, by omega, by go_num, hB3, HF⟩
          case measure => simp [intOf]; omega
    · have HF : Hid (validB s.toList = true) := by
        have h := hr.out
        rw [List.drop_of_length_le (by rw [HC.out]; omega)] at h
        have hl : l = [] := h.2
        rw [h.1, hl]; rfl
      go_wp2
      go_ret
      exact ⟨ret_bool HF.out.symm, hb1.trans (hbw.mono hb1.size)⟩
end Go.Proofs.YtejjidbodfoiiaaGreatDoor
