/-
  Rows of elements of several cells; layer 1 (chars), the chapter's: at, Points, Valid.
  Layer 1 (chars), the chapter's: Points, Valid.
  Layer 33 (markup): nodes in memory.
-/
import Derived.Test.YtejjidbodfoiiaaGreatDoorMkD
namespace Go.Proofs.YtejjidbodfoiiaaGreatDoor
open Go.RowKit
set_option linter.unusedVariables false
set_option linter.unusedSimpArgs false
attribute [local go_sem] B_data B_size

theorem addr_lit (b o j : Nat) : (⟨b, o, none⟩ : Addr).add j = ⟨b, o + j, none⟩ := by unfold Addr.add; split <;> simp_all
section
variable {α : Type} (f : α → List Value) (sz : Nat) (hf : ∀ a, (f a).length = sz)
include hf
theorem row_len (l : List α) : (l.flatMap f).length = l.length * sz := by
  induction l with
  | nil => simp
  | cons a r ih => rw [List.flatMap_cons, List.length_append, ih, hf, List.length_cons, Nat.succ_mul]; omega
theorem row_at (l : List α) (k j : Nat) (x : α) (hk : l[k]? = some x) (hj : j < sz) : (l.flatMap f)[k * sz + j]? = (f x)[j]? := by
  induction l generalizing k with
  | nil => simp at hk
  | cons a r ih =>
    rw [List.flatMap_cons]
    cases k with
    | zero =>
      have e : a = x := by simpa using hk
      subst e
      rw [Nat.zero_mul, Nat.zero_add, List.getElem?_append_left (by rw [hf]; exact hj)]
    | succ k =>
      have hk : r[k]? = some x := by simpa using hk
      rw [List.getElem?_append_right (by rw [hf, Nat.succ_mul]; omega), hf, ← ih k hk]
      congr 1
      rw [Nat.succ_mul]; omega
theorem Rd.elem {w : World} {M n k : Nat} {A : Option Addr} {l : List α} {x : α} (h : Rd w M sz A n (l.flatMap f)) (hsz : 0 < sz) (hk : l[k]? = some x) :
    ∃ b o, A = some ⟨b, o, none⟩ ∧ b < M ∧ ∀ j u, (f x)[j]? = some u → w.cell? ⟨b, o + k * sz + j, none⟩ = some u := by
  have hkl : k < l.length := (List.getElem?_eq_some_iff.1 hk).1
  have hl := h.1
  rw [row_len f sz hf] at hl
  have hn : l.length = n := Nat.eq_of_mul_eq_mul_right hsz hl
  obtain ⟨ad, e, hb, hc⟩ := h.2 (by omega)
  obtain ⟨b, o, spot⟩ := ad
  have hpos : 0 < (l.flatMap f).length := by
    rw [row_len f sz hf]
    exact Nat.mul_pos (by omega) hsz
  have hx0 := hc 0 _ (List.getElem?_eq_getElem hpos)
  have hsp : spot = none := by simpa [Addr.add] using World.cell?_spot hx0
  subst hsp
  refine ⟨b, o, e, hb, fun j u hj => ?_⟩
  have hjs : j < sz := by have := (List.getElem?_eq_some_iff.1 hj).1; rw [hf] at this; exact this
  have := hc (k * sz + j) u (by rw [row_at f sz hf l k j x hk hjs]; exact hj)
  rw [addr_lit] at this
  rw [Nat.add_assoc]
  exact this
theorem Rd.count {w : World} {M n : Nat} {A : Option Addr} {l : List α} (h : Rd w M sz A n (l.flatMap f)) (hsz : 0 < sz) : l.length = n := by
  have hl := h.1
  rw [row_len f sz hf] at hl
  exact Nat.eq_of_mul_eq_mul_right hsz hl
end
theorem drop_get {α : Type} {l : List α} {k : Nat} {x : α} (h : l[k]? = some x) : l.drop k = x :: l.drop (k + 1) := by
  obtain ⟨hk, e⟩ := List.getElem?_eq_some_iff.1 h
  rw [List.drop_eq_getElem_cons hk, e]
theorem get_of {α : Type} {l : List α} {k : Nat} (h : k < l.length) : ∃ x, l[k]? = some x := ⟨l[k], List.getElem?_eq_getElem h⟩

set_option maxHeartbeats 2000000 in
set_option maxRecDepth 100000 in
theorem at_any (s : ByteArray) (i : Nat) (w : World) (hs : s.size ≤ 9223372036854775000) (hi : i < s.size) :
    Calls Tryz.prog 158 #[.string s, .int .i64 (i : Int)] w (RPost (s.toList.drop i) w) := by
  have hbt : s[i].toNat < 256 := s[i].toNat_lt
  have HD := Lib.hid (drop_byte s i hi)
  by_cases h1 : s[i].toNat < 128
  · go_enter Tryz.func158, Tryz.ntmps158
    go_wp2
    exact bodyPost_ret (v := .agg #[.int .i64 (s[i].toNat : Int), .int .i64 1]) (by simp [results, Tryz.results158, go_sem]) rfl ⟨_, 1, .inr (.inl ⟨_, _, HD.out, h1, rfl, rfl⟩), rfl, below_alloc _ _⟩
  by_cases h2 : 194 ≤ s[i].toNat ∧ s[i].toNat ≤ 223
  · obtain ⟨h2a, h2b⟩ := h2
    have hw2 : wid s[i].toNat = 2 := by
      unfold wid; rw [if_neg h1, if_neg (by omega), if_pos h2b]
    have HW := Lib.hid hw2
    have N := Lib.hid (fun h hj => more_no (s := s) (j := i + 1) (lo := 128) (hi := 191) (by omega) h hj)
    have O := Lib.hid (fun h => more_ok (s := s) (j := i + 1) (lo := 128) (hi := 191) (by omega) h)
    have C := Lib.hid (fun W => more_any s (i + 1) ((i : Int) + 1) 128 191 W (by omega) hs)
    clear hw2
    generalize moreV s (i + 1) 128 191 = X at *
    by_cases hX : X < 0
    · have HQ : Hid (sq (s.toList.drop i) = 0) := by
        by_cases hz : i + 1 < s.size
        · rw [drop_byte s i hi, drop_byte s (i + 1) hz, sq_w2 _ _ _ HW.out, if_neg]
          · rfl
          · intro hh
            exact N.out hX hz (by omega)
        · rw [drop_byte s i hi]
          exact sq_short _ _ (by rw [← drop_byte s i hi, drop_len, HW.out]; omega)
      go_enter Tryz.func158, Tryz.ntmps158
      go_wp2_with fail
      refine (C.out _).mono ?_
      rintro e w' ⟨rfl, rfl⟩
      go_wp2
      exact bodyPost_ret (v := .agg #[.int .i64 65533, .int .i64 1]) (by simp [results, Tryz.results158, go_sem]) rfl ⟨_, 1, Nx.bad HQ.out, rfl, below_alloc _ _⟩
    · obtain ⟨j, l, u, e⟩ := O.out (by omega)
      have HQ : Hid (sq (s.toList.drop i) = 2) := by
        rw [drop_byte s i hi, drop_byte s (i + 1) j, sq_w2 _ _ _ HW.out, if_pos]
        · rfl
        · omega
      have hx1 : 0 ≤ X := by omega
      have hx2 : X < 64 := by omega
      clear e l u N O
      go_enter Tryz.func158, Tryz.ntmps158
      go_wp2_with fail
      refine (C.out _).mono ?_
      rintro e w' ⟨rfl, rfl⟩
      go_wp2
      exact bodyPost_ret (v := .agg #[.int .i64 (((s[i].toNat : Int) - 192) * 64 + X), .int .i64 2]) (by simp [results, Tryz.results158, go_sem] <;> omega) rfl ⟨_, 2, .inr (.inr ⟨by rw [HQ.out]; omega, HQ.out.symm, by omega, by omega⟩), rfl, below_alloc _ _⟩
  by_cases h3 : 224 ≤ s[i].toNat ∧ s[i].toNat ≤ 239
  · obtain ⟨h3a, h3b⟩ := h3
    have hw3 : wid s[i].toNat = 3 := by
      unfold wid; rw [if_neg h1, if_neg (by omega), if_neg (by omega), if_pos h3b]
    have C := Lib.hid (fun W => three_any s i W hs hi hw3)
    clear hw3
    go_enter Tryz.func158, Tryz.ntmps158
    go_wp2_with fail
    refine (C.out _).mono ?_
    rintro e w' ⟨c, n, hx, rfl, hb⟩
    have HX := Lib.hid hx
    have hk := (below_alloc w (.cells #[.int .i64 0, .int .i64 0] 187)).trans (hb.mono (by simp))
    obtain ⟨q0, hq0⟩ : ∃ q, w'.heap[w.heap.size]? = some q ∧ q = (.cells #[.int .i64 0, .int .i64 0] 187 (0, 0)) := ⟨_, (hb.block _ (by simp)).trans (heap_alloc_new w _), rfl⟩
    obtain ⟨hq, rfl⟩ := hq0
    have z0 : w'.cell? ⟨w.heap.size, 0, none⟩ = some (.int .i64 0) := by simp [World.cell?, hq]
    have z1 : w'.cell? ⟨w.heap.size, 1, none⟩ = some (.int .i64 0) := by simp [World.cell?, hq]
    have y0 : w'.frozen? ⟨w.heap.size, 0, none⟩ = false := by simp [World.frozen?, hq]
    have y1 : w'.frozen? ⟨w.heap.size, 1, none⟩ = false := by simp [World.frozen?, hq]
    clear hx hq
    go_wp2
    exact bodyPost_ret (v := .agg #[.int .i64 c, .int .i64 ((n : Nat) : Int)]) (by simp [results, Tryz.results158, go_sem, z0, z1]) rfl ⟨_, n, HX.out, rfl, (hk.setCell (p := ⟨w.heap.size, 0, none⟩) (Nat.le_refl _) _).setCell (p := ⟨w.heap.size, 1, none⟩) (Nat.le_refl _) _⟩
  by_cases h4 : 240 ≤ s[i].toNat ∧ s[i].toNat ≤ 244
  · obtain ⟨h4a, h4b⟩ := h4
    have hw3 : wid s[i].toNat = 4 := by
      unfold wid; rw [if_neg h1, if_neg (by omega), if_neg (by omega), if_neg (by omega), if_pos h4b]
    have C := Lib.hid (fun W => four_any s i W hs hi hw3)
    clear hw3
    go_enter Tryz.func158, Tryz.ntmps158
    go_wp2_with fail
    refine (C.out _).mono ?_
    rintro e w' ⟨c, n, hx, rfl, hb⟩
    have HX := Lib.hid hx
    have hk := (below_alloc w (.cells #[.int .i64 0, .int .i64 0] 187)).trans (hb.mono (by simp))
    obtain ⟨q0, hq0⟩ : ∃ q, w'.heap[w.heap.size]? = some q ∧ q = (.cells #[.int .i64 0, .int .i64 0] 187 (0, 0)) := ⟨_, (hb.block _ (by simp)).trans (heap_alloc_new w _), rfl⟩
    obtain ⟨hq, rfl⟩ := hq0
    have z0 : w'.cell? ⟨w.heap.size, 0, none⟩ = some (.int .i64 0) := by simp [World.cell?, hq]
    have z1 : w'.cell? ⟨w.heap.size, 1, none⟩ = some (.int .i64 0) := by simp [World.cell?, hq]
    have y0 : w'.frozen? ⟨w.heap.size, 0, none⟩ = false := by simp [World.frozen?, hq]
    have y1 : w'.frozen? ⟨w.heap.size, 1, none⟩ = false := by simp [World.frozen?, hq]
    clear hx hq
    go_wp2
    exact bodyPost_ret (v := .agg #[.int .i64 c, .int .i64 ((n : Nat) : Int)]) (by simp [results, Tryz.results158, go_sem, z0, z1]) rfl ⟨_, n, HX.out, rfl, (hk.setCell (p := ⟨w.heap.size, 0, none⟩) (Nat.le_refl _) _).setCell (p := ⟨w.heap.size, 1, none⟩) (Nat.le_refl _) _⟩
  have HQ : Hid (sq (s.toList.drop i) = 0) := by
    rw [drop_byte s i hi]
    refine sq_w0 _ _ ?_
    unfold wid
    rw [if_neg h1]
    repeat' split
    all_goals omega
  go_enter Tryz.func158, Tryz.ntmps158
  go_wp2
  all_goals first | (exfalso; omega) | skip
  all_goals exact bodyPost_ret (v := .agg #[.int .i64 65533, .int .i64 1]) (by simp [results, Tryz.results158, go_sem]) rfl ⟨_, 1, Nx.bad HQ.out, rfl, below_alloc _ _⟩
end Go.Proofs.YtejjidbodfoiiaaGreatDoor
namespace Go.Proofs.YtejjidbodfoiiaaGreatDoor
open Go.RowKit
set_option linter.unusedVariables false
set_option linter.unusedSimpArgs false
attribute [local go_sem] B_data B_size

def ptF (p : Int × Nat) : List Value := [.int .i64 p.1, .int .i64 ((p.2 : Nat) : Int)]
theorem ptF_len (p : Int × Nat) : (ptF p).length = 2 := rfl
/-- the code points of a text -/
def PtsOf : List (Int × Nat) → List UInt8 → Prop
  | [], l => l = []
  | p :: r, l => l ≠ [] ∧ Nx l p.1 p.2 ∧ PtsOf r (l.drop p.2)
theorem Nx.pos {l : List UInt8} {c : Int} {n : Nat} (h : Nx l c n) (hl : l ≠ []) : 1 ≤ n ∧ n ≤ l.length ∧ n ≤ 4 := by
  have h0 : 0 < l.length := List.length_pos_iff.2 hl
  rcases h with ⟨_, _, rfl⟩ | ⟨_, _, _, _, _, rfl⟩ | ⟨h, rfl, _⟩
  · omega
  · omega
  · have := sq_le l
    refine ⟨by omega, this, ?_⟩
    cases l with
    | nil => exact absurd rfl hl
    | cons b r =>
      rw [sq_cons]
      split
      · omega
      · rcases r with _ | ⟨x, _ | ⟨y, _ | ⟨z, r⟩⟩⟩ <;> simp only <;> repeat (first | omega | split)
theorem Tryz.infoPoint : (Tryz.prog.info? 187).map (fun i => (i.zero, i.size, i.bytes)) = some (some (.agg #[.int .i64 0, .int .i64 0]), 2, 16) := by kernel_rfl
set_option maxHeartbeats 2000000 in
set_option maxRecDepth 100000 in
theorem points_any (s : ByteArray) (w : World) (hs : s.size ≤ 1000000000) :
    Calls Tryz.prog 152 #[.string s] w fun e w' => ∃ A n c ps, e = .returned (.slice A n c) ∧ Rd w' w'.heap.size 2 A n (ps.flatMap ptF) ∧ PtsOf ps s.toList ∧ n ≤ s.size ∧ Below w.heap.size w w' := by
  go_enter Tryz.func152, Tryz.ntmps152
  go_wp2
  go_loopw [3, 4] (fun v i wr => ∃ (k : Nat) (ps : List (Int × Nat)), k ≤ s.size ∧ i = .int .i64 k ∧ ps.length ≤ k ∧ wr.ownsRow w.heap.size 187 2 v ps.length (ps.flatMap ptF) ∧ Below w.heap.size w wr ∧ Hid (∀ q, PtsOf q (s.toList.drop k) → PtsOf (ps ++ q) s.toList)) (fun _ i _ => s.size - (intOf i).toNat)
  case atStart => exact ⟨0, [], Nat.zero_le _, rfl, Nat.zero_le _, ⟨rfl, .inl ⟨rfl, rfl⟩⟩, Below.refl _ _, fun q h => h⟩
  case round =>
    obtain ⟨k, ps, hk, rfl, hpl, hown, hbw, hr⟩ := hrel
    have hbs := hbw.size
    by_cases hlt : k < s.size
    · obtain ⟨A, c, rfl, hnc⟩ := own_form hown
      go_wp2_with fail
      refine (at_any s k _ (by omega) hlt).mono ?_
      rintro e w1 ⟨ch, n, hx, rfl, hb1⟩
      obtain ⟨hn1, hn2, hn4⟩ := hx.pos (drop_ne hlt)
      rw [drop_len] at hn2
      have HX := Lib.hid hx
      have hown1 := own_below hown hb1
      have hB1 := hbw.trans (hb1.mono hbs)
      have hb1s := hb1.size
      clear hx hown hbw
      have hown2 := hown1.alloc (.cells #[.int .i64 ch, .int .i64 ((n : Nat) : Int)] 187)
      have hB2 := hB1.alloc hB1.size (.cells #[.int .i64 ch, .int .i64 ((n : Nat) : Int)] 187)
      go_wp2_with (at_builtin; refine wpList_app rfl _ _ 184 rfl 187 (.agg #[.int .i64 0, .int .i64 0]) 2 16 Tryz.underlying184 Tryz.infoPoint rfl (by decide) (w1.alloc (.cells #[.int .i64 ch, .int .i64 ((n : Nat) : Int)] 187)) [.int .i64 ch, .int .i64 ((n : Nat) : Int)] rfl ?c1 w.heap.size (.slice A ps.length c) ps.length (ps.flatMap ptF) hown2 rfl ?c3 ?c2 (by decide) ?c4 ?_)
      case c1 => intro u hu; simp at hu; rcases hu with rfl | rfl <;> rfl
      case c2 => omega
      case c3 => exact congrArg (fun m => Value.slice (some ⟨m, 0, none⟩) 1 1) (by simp)
      case c4 => exact hB2.size
      intro v' w2 hown3 hgr hb2
      have e1 : ps.flatMap ptF ++ [.int .i64 ch, .int .i64 ((n : Nat) : Int)] = (ps ++ [(ch, n)]).flatMap ptF := by simp [ptF]
      rw [e1] at hown3
      have hB3 := hB2.trans hb2
      have hcell : w2.cell? ⟨w1.heap.size, 1, none⟩ = some (.int .i64 ((n : Nat) : Int)) := by
        rw [hgr.cell_far _ (by simp) ?_]
        · simp
        · intro h
          have := (hown1.lt _ h.symm).2
          simp at this
      have HF : Hid (∀ q, PtsOf q (s.toList.drop (k + n)) → PtsOf ((ps ++ [(ch, n)]) ++ q) s.toList) := by
        intro q hq
        rw [List.append_assoc]
        refine hr.out _ ⟨drop_ne hlt, HX.out, ?_⟩
        rw [List.drop_drop]; exact hq
      clear hgr hb2 hB2 hown2 hown1 e1 hr
      go_wp2
      go_roundw
      case rel => exact ⟨k + n, ps ++ [(ch, n)], by omega, by go_num, by simp; omega, by simpa using hown3, hB3, HF⟩
      case measure => simp [intOf]; omega
    · obtain ⟨A, c, rfl, hnc⟩ := own_form hown
      have hfin : PtsOf ps s.toList := by
        have := hr.out [] (by rw [List.drop_of_length_le (by rw [len_toList]; omega)]; rfl)
        simpa using this
      have HFIN := Lib.hid hfin
      clear hfin hr
      go_wp2
      go_ret
      exact ⟨A, _, c, ps, rfl, Rd.of_own hown, HFIN.out, by omega, hbw⟩
def BPost (r : Bool) (w : World) (e : Ending) (w' : World) : Prop := e = .returned (.bool r) ∧ Below w.heap.size w w'
set_option maxHeartbeats 2000000 in
set_option maxRecDepth 100000 in
theorem rvalid_any (s : ByteArray) (w : World) (hs : s.size ≤ 1000000000) :
    Calls Tryz.prog 138 #[.string s] w (BPost (validB s.toList) w) := by
  go_enter Tryz.func138, Tryz.ntmps138
  go_wp2_with fail
  refine (points_any s _ hs).mono ?_
  rintro e w1 ⟨A, n, c, ps, rfl, hrd, hps, hn, hb1⟩
  have HC := Lib.hid (hrd.count ptF 2 ptF_len (by omega))
  have HPS : Hid (PtsOf (ps.drop 0) s.toList) := hps
  clear hps
  go_wp2
  go_loopw [8] (fun i wr => ∃ (k : Nat) (l : List UInt8), k ≤ n ∧ i = .int .i64 k ∧ Below w1.heap.size w1 wr ∧ Hid (validB s.toList = validB l ∧ PtsOf (ps.drop k) l)) (fun i _ => n - (intOf i).toNat)
  case atStart => exact ⟨0, s.toList, Nat.zero_le _, rfl, Below.refl _ _, ⟨rfl, HPS.out⟩⟩
  case round =>
    obtain ⟨k, l, hk, rfl, hbw, hr⟩ := hrel
    have hbs := hbw.size
    by_cases hlt : k < n
    · obtain ⟨p, hp⟩ := get_of (l := ps) (k := k) (by rw [HC.out]; exact hlt)
      obtain ⟨b, o, rfl, hbm, hcell⟩ := (hrd.below hbw).elem ptF 2 ptF_len (by omega) hp
      obtain ⟨ch, m⟩ := p
      have c0 : wr.cell? ⟨b, o + k * 2, none⟩ = some (.int .i64 ch) := hcell 0 _ rfl
      have c1 : wr.cell? ⟨b, o + k * 2 + 1, none⟩ = some (.int .i64 ((m : Nat) : Int)) := hcell 1 _ rfl
      have hpt : PtsOf ((ch, m) :: ps.drop (k + 1)) l := by rw [← drop_get hp]; exact hr.out.2
      obtain ⟨hne, hx, hrest⟩ := hpt
      have hv := hx.valid hne
      have HV := Lib.hid hr.out.1
      have HR := Lib.hid hrest
      have hB2 := hb1.trans ((hbw.alloc hbs (.cells #[.int .i64 ch, .int .i64 ((m : Nat) : Int)] 187)).mono hb1.size)
      have hB3 := hbw.alloc hbs (.cells #[.int .i64 ch, .int .i64 ((m : Nat) : Int)] 187)
      clear hr hx hrest hcell
      rcases hv with ⟨hb, hv⟩ | ⟨hb, hu, hv, hn1, hn2⟩
      · have HF : Hid (validB s.toList = false) := by rw [HV.out, hv]; rfl
        by_cases hc : ch = 65533 ∧ m = 1
        · obtain ⟨rfl, rfl⟩ := hc
          have hu : unclB 65533 = false := by decide
          go_wp2_with fail
          refine (rclean_any _ _).mono ?_
          rintro e w2 ⟨rfl, rfl⟩
          rw [hu]
          go_wp2
          go_ret
          exact ⟨ret_bool HF.out.symm, hB2⟩
        · have hu : unclB ch = true := by rcases hb with h | h; exact absurd h hc; exact h
          clear hb hc hv
          go_wp2_with fail
          refine (rclean_any _ _).mono ?_
          rintro e w2 ⟨rfl, rfl⟩
          rw [hu]
          go_wp2
          go_ret
          exact ⟨ret_bool HF.out.symm, hB2⟩
      · have HF : Hid (validB s.toList = validB (l.drop m) ∧ PtsOf (ps.drop (k + 1)) (l.drop m)) := ⟨by rw [HV.out, hv], HR.out⟩
        clear hv
        by_cases h1 : ch = 65533
        · subst h1
          have hn : ((m : Int) == 1) = false := beq_eq_false_iff_ne.2 (by omega)
          clear hb
          go_wp2_with fail
          refine (rclean_any _ _).mono ?_
          rintro e w2 ⟨rfl, rfl⟩
          rw [hu]
          go_wp2
          go_roundw
          case rel => exact ⟨k + 1, _, by omega, by go_num, hB3, HF⟩
          case measure => simp [intOf]; omega
        · have hn : ((ch : Int) == 65533) = false := beq_eq_false_iff_ne.2 h1
          clear hb h1
          go_wp2_with fail
          refine (rclean_any _ _).mono ?_
          rintro e w2 ⟨rfl, rfl⟩
          rw [hu]
          go_wp2
          go_roundw
          case rel => exact ⟨k + 1, _, by omega, by go_num, hB3, HF⟩
          case measure => simp [intOf]; omega
    · have HF : Hid (validB s.toList = true) := by
        have h := hr.out
        rw [List.drop_of_length_le (by rw [HC.out]; omega)] at h
        have hl : l = [] := h.2
        rw [h.1, hl]; rfl
      go_wp2
      go_ret
      exact ⟨ret_bool HF.out.symm, hb1.trans (hbw.mono hb1.size)⟩
end Go.Proofs.YtejjidbodfoiiaaGreatDoor
namespace Go.Proofs.YtejjidbodfoiiaaGreatDoor
open Go.RowKit
set_option linter.unusedVariables false
set_option linter.unusedSimpArgs false

/-- A slice that reads as cells, in blocks of a set. -/
def RdS (w : World) (S : Nat → Prop) (sz : Nat) (A : Option Addr) (n : Nat) (xs : List Value) : Prop :=
  xs.length = n * sz ∧ (0 < n → ∃ ad, A = some ad ∧ S ad.block ∧ ∀ j u, xs[j]? = some u → w.cell? (ad.add j) = some u)
theorem RdS.rd {w : World} {S : Nat → Prop} {M sz n : Nat} {A : Option Addr} {xs : List Value} (h : RdS w S sz A n xs) (hS : ∀ b, S b → b < M) : Rd w M sz A n xs :=
  ⟨h.1, fun hn => by obtain ⟨ad, e, hb, hc⟩ := h.2 hn; exact ⟨ad, e, hS _ hb, hc⟩⟩
theorem Rd.rdS {w : World} {S : Nat → Prop} {M sz n : Nat} {A : Option Addr} {xs : List Value} (h : Rd w M sz A n xs) (hS : ∀ b, b < M → S b) : RdS w S sz A n xs :=
  ⟨h.1, fun hn => by obtain ⟨ad, e, hb, hc⟩ := h.2 hn; exact ⟨ad, e, hS _ hb, hc⟩⟩
theorem RdS.mono {w : World} {S S' : Nat → Prop} {sz n : Nat} {A : Option Addr} {xs : List Value} (h : RdS w S sz A n xs) (hS : ∀ b, S b → S' b) : RdS w S' sz A n xs :=
  ⟨h.1, fun hn => by obtain ⟨ad, e, hb, hc⟩ := h.2 hn; exact ⟨ad, e, hS _ hb, hc⟩⟩
theorem cell_block {w w' : World} {p : Addr} (h : w'.heap[p.block]? = w.heap[p.block]?) : w'.cell? p = w.cell? p := by
  unfold World.cell?
  rw [h]
theorem RdS.keep {w w' : World} {S : Nat → Prop} {sz n : Nat} {A : Option Addr} {xs : List Value} (h : RdS w S sz A n xs) (hk : ∀ b, S b → w'.heap[b]? = w.heap[b]?) : RdS w' S sz A n xs :=
  ⟨h.1, fun hn => by
    obtain ⟨ad, e, hb, hc⟩ := h.2 hn
    exact ⟨ad, e, hb, fun j u hu => (cell_block (hk _ (by rw [addr_block]; exact hb))).trans (hc j u hu)⟩⟩

def prF (p : List UInt8 × List UInt8) : List Value := [.string (B p.1), .string (B p.2)]
theorem prF_len (p : List UInt8 × List UInt8) : (prF p).length = 2 := rfl
/-- the cells of a node -/
structure NC where
  nm : List UInt8
  tx : List UInt8
  A : Option Addr
  na : Nat
  ca : Nat
  K : Option Addr
  nk : Nat
  ck : Nat
def NC.cells (c : NC) : List Value := [.string (B c.nm), .string (B c.tx), .slice c.A c.na c.ca, .slice c.K c.nk c.ck]
theorem NC.cells_len (c : NC) : c.cells.length = 4 := rfl
mutual
/-- the node n lies in memory: its cells are c, all else lies in blocks of S -/
def NdAt (w : World) (S : Nat → Prop) : Nd → NC → Prop
  | .mk nm tx ats ks, c => c.nm = nm ∧ c.tx = tx ∧ RdS w S 2 c.A c.na (ats.flatMap prF) ∧ ∃ cs : List NC, RdS w S 4 c.K c.nk (cs.flatMap NC.cells) ∧ KsAt w S ks cs
def KsAt (w : World) (S : Nat → Prop) : List Nd → List NC → Prop
  | [], cs => cs = []
  | _ :: _, [] => False
  | k :: r, c :: q => NdAt w S k c ∧ KsAt w S r q
end
theorem KsAt.len {w : World} {S : Nat → Prop} : ∀ {ks : List Nd} {cs : List NC}, KsAt w S ks cs → ks.length = cs.length := by
  intro ks
  induction ks with
  | nil => intro cs h; rw [KsAt] at h; subst h; rfl
  | cons k r ih =>
    intro cs h
    cases cs with
    | nil => rw [KsAt] at h; exact absurd h id
    | cons c q => rw [KsAt] at h; simp [ih h.2]
theorem KsAt.get {w : World} {S : Nat → Prop} : ∀ {ks : List Nd} {cs : List NC} {i : Nat} {k : Nd}, KsAt w S ks cs → ks[i]? = some k → ∃ c, cs[i]? = some c ∧ NdAt w S k c := by
  intro ks
  induction ks with
  | nil => intro cs i k h hk; simp at hk
  | cons k0 r ih =>
    intro cs i k h hk
    cases cs with
    | nil => rw [KsAt] at h; exact absurd h id
    | cons c q =>
      rw [KsAt] at h
      cases i with
      | zero =>
        have e : k0 = k := by simpa using hk
        subst e
        exact ⟨c, rfl, h.1⟩
      | succ i => simpa using ih h.2 (by simpa using hk)
theorem KsAt.snoc {w : World} {S : Nat → Prop} : ∀ {ks : List Nd} {cs : List NC} {k : Nd} {c : NC}, KsAt w S ks cs → NdAt w S k c → KsAt w S (ks ++ [k]) (cs ++ [c]) := by
  intro ks
  induction ks with
  | nil => intro cs k c h hk; rw [KsAt] at h; subst h; exact ⟨hk, rfl⟩
  | cons k0 r ih =>
    intro cs k c h hk
    cases cs with
    | nil => rw [KsAt] at h; exact absurd h id
    | cons c0 q =>
      rw [KsAt] at h
      exact ⟨h.1, ih h.2 hk⟩
theorem KsAt.of_all {w w' : World} {S S' : Nat → Prop} (ks : List Nd) (H : ∀ k ∈ ks, ∀ c, NdAt w S k c → NdAt w' S' k c) : ∀ cs, KsAt w S ks cs → KsAt w' S' ks cs := by
  induction ks with
  | nil => intro cs h; rw [KsAt] at h ⊢; exact h
  | cons k r ih =>
    intro cs h
    cases cs with
    | nil => rw [KsAt] at h; exact absurd h id
    | cons c q =>
      rw [KsAt] at h
      exact ⟨H k (List.mem_cons_self ..) c h.1, ih (fun x hx => H x (List.mem_cons_of_mem _ hx)) q h.2⟩
theorem NdAt.keep {w w' : World} {S S' : Nat → Prop} (hS : ∀ b, S b → S' b) (hk : ∀ b, S b → w'.heap[b]? = w.heap[b]?) : ∀ n c, NdAt w S n c → NdAt w' S' n c := by
  refine Nd.ind ?_
  intro nm tx ats ks IH c h
  obtain ⟨h1, h2, h3, cs, h4, h5⟩ := h
  exact ⟨h1, h2, (h3.keep hk).mono hS, cs, (h4.keep hk).mono hS, KsAt.of_all ks IH cs h5⟩
/-- a node that lies below block M -/
def NdB (w : World) (M : Nat) (n : Nd) (c : NC) : Prop := NdAt w (fun b => b < M) n c
theorem NdB.below {w w' : World} {M : Nat} {n : Nd} {c : NC} (h : NdB w M n c) (hb : Below M w w') : NdB w' M n c := NdAt.keep (fun _ h => h) (fun b hlt => hb.block b hlt) n c h
theorem NdB.more {w : World} {M M' : Nat} {n : Nd} {c : NC} (h : NdB w M n c) (hM : M ≤ M') : NdB w M' n c := NdAt.keep (fun b hb => Nat.lt_of_lt_of_le hb hM) (fun _ _ => rfl) n c h
theorem NdB.parts {w : World} {M : Nat} {nm tx : List UInt8} {ats : List (List UInt8 × List UInt8)} {ks : List Nd} {c : NC} (h : NdB w M (.mk nm tx ats ks) c) :
    c.nm = nm ∧ c.tx = tx ∧ Rd w M 2 c.A c.na (ats.flatMap prF) ∧ ∃ cs : List NC, Rd w M 4 c.K c.nk (cs.flatMap NC.cells) ∧ ks.length = cs.length ∧ ∀ (i : Nat) (k : Nd), ks[i]? = some k → ∃ c, cs[i]? = some c ∧ NdB w M k c := by
  obtain ⟨h1, h2, h3, cs, h4, h5⟩ := h
  exact ⟨h1, h2, h3.rd (fun _ h => h), cs, h4.rd (fun _ h => h), h5.len, fun i k hk => h5.get hk⟩
/-- block b holds a copy of a node's cells -/
def Bx (w : World) (b : Nat) (c : NC) : Prop := w.heap[b]? = some (.cells #[.string (B c.nm), .string (B c.tx), .slice c.A c.na c.ca, .slice c.K c.nk c.ck] 65 (0, 0))
theorem Bx.new (w : World) (c : NC) : Bx (w.alloc (.cells #[.string (B c.nm), .string (B c.tx), .slice c.A c.na c.ca, .slice c.K c.nk c.ck] 65)) w.heap.size c := heap_alloc_new w _
theorem Bx.lt {w : World} {b : Nat} {c : NC} (h : Bx w b c) : b < w.heap.size := (Array.getElem?_eq_some_iff.1 h).1
theorem Bx.c0 {w : World} {b : Nat} {c : NC} (h : Bx w b c) : w.cell? ⟨b, 0, none⟩ = some (.string (B c.nm)) := by unfold Bx at h; simp [World.cell?, h]
theorem Bx.c1 {w : World} {b : Nat} {c : NC} (h : Bx w b c) : w.cell? ⟨b, 1, none⟩ = some (.string (B c.tx)) := by unfold Bx at h; simp [World.cell?, h]
theorem Bx.c2 {w : World} {b : Nat} {c : NC} (h : Bx w b c) : w.cell? ⟨b, 2, none⟩ = some (.slice c.A c.na c.ca) := by unfold Bx at h; simp [World.cell?, h]
theorem Bx.c3 {w : World} {b : Nat} {c : NC} (h : Bx w b c) : w.cell? ⟨b, 3, none⟩ = some (.slice c.K c.nk c.ck) := by unfold Bx at h; simp [World.cell?, h]
theorem Bx.below {w w' : World} {b M : Nat} {c : NC} (h : Bx w b c) (hb : Below M w w') (hM : b < M) : Bx w' b c := (hb.block b hM).trans h
theorem Bx.alloc {w : World} {b : Nat} {c : NC} (h : Bx w b c) (o : Obj) : Bx (w.alloc o) b c := h.below (below_alloc w o) h.lt
mutual
/-- every text of a node is within the reach -/
def okN (M : Nat) : Nd → Prop
  | .mk nm tx ats ks => nm.length ≤ M ∧ tx.length ≤ M ∧ ats.length ≤ M ∧ ks.length ≤ M ∧ (∀ p ∈ ats, p.1.length ≤ M ∧ p.2.length ≤ M) ∧ okL M ks
def okL (M : Nat) : List Nd → Prop
  | [] => True
  | k :: r => okN M k ∧ okL M r
end
theorem okL.mem {M : Nat} : ∀ {ks : List Nd} {k : Nd}, okL M ks → k ∈ ks → okN M k := by
  intro ks
  induction ks with
  | nil => intro k _ h; cases h
  | cons a r ih =>
    intro k h hk
    rw [okL] at h
    rcases List.mem_cons.1 hk with rfl | hk
    · exact h.1
    · exact ih h.2 hk
theorem okN.parts {M : Nat} {nm tx : List UInt8} {ats : List (List UInt8 × List UInt8)} {ks : List Nd} (h : okN M (.mk nm tx ats ks)) : nm.length ≤ M ∧ tx.length ≤ M ∧ ats.length ≤ M ∧ ks.length ≤ M ∧ (∀ p ∈ ats, p.1.length ≤ M ∧ p.2.length ≤ M) ∧ ∀ k ∈ ks, okN M k := by
  rw [okN] at h
  exact ⟨h.1, h.2.1, h.2.2.1, h.2.2.2.1, h.2.2.2.2.1, fun k hk => h.2.2.2.2.2.mem hk⟩
def IPost (r : Int) (w : World) (e : Ending) (w' : World) : Prop := e = .returned (.int .i64 r) ∧ Below w.heap.size w w'
end Go.Proofs.YtejjidbodfoiiaaGreatDoor
