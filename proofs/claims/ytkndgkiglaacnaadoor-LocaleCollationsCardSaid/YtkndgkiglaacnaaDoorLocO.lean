/-
  Layer 25 (collate), layer 1 (chars), the chapter's: letters, Points, Valid, rule.
-/
import Derived.Test.YtkndgkiglaacnaaDoorLocN
namespace Go.Proofs.YtkndgkiglaacnaaDoor
open Go.RowKit
set_option linter.unusedVariables false
set_option linter.unusedSimpArgs false
attribute [local go_sem] B_data B_size

theorem Tryd.infoInt : (Tryd.prog.info? 3).map (fun i => (i.zero, i.size, i.bytes)) = some (some (.int .i64 0), 1, 8) := by kernel_rfl
theorem Tryd.infoPoint : (Tryd.prog.info? 94).map (fun i => (i.zero, i.size, i.bytes)) = some (some (.agg #[.int .i64 0, .int .i64 0]), 2, 16) := by kernel_rfl
/-- before the end there is a letter more -/
theorem dec2_more {s : ByteArray} {k m : Nat} {ps : List Nat} (h : dec2 (s.toList.drop k) = some (ps.drop m)) (hk : k < s.size) : ∃ c, ps[m]? = some c ∧ dec2 (s.toList.drop k) = some (c :: ps.drop (m + 1)) := by
  rcases Nat.lt_or_ge m ps.length with hm | hm
  · obtain ⟨c, hc⟩ := get_of hm
    exact ⟨c, hc, by rw [h, drop_get hc]⟩
  · rw [List.drop_of_length_le hm, drop_byte s k hk] at h
    cases dec2_nil h
theorem dec2_last {s : ByteArray} {k m : Nat} {ps : List Nat} (h : dec2 (s.toList.drop k) = some (ps.drop m)) (hk : ¬ k < s.size) : ps.take m = ps := by
  have := dec2_end h (List.drop_of_length_le (by rw [len_toList]; omega))
  exact List.take_of_length_le (by simpa using this)
set_option maxHeartbeats 2000000 in
set_option maxRecDepth 100000 in
theorem letters_ok (s : ByteArray) (ps : List Nat) (w : World) (hs : s.size ≤ 1000) (hd : dec2 s.toList = some ps) :
    Calls Tryd.prog 46 #[.string s] w fun e w' => ∃ A c, e = .returned (.slice A ps.length c) ∧ Rd w' w'.heap.size 1 A ps.length (nums ps) ∧ Below w.heap.size w w' := by
  have HD := Lib.hid hd
  have hpl : ps.length ≤ s.size := by rw [← len_toList]; exact fresh_len hd
  clear hd
  go_enter Tryd.func46, Tryd.ntmps46
  go_wp2
  go_loopw [3, 4] (fun v i wr => ∃ (k m : Nat), k ≤ s.size ∧ i = .int .i64 k ∧ m ≤ ps.length ∧ wr.ownsRow w.heap.size 3 1 v m (nums (ps.take m)) ∧ Below w.heap.size w wr ∧ Hid (dec2 (s.toList.drop k) = some (ps.drop m))) (fun _ i _ => s.size - (intOf i).toNat)
  case atStart => exact ⟨0, 0, Nat.zero_le _, rfl, Nat.zero_le _, ⟨rfl, .inl ⟨rfl, rfl⟩⟩, Below.refl _ _, HD.out⟩
  case round =>
    obtain ⟨k, m, hk, rfl, hm, hown, hbw, hr⟩ := hrel
    have hbs := hbw.size
    by_cases hlt : k < s.size
    · obtain ⟨A, c0, rfl, hnc⟩ := own_form hown
      obtain ⟨c, hc, hdc⟩ := dec2_more hr.out hlt
      have hml : m < ps.length := (List.getElem?_eq_some_iff.1 hc).1
      have HC := Lib.hid hc
      have C := Lib.hid (next_ok s k c _ wr (by omega) hdc)
      clear hdc hc hr
      go_wp2_with fail
      refine C.out.mono ?_
      rintro e w1 ⟨n, rfl, h1, h2, h3, hb1⟩
      have H3 := Lib.hid h3
      have hown1 := own_below hown hb1
      have hB1 := hbw.trans (hb1.mono hbs)
      have hb1s := hB1.size
      clear h3 hown hbw C hb1
      go_wp2_with (at_builtin; refine wpList_app rfl _ _ 62 rfl 3 (.int .i64 0) 1 8 Tryd.underlying62 Tryd.infoInt rfl (by decide) w1 [.int .i64 (c : Int)] rfl ?c1 w.heap.size (.slice A m c0) m (nums (ps.take m)) hown1 rfl rfl ?c2 (by decide) ?c4 ?_)
      case c1 => intro u hu; simp at hu; subst hu; rfl
      case c2 => omega
      case c4 => exact hb1s
      intro v' w2 hown3 hgr hb2
      rw [nums_snoc, take_snoc HC.out] at hown3
      have hB3 := hB1.trans hb2
      clear hgr hb2 hown1
      go_wp2
      go_roundw
      case rel => exact ⟨k + n, m + 1, by omega, by go_num, by omega, hown3, hB3, H3.out⟩
      case measure => simp [intOf]; omega
    · obtain ⟨A, c, rfl, hnc⟩ := own_form hown
      have HT := Lib.hid (dec2_last hr.out hlt)
      have hmp : m = ps.length := by
        have := congrArg List.length HT.out
        simp at this; omega
      subst hmp
      clear hr
      go_wp2
      go_ret
      have hR := Rd.of_own hown
      rw [HT.out] at hR
      exact ⟨A, c, rfl, hR, hbw⟩
/-- the points of a text -/
def ptV (p : Nat × Nat) : List Value := [.int .i64 (p.1 : Int), .int .i64 (p.2 : Int)]
theorem rd_pt {w : World} {M n k : Nat} {A : Option Addr} {l : List (Nat × Nat)} {p : Nat × Nat} (h : Rd w M 2 A n (l.flatMap ptV)) (hk : l[k]? = some p) :
    ∃ b o, A = some ⟨b, o, none⟩ ∧ b < M ∧ w.cell? ⟨b, o + k * 2, none⟩ = some (.int .i64 (p.1 : Int)) ∧ w.cell? ⟨b, o + k * 2 + 1, none⟩ = some (.int .i64 (p.2 : Int)) := by
  have hlen : ∀ l : List (Nat × Nat), (l.flatMap ptV).length = l.length * 2 := by
    intro l
    induction l with
    | nil => rfl
    | cons a r ih => simp only [List.flatMap_cons, List.length_append, ih, List.length_cons]; simp [ptV]; omega
  have hat : ∀ (l : List (Nat × Nat)) (k : Nat), l[k]? = some p → (l.flatMap ptV)[k * 2]? = some (.int .i64 (p.1 : Int)) ∧ (l.flatMap ptV)[k * 2 + 1]? = some (.int .i64 (p.2 : Int)) := by
    intro l
    induction l with
    | nil => intro k h; simp at h
    | cons a r ih =>
      intro k h
      cases k with
      | zero =>
        have e : a = p := by simpa using h
        subst e
        simp [ptV]
      | succ k =>
        have := ih k (by simpa using h)
        rw [show (k + 1) * 2 = k * 2 + 2 from by omega]
        simpa [List.flatMap_cons, ptV] using this
  have hl := h.1
  rw [hlen] at hl
  have hkl := (List.getElem?_eq_some_iff.1 hk).1
  obtain ⟨ad, e, hb, hc⟩ := h.2 (by omega)
  obtain ⟨b, o, spot⟩ := ad
  have h0 := hc (k * 2) _ (hat l k hk).1
  have h1 := hc (k * 2 + 1) _ (hat l k hk).2
  have hx0 := hc 0 _ (List.getElem?_eq_getElem (by rw [hlen]; omega))
  have hsp : spot = none := by simpa [Addr.add] using World.cell?_spot hx0
  subst hsp
  rw [addr_lit] at h0 h1
  exact ⟨b, o, e, hb, h0, h1⟩
set_option maxHeartbeats 2000000 in
set_option maxRecDepth 100000 in
theorem points_ok (s : ByteArray) (ps : List Nat) (w : World) (hs : s.size ≤ 1000) (hd : dec2 s.toList = some ps) :
    Calls Tryd.prog 65 #[.string s] w fun e w' => ∃ A c, ∃ pts : List (Nat × Nat), e = .returned (.slice A ps.length c) ∧ Rd w' w'.heap.size 2 A ps.length (pts.flatMap ptV) ∧ pts.map Prod.fst = ps ∧ Below w.heap.size w w' := by
  have HD := Lib.hid hd
  have hpl : ps.length ≤ s.size := by rw [← len_toList]; exact fresh_len hd
  clear hd
  go_enter Tryd.func65, Tryd.ntmps65
  go_wp2
  go_loopw [3, 4] (fun v i wr => ∃ (k m : Nat) (pts : List (Nat × Nat)), k ≤ s.size ∧ i = .int .i64 k ∧ m ≤ ps.length ∧ wr.ownsRow w.heap.size 94 2 v m (pts.flatMap ptV) ∧ Below w.heap.size w wr ∧ Hid (dec2 (s.toList.drop k) = some (ps.drop m)) ∧ Hid (pts.map Prod.fst = ps.take m)) (fun _ i _ => s.size - (intOf i).toNat)
  case atStart => exact ⟨0, 0, [], Nat.zero_le _, rfl, Nat.zero_le _, ⟨rfl, .inl ⟨rfl, rfl⟩⟩, Below.refl _ _, HD.out, rfl⟩
  case round =>
    obtain ⟨k, m, pts, hk, rfl, hm, hown, hbw, hr, hq⟩ := hrel
    have hbs := hbw.size
    by_cases hlt : k < s.size
    · obtain ⟨A, c0, rfl, hnc⟩ := own_form hown
      obtain ⟨c, hc, hdc⟩ := dec2_more hr.out hlt
      have hml : m < ps.length := (List.getElem?_eq_some_iff.1 hc).1
      have HC := Lib.hid hc
      have C := Lib.hid (at_ok s k c _ wr (by omega) hdc)
      clear hdc hc hr
      go_wp2_with fail
      refine C.out.mono ?_
      rintro e w1 ⟨n, rfl, h1, h2, h3, hb1⟩
      have H3 := Lib.hid h3
      have hown1 := own_below hown hb1
      have hB1 := hbw.trans (hb1.mono hbs)
      have hown2 := hown1.alloc (.cells #[.int .i64 (c : Int), .int .i64 (n : Int)] 94)
      have hB2 := hB1.alloc hB1.size (.cells #[.int .i64 (c : Int), .int .i64 (n : Int)] 94)
      clear h3 hown hbw C hb1
      go_wp2_with (at_builtin; refine wpList_app rfl _ _ 91 rfl 94 (.agg #[.int .i64 0, .int .i64 0]) 2 16 Tryd.underlying91 Tryd.infoPoint rfl (by decide) (w1.alloc (.cells #[.int .i64 (c : Int), .int .i64 (n : Int)] 94)) [.int .i64 (c : Int), .int .i64 (n : Int)] rfl ?c1 w.heap.size (.slice A m c0) m (pts.flatMap ptV) hown2 rfl ?c3 ?c2 (by decide) ?c4 ?_)
      case c1 => intro u hu; simp at hu; rcases hu with rfl | rfl <;> rfl
      case c2 => omega
      case c3 => exact congrArg (fun m => Value.slice (some ⟨m, 0, none⟩) 1 1) (by simp)
      case c4 => exact hB2.size
      intro v' w2 hown3 hgr hb2
      rw [show pts.flatMap ptV ++ [.int .i64 (c : Int), .int .i64 (n : Int)] = (pts ++ [(c, n)]).flatMap ptV from by simp [ptV]] at hown3
      have hB3 := hB2.trans hb2
      have hcell : w2.cell? ⟨w1.heap.size, 1, none⟩ = some (.int .i64 (n : Int)) := by
        rw [hgr.cell_far _ (by simp) ?_]
        · simp
        · intro h
          have := (hown1.lt _ h.symm).2
          simp at this
      have HQ : Hid ((pts ++ [(c, n)]).map Prod.fst = ps.take (m + 1)) := by
        rw [List.map_append, hq.out, ← take_snoc HC.out]; rfl
      clear hgr hb2 hB2 hown2 hown1 hq
      go_wp2
      go_roundw
      case rel => exact ⟨k + n, m + 1, pts ++ [(c, n)], by omega, by go_num, by omega, hown3, hB3, H3.out, HQ.out⟩
      case measure => simp [intOf]; omega
    · obtain ⟨A, c, rfl, hnc⟩ := own_form hown
      have HT := Lib.hid (dec2_last hr.out hlt)
      have hmp : m = ps.length := by
        have := congrArg List.length HT.out
        simp at this; omega
      subst hmp
      rw [HT.out] at hq
      clear hr
      go_wp2
      go_ret
      exact ⟨A, c, pts, rfl, Rd.of_own hown, hq.out, hbw⟩
set_option maxHeartbeats 1000000 in
theorem clean_ok (c : Nat) (w : World) (h : cleanN c = true) (hc : c ≤ 100000) : Calls Tryd.prog 66 #[.int .i64 (c : Int)] w fun e w' => e = .returned (.bool true) ∧ w = w' := by
  unfold cleanN at h
  simp only [Bool.and_eq_true, Bool.or_eq_true, beq_iff_eq, decide_eq_true_eq, bne_iff_ne, ne_eq] at h
  by_cases h1 : c = 10
  · subst h1
    go_enter Tryd.func66, Tryd.ntmps66
    go_wp2
    go_ret
    exact ⟨rfl, rfl⟩
  · have e1 : ((c : Int) == 10) = false := beq_eq_false_iff_ne.2 (by omega)
    have e2 : ((c : Int) != 127) = true := bne_iff_ne.2 (by omega)
    have e3 : decide ((32 : Int) ≤ (c : Int)) = true := decide_eq_true (by omega)
    clear h
    go_enter Tryd.func66, Tryd.ntmps66
    go_wp2
    go_ret
    exact ⟨rfl, rfl⟩
set_option maxHeartbeats 2000000 in
set_option maxRecDepth 100000 in
theorem rvalid_ok (s : ByteArray) (ps : List Nat) (w : World) (hs : s.size ≤ 1000) (hd : dec2 s.toList = some ps) (hcl : ∀ c ∈ ps, cleanN c = true) :
    Calls Tryd.prog 55 #[.string s] w fun e w' => e = .returned (.bool true) ∧ Below w.heap.size w w' := by
  have hpl : ps.length ≤ s.size := by rw [← len_toList]; exact fresh_len hd
  have C := Lib.hid (points_ok s ps w hs hd)
  have HCL := Lib.hid hcl
  clear hd hcl
  go_enter Tryd.func55, Tryd.ntmps55
  go_wp2_with fail
  refine C.out.mono ?_
  rintro e w1 ⟨A, c, pts, rfl, hrd, hq, hb1⟩
  have HQ := Lib.hid hq
  clear hq C
  go_wp2
  go_loopw [8] (fun i wr => ∃ (k : Nat), k ≤ ps.length ∧ i = .int .i64 k ∧ Below w1.heap.size w1 wr) (fun i _ => ps.length - (intOf i).toNat)
  case atStart => exact ⟨0, Nat.zero_le _, rfl, Below.refl _ _⟩
  case round =>
    obtain ⟨k, hk, rfl, hbw⟩ := hrel
    have hbs := hbw.size
    by_cases hlt : k < ps.length
    · obtain ⟨p, hp⟩ := get_of (l := pts) (k := k) (by have := congrArg List.length HQ.out; simp at this; omega)
      obtain ⟨b, o, rfl, hbm, c0, c1⟩ := rd_pt (hrd.below hbw) hp
      obtain ⟨ch, m⟩ := p
      have hch : cleanN ch = true := HCL.out ch (by rw [← HQ.out]; exact List.mem_map.2 ⟨_, List.mem_of_getElem? hp, rfl⟩)
      have hlo : ch < 65533 := by
        unfold cleanN at hch
        simp only [Bool.and_eq_true, decide_eq_true_eq] at hch
        exact hch.2
      have CL := Lib.hid (fun W => clean_ok ch W hch (by omega))
      have hB3 := hbw.alloc hbs (.cells #[.int .i64 (ch : Int), .int .i64 (m : Int)] 94)
      have hn : ((ch : Int) == 65533) = false := beq_eq_false_iff_ne.2 (by omega)
      clear hch hp
      go_wp2_with fail
      refine (CL.out _).mono ?_
      rintro e w2 ⟨rfl, rfl⟩
      go_wp2
      go_roundw
      case rel => exact ⟨k + 1, by omega, by go_num, hB3⟩
      case measure => simp [intOf]; omega
    · go_wp2
      go_ret
      exact ⟨rfl, hb1.trans (hbw.mono hb1.size)⟩
set_option maxHeartbeats 2000000 in
set_option maxRecDepth 100000 in
theorem rule_ok (s : List UInt8) (ps : List Nat) (w : World) (h : RuleP s ps) :
    Calls Tryd.prog 44 #[.string (B s)] w fun e w' => e = .returned (.bool true) ∧ Below w.heap.size w w' := by
  have hlo : 1 ≤ (B s).size := by rw [B_size]; exact h.lo
  have hhi : (B s).size ≤ 200 := by rw [B_size]; exact h.hi
  have C := Lib.hid (fun W => rvalid_ok (B s) ps W (by omega) (by rw [B_data]; exact h.d) h.cl)
  have HN := Lib.hid (fun (k : Nat) (hk : k < (B s).size) => h.nb (B s)[k] (by
    have := drop_byte (B s) k hk
    rw [B_data] at this
    exact List.mem_of_mem_drop (by rw [this]; exact List.mem_cons_self)))
  clear h
  generalize B s = s at *
  go_enter Tryd.func44, Tryd.ntmps44
  go_wp2
  go_loop [3] (fun i => ∃ k : Nat, k ≤ s.size ∧ i = .int .i64 k) (fun i => s.size - (intOf i).toNat)
  case atStart => exact ⟨0, Nat.zero_le _, rfl⟩
  case round =>
    obtain ⟨k, hk, rfl⟩ := hrel
    by_cases hlt : k < s.size
    · obtain ⟨n1, n2⟩ := HN.out k hlt
      have hne1 : s[k].toNat ≠ 32 := fun e => n1 (UInt8.toNat_inj.1 e)
      have hne2 : s[k].toNat ≠ 10 := fun e => n2 (UInt8.toNat_inj.1 e)
      have e1 : ((s[k].toNat : Int) == 32) = false := beq_eq_false_iff_ne.2 (by omega)
      have e2 : ((s[k].toNat : Int) == 10) = false := beq_eq_false_iff_ne.2 (by omega)
      clear n1 n2
      go_wp2
      go_round
      case rel => exact ⟨k + 1, by omega, by go_num⟩
      case measure => simp [intOf]; omega
    · have d1 : decide ((1 : Int) ≤ (s.size : Int)) = true := decide_eq_true (by omega)
      have d2 : decide ((s.size : Int) ≤ 200) = true := decide_eq_true (by omega)
      go_wp2_with fail
      refine (C.out _).mono ?_
      rintro e w2 ⟨rfl, hb⟩
      go_wp2
      go_ret
      exact ⟨rfl, hb⟩
end Go.Proofs.YtkndgkiglaacnaaDoor
