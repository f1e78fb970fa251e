/-
  Layer 35 (archive): the walk of ArchiveLinear.
-/
import Derived.Test.YtofbcblhpflleaaDoorArcX
import Derived.Test.YtofbcblhpflleaaDoorByteOpen
import Derived.Test.YtofbcblhpflleaaDoorStepApp
import Derived.Deep.RegionHeld3
namespace Go.Proofs.YtofbcblhpflleaaDoor
open Go.RowKit
set_option linter.unusedVariables false
attribute [local go_sem] B_data B_size

theorem conv_rd {w : World} {M n : Nat} {A : Option Addr} {l : List UInt8} (h : Rd w M 1 A n (u8s l)) (c : Nat) : (convert 36 9 (.slice A n c)).run Tryd.prog w = .ok (.string (B l)) w := by
  have hl : l.length = n := by have := h.1; rw [u8s_len] at this; omega
  rcases A with _ | ad
  · have hn : n = 0 := by
      rcases Nat.eq_zero_or_pos n with h0 | h0
      · exact h0
      · obtain ⟨ad, e, _⟩ := h.2 h0; cases e
    subst hn
    obtain rfl : l = [] := List.eq_nil_of_length_eq_zero hl
    rw [run_convert_bytes_string w 36 9 5 none 0 c Tryd.underlying36 Tryd.underlying5 Tryd.underlying9]; rfl
  · subst hl
    refine run_convert_bytes_back w 36 9 5 ad c l Tryd.underlying36 Tryd.underlying5 Tryd.underlying9 (fun j hj => ?_)
    obtain ⟨ad', e, _, hc⟩ := h.2 (by omega)
    injection e with e
    subst e
    exact hc j _ (by simp [u8s, hj])
theorem Rd.takeB {w : World} {M n m : Nat} {A : Option Addr} {l : List UInt8} (h : Rd w M 1 A n (u8s l)) (hm : m ≤ n) : Rd w M 1 A m (u8s (l.take m)) := by
  have hl : l.length = n := by have := h.1; rw [u8s_len] at this; omega
  refine ⟨by rw [u8s_len, List.length_take]; omega, fun h0 => ?_⟩
  obtain ⟨ad, e, hb, hc⟩ := h.2 (by omega)
  refine ⟨ad, e, hb, fun j u hj => hc j u ?_⟩
  unfold u8s at hj ⊢
  rw [List.getElem?_map, List.getElem?_take] at hj
  rw [List.getElem?_map]
  split at hj
  · exact hj
  · simp at hj
theorem Rd.byte {w : World} {M n k : Nat} {A : Option Addr} {l : List UInt8} (h : Rd w M 1 A n (u8s l)) (hk : k < n) :
    ∃ b o, A = some ⟨b, o, none⟩ ∧ b < M ∧ w.cell? ⟨b, o + k, none⟩ = some (.int .u8 ((l.getD k 0).toNat : Int)) := by
  have hl : l.length = n := by have := h.1; rw [u8s_len] at this; omega
  obtain ⟨ad, e, hb, hc⟩ := h.2 (by omega)
  obtain ⟨b, o, spot⟩ := ad
  have hx0 := hc k (.int .u8 ((l.getD k 0).toNat : Int)) (by simp [u8s, hl, hk])
  have hsp : spot = none := by
    have := World.cell?_spot hx0
    rcases Nat.eq_zero_or_pos k with h0 | h0
    · subst h0; simpa [Addr.add] using this
    · have h00 := hc 0 (.int .u8 ((l.getD 0 0).toNat : Int)) (by simp only [u8s, List.getElem?_map]; rw [List.getElem?_eq_getElem (by omega)]; simp [show 0 < l.length from by omega])
      simpa [Addr.add] using World.cell?_spot h00
  subst hsp
  rw [addr_lit] at hx0
  exact ⟨b, o, e, hb, hx0⟩
theorem xor3_snoc (a b c : List UInt8) : ∀ k, k < a.length → k < b.length → k < c.length → xor3 (a.take (k + 1)) (b.take (k + 1)) (c.take (k + 1)) = xor3 (a.take k) (b.take k) (c.take k) ++ [a.getD k 0 ^^^ b.getD k 0 ^^^ c.getD k 0] := by
  induction a generalizing b c with
  | nil => intro k h; simp at h
  | cons x p ih =>
    intro k h1 h2 h3
    cases b with
    | nil => simp at h2
    | cons y q =>
      cases c with
      | nil => simp at h3
      | cons z r =>
        cases k with
        | zero => simp [xor3]
        | succ k =>
          have := ih q r k (by simpa using h1) (by simpa using h2) (by simpa using h3)
          simp only [List.take_succ_cons, xor3, List.cons_append, List.getD_cons_succ]
          rw [this]
theorem xor3_len (a b c : List UInt8) (n : Nat) (h1 : a.length = n) (h2 : b.length = n) (h3 : c.length = n) : (xor3 a b c).length = n := by
  induction a generalizing b c n with
  | nil => simp [xor3]; simpa using h1
  | cons x p ih =>
    cases b with
    | nil => simp at h2; subst h2; simp at h1
    | cons y q =>
      cases c with
      | nil => simp at h3; subst h3; simp at h1
      | cons z r =>
        cases n with
        | zero => simp at h1
        | succ n => simp only [xor3, List.length_cons]; rw [ih q r n (by simpa using h1) (by simpa using h2) (by simpa using h3)]
theorem Tryd.infoU8 : (Tryd.prog.info? 5).map (fun i => (i.zero, i.size, i.bytes)) = some (some (.int .u8 0), 1, 1) := by kernel_rfl

/-- four texts in memory -/
structure Four (M : Nat) (w0 : World) (k : Nat) (Ax : Option Addr) (x : List UInt8) (A1 : Option Addr) (y1 : List UInt8) (A2 : Option Addr) (y2 : List UInt8) (A3 : Option Addr) (y3 : List UInt8) (w : World) : Prop where
  rx : Rd w w.heap.size 1 Ax k (u8s x)
  r1 : Rd w w.heap.size 1 A1 k (u8s y1)
  r2 : Rd w w.heap.size 1 A2 k (u8s y2)
  r3 : Rd w w.heap.size 1 A3 k (u8s y3)
  bel : Below M w0 w
  glob : Glob w
theorem Four.below {M k : Nat} {w0 w w' : World} {Ax A1 A2 A3 : Option Addr} {x y1 y2 y3 : List UInt8} (h : Four M w0 k Ax x A1 y1 A2 y2 A3 y3 w) (hM : M ≤ w0.heap.size) (hb : Below w.heap.size w w') : Four M w0 k Ax x A1 y1 A2 y2 A3 y3 w' :=
  ⟨(h.rx.below hb).more hb.size, (h.r1.below hb).more hb.size, (h.r2.below hb).more hb.size, (h.r3.below hb).more hb.size, h.bel.trans (hb.mono (Nat.le_trans hM h.bel.size)), h.glob.below hb (Nat.le_refl _)⟩
theorem Four.conv {M k : Nat} {w0 w : World} {Ax A1 A2 A3 : Option Addr} {x y1 y2 y3 : List UInt8} (h : Four M w0 k Ax x A1 y1 A2 y2 A3 y3 w) (cx c1 c2 c3 : Nat) :
    (convert 36 9 (.slice Ax k cx)).run Tryd.prog w = .ok (.string (B x)) w ∧ (convert 36 9 (.slice A1 k c1)).run Tryd.prog w = .ok (.string (B y1)) w ∧ (convert 36 9 (.slice A2 k c2)).run Tryd.prog w = .ok (.string (B y2)) w ∧ (convert 36 9 (.slice A3 k c3)).run Tryd.prog w = .ok (.string (B y3)) w :=
  ⟨conv_rd h.rx _, conv_rd h.r1 _, conv_rd h.r2 _, conv_rd h.r3 _⟩
theorem run_min4 (P : Program) (ts : Array TypeId) (t : TypeId) (n1 n2 n3 nn : Nat) (h : min (min (min n1 n2) n3) 500 = nn) (W : World) : (Builtin.min_ ts t #[.int .i64 (n1 : Int), .int .i64 (n2 : Int), .int .i64 (n3 : Int), .int .i64 500]).run P W = .ok (.int .i64 (nn : Int)) W := by
  have e : ∀ x : Int, x = (nn : Int) → (Result.ok (Value.int .i64 x) W : Result Value) = .ok (.int .i64 (nn : Int)) W := fun x hx => by rw [hx]
  simp [Builtin.min_, Builtin.min2]
  subst h
  repeat' split
  all_goals omega
set_option maxHeartbeats 8000000 in
set_option maxRecDepth 100000 in
theorem archiveLinear_walk (w : World) (A1 : Option Addr) (n1 c1 : Nat) (l1 : List UInt8) (h1 : Rd w w.heap.size 1 A1 n1 (u8s l1)) (k1 : n1 ≤ c1 ∧ c1 ≤ maxLen)
    (A2 : Option Addr) (n2 c2 : Nat) (l2 : List UInt8) (h2 : Rd w w.heap.size 1 A2 n2 (u8s l2)) (k2 : n2 ≤ c2 ∧ c2 ≤ maxLen)
    (A3 : Option Addr) (n3 c3 : Nat) (l3 : List UInt8) (h3 : Rd w w.heap.size 1 A3 n3 (u8s l3)) (k3 : n3 ≤ c3 ∧ c3 ≤ maxLen) (hG : Glob w) :
    Calls Tryd.prog 7 #[.slice A1 n1 c1, .slice A2 n2 c2, .slice A3 n3 c3] w fun e w' => e = .returned (.bool true) ∧ Below w.heap.size w w' := by
  obtain ⟨m1, m1'⟩ := k1
  obtain ⟨m2, m2'⟩ := k2
  obtain ⟨m3, m3'⟩ := k3
  unfold maxLen at *
  obtain ⟨nn, hnn⟩ : ∃ nn, min (min (min n1 n2) n3) 500 = nn := ⟨_, rfl⟩
  have hmin := fun ts t W => run_min4 Tryd.prog ts t n1 n2 n3 nn hnn W
  have b1 : nn ≤ n1 := by omega
  have b2 : nn ≤ n2 := by omega
  have b3 : nn ≤ n3 := by omega
  have b4 : nn ≤ 500 := by omega
  clear hnn
  go_enter Tryd.func7, Tryd.ntmps7
  go_wp2
  go_loopw [8, 9] (fun v i wr => ∃ k : Nat, k ≤ nn ∧ i = .int .i64 k ∧ wr.ownsRow w.heap.size 5 1 v k (u8s (xor3 (l1.take k) (l2.take k) (l3.take k))) ∧ Below w.heap.size w wr) (fun _ i _ => nn - (intOf i).toNat)
  case atStart => exact ⟨0, Nat.zero_le _, rfl, ⟨by simp [xor3, u8s], .inl ⟨rfl, rfl⟩⟩, Below.refl _ _⟩
  case round =>
    obtain ⟨k, hk, rfl, ho, hbw⟩ := hrel
    by_cases hlt : k < nn
    · obtain ⟨B1, o1, rfl, _, g1⟩ := (h1.below hbw).byte (k := k) (by omega)
      obtain ⟨B2, o2, rfl, _, g2⟩ := (h2.below hbw).byte (k := k) (by omega)
      obtain ⟨B3, o3, rfl, _, g3⟩ := (h3.below hbw).byte (k := k) (by omega)
      have HX := Lib.hid (xor3_snoc l1 l2 l3 k (by have := h1.1; rw [u8s_len] at this; omega) (by have := h2.1; rw [u8s_len] at this; omega) (by have := h3.1; rw [u8s_len] at this; omega))
      obtain ⟨Ax, cx, rfl, hcx⟩ := own_form ho
      generalize l1.getD k 0 = x1 at *
      generalize l2.getD k 0 = x2 at *
      generalize l3.getD k 0 = x3 at *
      have e1 : bits .xor .u8 (x1.toNat : Int) (x2.toNat : Int) = ((x1 ^^^ x2).toNat : Int) := by rw [u8_xor_nat _ _ x1.toNat_lt x2.toNat_lt, UInt8.toNat_xor]
      generalize x1 ^^^ x2 = x12 at *
      have e2 : bits .xor .u8 (x12.toNat : Int) (x3.toNat : Int) = ((x12 ^^^ x3).toNat : Int) := by rw [u8_xor_nat _ _ x12.toNat_lt x3.toNat_lt, UInt8.toNat_xor]
      generalize x12 ^^^ x3 = x123 at *
      have i0 : (0 : Int) ≤ (k : Int) := by omega
      have i1 : (k : Int) < (n1 : Int) := by omega
      have i2 : (k : Int) < (n2 : Int) := by omega
      have i3 : (k : Int) < (n3 : Int) := by omega
      go_wp2
      have hod : wr.drew.ownsRow w.heap.size 5 1 (.slice Ax k cx) k (u8s (xor3 (l1.take k) (l2.take k) (l3.take k))) := ho
      have hbd := hbw.drew
      go_region_law (first | (refine step_app (by rfl) (.tmp 22) (.tmp 37) 36 (by rfl) 5 (.int .u8 0) 1 1 Tryd.underlying36 Tryd.infoU8 rfl (by omega) wr.drew [.int .u8 (x123.toNat : Int)] rfl (by simp; rfl) w.heap.size _ _ _ hod (by rfl) (by rfl) (by omega) (by omega) hbd.size ?_; intro g cap w' ho' hg' hb'))
      all_goals
        have HO : Hid (w'.ownsRow w.heap.size 5 1 (.slice (some ⟨g, 0, none⟩) (k + 1) cap) (k + 1) (u8s (xor3 (l1.take (k + 1)) (l2.take (k + 1)) (l3.take (k + 1))))) := by
          rw [HX.out]
          unfold u8s at ho' ⊢
          rw [List.map_append]
          exact ho'
        clear ho' hod ho HX
        go_wp2
        go_roundw
        case rel => exact ⟨k + 1, by omega, by go_num, HO.out, hbd.trans hb'⟩
        case measure => simp [intOf]; omega
    · obtain rfl : k = nn := by omega
      obtain ⟨Ax, cx, rfl, hcx⟩ := own_form ho
      have hrx := Rd.of_own ho
      have hl1 : (l1.take k).length = k := by rw [List.length_take]; have := h1.1; rw [u8s_len] at this; omega
      have hl2 : (l2.take k).length = k := by rw [List.length_take]; have := h2.1; rw [u8s_len] at this; omega
      have hl3 : (l3.take k).length = k := by rw [List.length_take]; have := h3.1; rw [u8s_len] at this; omega
      have HCR := Lib.hid (crc_xor3 (l1.take k) (l2.take k) (l3.take k) (by omega) (by omega))
      have hlx := xor3_len (l1.take k) (l2.take k) (l3.take k) k hl1 hl2 hl3
      have r1 := (h1.below hbw).takeB b1
      have r2 := (h2.below hbw).takeB b2
      have r3 := (h3.below hbw).takeB b3
      clear h1 h2 h3 ho
      generalize xor3 (l1.take k) (l2.take k) (l3.take k) = x at *
      generalize l1.take k = y1 at *
      generalize l2.take k = y2 at *
      generalize l3.take k = y3 at *
      have q1 : (0 : Int) ≤ (k : Int) := by omega
      have q2 : (k : Int) ≤ (n1 : Int) := by omega
      have q3 : (k : Int) ≤ (n2 : Int) := by omega
      have q4 : (k : Int) ≤ (n3 : Int) := by omega
      have q5 : (k : Int) ≤ (c1 : Int) := by omega
      have q6 : (k : Int) ≤ (c2 : Int) := by omega
      have q7 : (k : Int) ≤ (c3 : Int) := by omega
      have hF : Four w.heap.size w k Ax x A1 y1 A2 y2 A3 y3 wr.drew := ⟨hrx, r1.more hbw.size, r2.more hbw.size, r3.more hbw.size, hbw.drew, hG.below hbw.drew (Nat.le_refl _)⟩
      have HCL := Lib.hid (And.intro (crc_lt y1) (And.intro (crc_lt y2) (crc_lt y3)))
      have hcx := HCR.out
      have t1 : y1.length ≤ 500 := by omega
      have t2 : y2.length ≤ 500 := by omega
      have t3 : y3.length ≤ 500 := by omega
      have t4 : x.length ≤ 500 := by omega
      clear hrx r1 r2 r3 hbw HCR hl1 hl2 hl3 hlx
      obtain ⟨s1, hc1⟩ : ∃ s, crc y1 = s := ⟨_, rfl⟩
      obtain ⟨s2, hc2⟩ : ∃ s, crc y2 = s := ⟨_, rfl⟩
      obtain ⟨s3, hc3⟩ : ∃ s, crc y3 = s := ⟨_, rfl⟩
      rw [hc1, hc2, hc3] at HCL
      rw [hc1, hc2, hc3] at hcx
      have e1 := u32_xor_nat s1 s2 HCL.out.1 HCL.out.2.1
      have e2 := u32_xor_nat (s1 ^^^ s2) s3 (Nat.xor_lt_two_pow (n := 32) HCL.out.1 HCL.out.2.1) HCL.out.2.2
      generalize s1 ^^^ s2 = s12 at *
      generalize s12 ^^^ s3 = s123 at *
      have HS : Hid (∀ (z : List UInt8) (W : World), z.length ≤ 500 → Calls Tryd.prog 10 #[.string (B z)] W fun e w' => e = .returned (.int .u32 (crc z : Nat)) ∧ Below W.heap.size W w') := fun z W hz => by
        have := sum_any (B z) W (by rw [B_size]; omega)
        rwa [B_data] at this
      have HM := Lib.hid (Nat.le_refl w.heap.size)
      go_wp2
      go_region_held3 (fun wr => (convert 36 9 (.slice Ax k cx)).run Tryd.prog wr = .ok (.string (B x)) wr ∧ (convert 36 9 (.slice A1 k c1)).run Tryd.prog wr = .ok (.string (B y1)) wr ∧ (convert 36 9 (.slice A2 k c2)).run Tryd.prog wr = .ok (.string (B y2)) wr ∧ (convert 36 9 (.slice A3 k c3)).run Tryd.prog wr = .ok (.string (B y3)) wr) (exact hF.conv _ _ _ _)
        (first | (go_at_call 10; with_reducible refine (HS.out _ _ (by assumption)).mono ?_; rintro e w' ⟨rfl, hb⟩; have hF' := hF.below HM.out hb; clear hF hb; have hF := hF'; clear hF') | (go_at_call 9; with_reducible refine (awake_any _ hF.glob).mono ?_; rintro e w' ⟨rfl, hb⟩; have hF' := hF.below HM.out hb; clear hF hb; have hF := hF'; clear hF'))
      go_wp2
      go_ret
      exact ⟨rfl, hF.bel⟩
end Go.Proofs.YtofbcblhpflleaaDoor
