/-
  Layer 33 (markup): Escape, the chapter's.
-/
import Derived.Test.YtlhkpkjcecjomaaMkK
import Derived.Lib.SlBytesConst
namespace Go.Proofs.Ytlhkpkjcecjomaa
open Go.RowKit
set_option linter.unusedVariables false
set_option linter.unusedSimpArgs false
attribute [local go_sem] B_data B_size

def u8s (l : List UInt8) : List Value := l.map fun b => .int .u8 (b.toNat : Int)
theorem u8s_len (l : List UInt8) : (u8s l).length = l.length := by simp [u8s]
theorem u8s_app (a b : List UInt8) : u8s (a ++ b) = u8s a ++ u8s b := by simp [u8s]
theorem u8s_one (l : List UInt8) : ∀ u ∈ u8s l, u.oneCell' = true := by
  intro u hu
  simp only [u8s, List.mem_map] at hu
  obtain ⟨b, _, rfl⟩ := hu
  rfl
theorem conv_rd {w : World} {M n : Nat} {A : Option Addr} {l : List UInt8} (h : Rd w M 1 A n (u8s l)) (c : Nat) : (convert 50 9 (.slice A n c)).run Try.prog w = .ok (.string (B l)) w := by
  have hl : l.length = n := by have := h.1; rw [u8s_len] at this; omega
  rcases A with _ | ad
  · have hn : n = 0 := by
      rcases Nat.eq_zero_or_pos n with h0 | h0
      · exact h0
      · obtain ⟨ad, e, _⟩ := h.2 h0; cases e
    subst hn
    obtain rfl : l = [] := List.eq_nil_of_length_eq_zero hl
    rw [run_convert_bytes_string w 50 9 5 none 0 c Try.underlying50 Try.underlying5 Try.underlying9]; rfl
  · subst hl
    refine run_convert_bytes_back w 50 9 5 ad c l Try.underlying50 Try.underlying5 Try.underlying9 (fun j hj => ?_)
    obtain ⟨ad', e, _, hc⟩ := h.2 (by omega)
    injection e with e
    subst e
    exact hc j _ (by simp [u8s, hj])
/-- a slice that was built of cells just now -/
theorem rd_new (w : World) (xs : List Value) (t : TypeId) (fz : Nat × Nat) (n : Nat) (hn : xs.length = n) : Rd (w.alloc (.cells xs.toArray t fz)) (w.heap.size + 1) 1 (some ⟨w.heap.size, 0, none⟩) n xs := by
  refine ⟨by omega, fun _ => ⟨_, rfl, Nat.lt_succ_self _, fun j u hj => ?_⟩⟩
  rw [addr_lit, cell_of_row _ w.heap.size _ _ _ fz (heap_alloc_new w _)]
  simpa using hj

set_option maxHeartbeats 4000000 in
set_option maxRecDepth 100000 in
theorem rescape_any (s : ByteArray) (w : World) (hs : s.size ≤ 10000000000) : Calls Try.prog 24 #[.string s] w (SPost (esc s.toList) w) := by
  have HL := Lib.hid (len_toList s)
  have HEL := Lib.hid (fun k => esc_take_len s.toList k)
  have kc := fun (w : World) (C : Array Value) (n c : Nat) => Lib.run_convert_bytes_const (P := Try.prog) w 50 5 C n c Try.underlying50 Try.underlying5
  go_enter Try.func24, Try.ntmps24
  go_wp2
  go_loopw [3, 4] (fun v i wr => ∃ k : Nat, k ≤ s.size ∧ i = .int .i64 k ∧ wr.ownsRow w.heap.size 5 1 v (esc (s.toList.take k)).length (u8s (esc (s.toList.take k))) ∧ Below w.heap.size w wr) (fun _ i _ => s.size - (intOf i).toNat)
  case atStart => exact ⟨0, Nat.zero_le _, rfl, ⟨rfl, .inl ⟨rfl, rfl⟩⟩, Below.refl _ _⟩
  case round =>
    obtain ⟨k, hk, rfl, hown, hbw⟩ := hrel
    have hbs := hbw.size
    have hel := HEL.out k
    rw [HL.out] at hel
    obtain ⟨A, c, rfl, hnc⟩ := own_form hown
    by_cases hlt : k < s.size
    · have HT := Lib.hid (esc_take s k hlt)
      generalize esc (s.toList.take k) = L at *
      by_cases h1 : s[k] = 38
      · have hn : s[k].toNat = 38 := by rw [h1]; rfl
        have d1 : ((s[k].toNat : Int) == 38) = true := by rw [hn]; rfl
        have HT2 : Hid (esc (s.toList.take (k + 1)) = L ++ [38, 97, 109, 112, 59]) := by rw [HT.out, h1]; rfl
        have hrd := rd_new wr [.int .u8 38, .int .u8 97, .int .u8 109, .int .u8 112, .int .u8 59] 5 (5, 6) 5 rfl
        have hown1 := hown.alloc (.cells #[.int .u8 38, .int .u8 97, .int .u8 109, .int .u8 112, .int .u8 59] 5 (5, 6))
        have hB0 := hbw.alloc hbs (.cells #[.int .u8 38, .int .u8 97, .int .u8 109, .int .u8 112, .int .u8 59] 5 (5, 6))
        clear h1 hn
        go_wp2_with (refine wpList_apps rfl (.tmp 22) (.tmp 24) 50 rfl 5 (.int .u8 0) 1 1 Try.underlying50 Try.infoByte rfl (by omega) _ w.heap.size (.slice A L.length c) L.length (u8s L) hown1 rfl (wr.heap.size + 1) _ 5 5 [.int .u8 38, .int .u8 97, .int .u8 109, .int .u8 112, .int .u8 59] hrd rfl (u8s_one [38, 97, 109, 112, 59]) (by omega) (by omega) hB0.size ?_)
        intro v' w2 hown2 hgr hb2
        have e2 : u8s L ++ [.int .u8 38, .int .u8 97, .int .u8 109, .int .u8 112, .int .u8 59] = u8s (L ++ [38, 97, 109, 112, 59]) := by rw [u8s_app]; rfl
        have e3 : L.length + 5 = (L ++ [38, 97, 109, 112, 59]).length := by simp
        rw [e2, e3, ← HT2.out] at hown2
        have hB2 := hB0.trans hb2
        clear hrd hown1 hown hgr hb2 e2 e3
        go_wp2
        go_roundw
        case rel => exact ⟨k + 1, by omega, by go_num, hown2, hB2⟩
        case measure => simp [intOf]; omega
      by_cases h2 : s[k] = 60
      · have hn : s[k].toNat = 60 := by rw [h2]; rfl
        have d1 : ((s[k].toNat : Int) == 38) = false := by rw [hn]; rfl
        have d2 : ((s[k].toNat : Int) == 60) = true := by rw [hn]; rfl
        have HT2 : Hid (esc (s.toList.take (k + 1)) = L ++ [38, 108, 116, 59]) := by rw [HT.out, h2]; rfl
        have hrd := rd_new wr [.int .u8 38, .int .u8 108, .int .u8 116, .int .u8 59] 5 (4, 5) 4 rfl
        have hown1 := hown.alloc (.cells #[.int .u8 38, .int .u8 108, .int .u8 116, .int .u8 59] 5 (4, 5))
        have hB0 := hbw.alloc hbs (.cells #[.int .u8 38, .int .u8 108, .int .u8 116, .int .u8 59] 5 (4, 5))
        clear h1 h2 hn
        go_wp2_with (refine wpList_apps rfl (.tmp 28) (.tmp 30) 50 rfl 5 (.int .u8 0) 1 1 Try.underlying50 Try.infoByte rfl (by omega) _ w.heap.size (.slice A L.length c) L.length (u8s L) hown1 rfl (wr.heap.size + 1) _ 4 4 [.int .u8 38, .int .u8 108, .int .u8 116, .int .u8 59] hrd rfl (u8s_one [38, 108, 116, 59]) (by omega) (by omega) hB0.size ?_)
        intro v' w2 hown2 hgr hb2
        have e2 : u8s L ++ [.int .u8 38, .int .u8 108, .int .u8 116, .int .u8 59] = u8s (L ++ [38, 108, 116, 59]) := by rw [u8s_app]; rfl
        have e3 : L.length + 4 = (L ++ [38, 108, 116, 59]).length := by simp
        rw [e2, e3, ← HT2.out] at hown2
        have hB2 := hB0.trans hb2
        clear hrd hown1 hown hgr hb2 e2 e3
        go_wp2
        go_roundw
        case rel => exact ⟨k + 1, by omega, by go_num, hown2, hB2⟩
        case measure => simp [intOf]; omega
      by_cases h3 : s[k] = 62
      · have hn : s[k].toNat = 62 := by rw [h3]; rfl
        have d1 : ((s[k].toNat : Int) == 38) = false := by rw [hn]; rfl
        have d2 : ((s[k].toNat : Int) == 60) = false := by rw [hn]; rfl
        have d3 : ((s[k].toNat : Int) == 62) = true := by rw [hn]; rfl
        have HT2 : Hid (esc (s.toList.take (k + 1)) = L ++ [38, 103, 116, 59]) := by rw [HT.out, h3]; rfl
        have hrd := rd_new wr [.int .u8 38, .int .u8 103, .int .u8 116, .int .u8 59] 5 (4, 5) 4 rfl
        have hown1 := hown.alloc (.cells #[.int .u8 38, .int .u8 103, .int .u8 116, .int .u8 59] 5 (4, 5))
        have hB0 := hbw.alloc hbs (.cells #[.int .u8 38, .int .u8 103, .int .u8 116, .int .u8 59] 5 (4, 5))
        clear h1 h2 h3 hn
        go_wp2_with (refine wpList_apps rfl (.tmp 34) (.tmp 36) 50 rfl 5 (.int .u8 0) 1 1 Try.underlying50 Try.infoByte rfl (by omega) _ w.heap.size (.slice A L.length c) L.length (u8s L) hown1 rfl (wr.heap.size + 1) _ 4 4 [.int .u8 38, .int .u8 103, .int .u8 116, .int .u8 59] hrd rfl (u8s_one [38, 103, 116, 59]) (by omega) (by omega) hB0.size ?_)
        intro v' w2 hown2 hgr hb2
        have e2 : u8s L ++ [.int .u8 38, .int .u8 103, .int .u8 116, .int .u8 59] = u8s (L ++ [38, 103, 116, 59]) := by rw [u8s_app]; rfl
        have e3 : L.length + 4 = (L ++ [38, 103, 116, 59]).length := by simp
        rw [e2, e3, ← HT2.out] at hown2
        have hB2 := hB0.trans hb2
        clear hrd hown1 hown hgr hb2 e2 e3
        go_wp2
        go_roundw
        case rel => exact ⟨k + 1, by omega, by go_num, hown2, hB2⟩
        case measure => simp [intOf]; omega
      by_cases h4 : s[k] = 34
      · have hn : s[k].toNat = 34 := by rw [h4]; rfl
        have d1 : ((s[k].toNat : Int) == 38) = false := by rw [hn]; rfl
        have d2 : ((s[k].toNat : Int) == 60) = false := by rw [hn]; rfl
        have d3 : ((s[k].toNat : Int) == 62) = false := by rw [hn]; rfl
        have d4 : ((s[k].toNat : Int) == 34) = true := by rw [hn]; rfl
        have HT2 : Hid (esc (s.toList.take (k + 1)) = L ++ [38, 113, 117, 111, 116, 59]) := by rw [HT.out, h4]; rfl
        have hrd := rd_new wr [.int .u8 38, .int .u8 113, .int .u8 117, .int .u8 111, .int .u8 116, .int .u8 59] 5 (6, 7) 6 rfl
        have hown1 := hown.alloc (.cells #[.int .u8 38, .int .u8 113, .int .u8 117, .int .u8 111, .int .u8 116, .int .u8 59] 5 (6, 7))
        have hB0 := hbw.alloc hbs (.cells #[.int .u8 38, .int .u8 113, .int .u8 117, .int .u8 111, .int .u8 116, .int .u8 59] 5 (6, 7))
        clear h1 h2 h3 h4 hn
        go_wp2_with (refine wpList_apps rfl (.tmp 40) (.tmp 42) 50 rfl 5 (.int .u8 0) 1 1 Try.underlying50 Try.infoByte rfl (by omega) _ w.heap.size (.slice A L.length c) L.length (u8s L) hown1 rfl (wr.heap.size + 1) _ 6 6 [.int .u8 38, .int .u8 113, .int .u8 117, .int .u8 111, .int .u8 116, .int .u8 59] hrd rfl (u8s_one [38, 113, 117, 111, 116, 59]) (by omega) (by omega) hB0.size ?_)
        intro v' w2 hown2 hgr hb2
        have e2 : u8s L ++ [.int .u8 38, .int .u8 113, .int .u8 117, .int .u8 111, .int .u8 116, .int .u8 59] = u8s (L ++ [38, 113, 117, 111, 116, 59]) := by rw [u8s_app]; rfl
        have e3 : L.length + 6 = (L ++ [38, 113, 117, 111, 116, 59]).length := by simp
        rw [e2, e3, ← HT2.out] at hown2
        have hB2 := hB0.trans hb2
        clear hrd hown1 hown hgr hb2 e2 e3
        go_wp2
        go_roundw
        case rel => exact ⟨k + 1, by omega, by go_num, hown2, hB2⟩
        case measure => simp [intOf]; omega
      have HT2 : Hid (esc (s.toList.take (k + 1)) = L ++ [s[k]]) := by rw [HT.out, escB, if_neg h1, if_neg h2, if_neg h3, if_neg h4]; rfl
      have nn : ∀ m : UInt8, s[k] ≠ m → ((s[k].toNat : Int) == (m.toNat : Int)) = false := fun m hm => by
        rw [beq_eq_false_iff_ne]; intro e; exact hm (UInt8.toNat_inj.1 (by omega))
      have d1 : ((s[k].toNat : Int) == 38) = false := nn 38 h1
      have d2 : ((s[k].toNat : Int) == 60) = false := nn 60 h2
      have d3 : ((s[k].toNat : Int) == 62) = false := nn 62 h3
      have d4 : ((s[k].toNat : Int) == 34) = false := nn 34 h4
      clear h1 h2 h3 h4 nn
      go_wp2_with (refine wpList_app rfl (.tmp 14) (.tmp 18) 50 rfl 5 (.int .u8 0) 1 1 Try.underlying50 Try.infoByte rfl (by omega) wr [.int .u8 (s[k].toNat : Int)] rfl (by simp; rfl) w.heap.size (.slice A L.length c) L.length (u8s L) hown rfl rfl (by omega) (by omega) hbs ?_)
      intro v' w2 hown2 hgr hb2
      have e2 : u8s L ++ [.int .u8 (s[k].toNat : Int)] = u8s (L ++ [s[k]]) := by rw [u8s_app]; rfl
      have e3 : L.length + 1 = (L ++ [s[k]]).length := by simp
      rw [e2, e3, ← HT2.out] at hown2
      have hB2 := hbw.trans hb2
      clear hown hgr hb2 e2 e3
      go_wp2
      go_roundw
      case rel => exact ⟨k + 1, by omega, by go_num, hown2, hB2⟩
      case measure => simp [intOf]; omega
    · have HF : Hid (esc (s.toList.take k) = esc s.toList) := by rw [List.take_of_length_le (by rw [HL.out]; omega)]; rfl
      have hcv := conv_rd (Rd.of_own hown) c
      go_wp2
      go_ret
      refine ⟨?_, hbw⟩
      rw [← HF.out]
      rfl
end Go.Proofs.Ytlhkpkjcecjomaa
