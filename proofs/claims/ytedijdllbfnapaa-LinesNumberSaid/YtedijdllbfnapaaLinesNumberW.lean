/-
  Layer 2 (lines): the walk of the law LinesNumber.
-/
import Derived.Test.YtedijdllbfnapaaLinesQ
namespace Go.Proofs.Ytedijdllbfnapaa
open Go.RowKit
set_option linter.unusedVariables false

theorem byte_at (s : ByteArray) (k : Nat) (h : k < s.size) (e : s.toList[k]? = some 10) : ((s[k].toNat : Int) == 10) = true := by
  have h1 : s.toList[k]? = some s[k] := by
    have := congrArg List.head? (drop_byte s k h)
    simpa using this
  rw [h1] at e
  injection e with e
  rw [e]; rfl

set_option maxHeartbeats 2000000 in
set_option maxRecDepth 100000 in
theorem linesNumber_walk (w : World) (s : ByteArray) (w0 : s.size ≤ maxLen) (n : Int) (w1 : (Lit.int .i64 n).wf = true) (m : Int) (w2 : (Lit.int .i64 m).wf = true) :
    Calls Try.prog 9 #[.string s, .int .i64 n, .int .i64 m] w fun e w' => e = .returned (.bool true) ∧ Below w.heap.size w w' := by
  unfold maxLen at w0
  clear w1 w2
  by_cases h : 800 < s.size
  · go_enter Try.func9, Try.ntmps9
    go_wp2_with (go_at_call 10; refine (awake_any _).mono ?_; rintro e w1 ⟨rfl, hb⟩)
    go_ret
    exact ⟨rfl, hb⟩
  · have hs : s.size ≤ 9223372036854775807 := by omega
    have hmono : n ≤ m → feeds (s.toList.take (upto s n)) ≤ feeds (s.toList.take (upto s m)) ∧ after (s.toList.take (upto s n)) ≤ after (s.toList.take (upto s m)) := fun hnm =>
      ⟨feeds_mono _ _ _ (by unfold upto; omega), after_mono _ _ _ (by unfold upto; omega)⟩
    have hfs : after (s.toList.take (upto s n)) ≤ s.size := by have := after_le (s.toList.take (upto s n)); rw [List.length_take, len_toList] at this; omega
    have hfeed := after_feeds s.toList (upto s n)
    have C1 := Lib.hid (fun W => number_any s n W hs)
    have C2 := Lib.hid (fun W => number_any s m W hs)
    have C3 := Lib.hid (fun W => rnumber_any s n W hs)
    have hfd : ∀ k : Nat, ∀ W : World, feeds (s.toList.take k) = feeds (s.toList.take (upto s n)) →
        Calls Try.prog 17 #[.string (s.extract 0 k)] W fun e w' => e = .returned (.int .i64 (feeds (s.toList.take (upto s n)))) ∧ W = w' := fun k W hk => by
      have c := feeds_any (s.extract 0 k) W (by rw [B_take, B_size, List.length_take, len_toList]; omega)
      rw [B_take, B_data, hk] at c
      rw [B_take]
      exact c
    have C4 := Lib.hid (fun W => hfd _ W hfeed.1)
    have HL := Lib.hid hfeed.2
    clear hfd hfeed
    generalize feeds (s.toList.take (upto s n)) = x at *
    generalize after (s.toList.take (upto s n)) = f at *
    generalize feeds (s.toList.take (upto s m)) = y at *
    generalize after (s.toList.take (upto s m)) = g at *
    have q1 : ((x : Int) != (x : Int)) = false := by simp
    have q2 : ((f : Int) != (f : Int)) = false := by simp
    have q3 : ((x : Int) == (x : Int)) = true := by simp
    by_cases hnm : n ≤ m
    · obtain ⟨g1, g2⟩ := hmono hnm
      clear hmono
      by_cases h0 : f = 0
      · have z0 : ((f : Int) == 0) = true := by simp [h0]
        clear h0
        go_enter Try.func9, Try.ntmps9
        go_wp2_with fail
        with_reducible refine (C1.out _).mono ?_
        rintro e w' ⟨rfl, rfl⟩
        go_wp2_with fail
        with_reducible refine (C2.out _).mono ?_
        rintro e w' ⟨rfl, rfl⟩
        go_wp2_with fail
        with_reducible refine (C3.out _).mono ?_
        rintro e w' ⟨rfl, rfl⟩
        go_wp2_with fail
        with_reducible refine (C4.out _).mono ?_
        rintro e w' ⟨rfl, rfl⟩
        go_wp2_with fail
        with_reducible refine (awake_any _).mono ?_
        rintro e w1 ⟨rfl, hb⟩
        go_wp2
        go_ret
        exact ⟨rfl, hb⟩
      · have z0 : ((f : Int) == 0) = false := by simp [h0]
        have f1 : f - 1 < s.size := by omega
        have b0 : ((s[f - 1].toNat : Int) == 10) = true := by
          have := HL.out
          rcases this with h | h
          · omega
          · exact byte_at s (f - 1) f1 h
        have fp : 1 ≤ f := by omega
        clear h0
        go_enter Try.func9, Try.ntmps9
        go_wp2_with fail
        with_reducible refine (C1.out _).mono ?_
        rintro e w' ⟨rfl, rfl⟩
        go_wp2_with fail
        with_reducible refine (C2.out _).mono ?_
        rintro e w' ⟨rfl, rfl⟩
        go_wp2_with fail
        with_reducible refine (C3.out _).mono ?_
        rintro e w' ⟨rfl, rfl⟩
        go_wp2_with fail
        with_reducible refine (C4.out _).mono ?_
        rintro e w' ⟨rfl, rfl⟩
        go_wp2_with fail
        with_reducible refine (awake_any _).mono ?_
        rintro e w1 ⟨rfl, hb⟩
        go_wp2
        go_ret
        exact ⟨rfl, hb⟩
    · clear hmono
      by_cases h0 : f = 0
      · have z0 : ((f : Int) == 0) = true := by simp [h0]
        clear h0
        go_enter Try.func9, Try.ntmps9
        go_wp2_with fail
        with_reducible refine (C1.out _).mono ?_
        rintro e w' ⟨rfl, rfl⟩
        go_wp2_with fail
        with_reducible refine (C2.out _).mono ?_
        rintro e w' ⟨rfl, rfl⟩
        go_wp2_with fail
        with_reducible refine (C3.out _).mono ?_
        rintro e w' ⟨rfl, rfl⟩
        go_wp2_with fail
        with_reducible refine (C4.out _).mono ?_
        rintro e w' ⟨rfl, rfl⟩
        go_wp2_with fail
        with_reducible refine (awake_any _).mono ?_
        rintro e w1 ⟨rfl, hb⟩
        go_wp2
        go_ret
        exact ⟨rfl, hb⟩
      · have z0 : ((f : Int) == 0) = false := by simp [h0]
        have f1 : f - 1 < s.size := by omega
        have b0 : ((s[f - 1].toNat : Int) == 10) = true := by
          have := HL.out
          rcases this with h | h
          · omega
          · exact byte_at s (f - 1) f1 h
        have fp : 1 ≤ f := by omega
        clear h0
        go_enter Try.func9, Try.ntmps9
        go_wp2_with fail
        with_reducible refine (C1.out _).mono ?_
        rintro e w' ⟨rfl, rfl⟩
        go_wp2_with fail
        with_reducible refine (C2.out _).mono ?_
        rintro e w' ⟨rfl, rfl⟩
        go_wp2_with fail
        with_reducible refine (C3.out _).mono ?_
        rintro e w' ⟨rfl, rfl⟩
        go_wp2_with fail
        with_reducible refine (C4.out _).mono ?_
        rintro e w' ⟨rfl, rfl⟩
        go_wp2_with fail
        with_reducible refine (awake_any _).mono ?_
        rintro e w1 ⟨rfl, hb⟩
        go_wp2
        go_ret
        exact ⟨rfl, hb⟩

end Go.Proofs.Ytedijdllbfnapaa
