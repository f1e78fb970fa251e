/-
  Layer 33 (markup): the walk of the law MarkupParse.
-/
import Derived.Test.YtlhkpkjcecjomaaMkSi
import Derived.Test.YtlhkpkjcecjomaaMkExW
namespace Go.Proofs.Ytlhkpkjcecjomaa
open Go.RowKit
set_option linter.unusedVariables false
set_option linter.unusedSimpArgs false
attribute [local go_sem] B_data B_size
attribute [local go_sem ↓] Go.wp_at_zero Go.wp_at_succ

set_option maxHeartbeats 8000000 in
set_option maxRecDepth 100000 in
theorem markupParse_walk (w : World) (a : ByteArray) (w0 : a.size ≤ maxLen) :
    Calls Try.prog 4 #[.string a] w fun e w' => e = .returned (.bool true) ∧ Below w.heap.size w w' := by
  unfold maxLen at w0
  obtain ⟨l, rfl⟩ : ∃ l, a = B l := ⟨a.toList, (B_self a).symm⟩
  rw [B_size] at w0
  by_cases h : 1000 < l.length
  · go_enter Try.func4, Try.ntmps4
    go_wp2_with fail
    refine (awake_any _).mono ?_
    rintro e w1 ⟨rfl, hb⟩
    go_wp2
    go_ret
    exact ⟨rfl, hb⟩
  · have C := Lib.hid (parse_any l w (by omega))
    cases ht : pTop l with
    | error x =>
      have C2 := Lib.hid (fun V => rparse_any l V (by omega))
      rw [ht] at C C2
      clear ht
      go_enter Try.func4, Try.ntmps4
      go_wp2_with fail
      refine C.out.mono ?_
      rintro e w1 ⟨hb1, rfl⟩
      have hX := Bx.new w1 nc0
      have hb2 := hb1.alloc hb1.size (.cells #[.string (B []), .string (B []), .slice none 0 0, .slice none 0 0] 25)
      go_wp2_with fail
      refine (C2.out _).mono ?_
      rintro e w2 ⟨hb3, rfl⟩
      have hX2 := hX.below hb3 hX.lt
      have hY := Bx.new w2 nc0
      have hb4 := hb2.trans (hb3.mono hb2.size)
      have hb5 := hb4.alloc hb4.size (.cells #[.string (B []), .string (B []), .slice none 0 0, .slice none 0 0] 25)
      have hX3 := hX2.alloc (.cells #[.string (B []), .string (B []), .slice none 0 0, .slice none 0 0] 25)
      have x0 : _ = some (Value.string (B [])) := hX3.c0
      have x1 : _ = some (Value.string (B [])) := hX3.c1
      have x2 : _ = some (Value.slice none 0 0) := hX3.c2
      have x3 : _ = some (Value.slice none 0 0) := hX3.c3
      have y0 : _ = some (Value.string (B [])) := hY.c0
      have y1 : _ = some (Value.string (B [])) := hY.c1
      have y2 : _ = some (Value.slice none 0 0) := hY.c2
      have y3 : _ = some (Value.slice none 0 0) := hY.c3
      have hz := hb3.size
      have hN : ∀ V : World, NdB V V.heap.size (.mk [] [] [] []) nc0 := fun V => ⟨rfl, rfl, rd0, [], rd0, rfl⟩
      have CS := Lib.hid (fun V => rsame_any (.mk [] [] [] []) (.mk [] [] [] []) nc0 nc0 V (hN V) (hN V) (ok_of_sz _ _ (by decide)) (ok_of_sz _ _ (by decide)))
      rw [smN_refl] at CS
      clear C C2 hX hX2 hX3 hY hb1 hb2 hb3 hb4 hN
      go_wp2_with fail
      refine (CS.out _).mono ?_
      rintro e w3 ⟨rfl, hb6⟩
      have hb7 := hb5.trans (hb6.mono hb5.size)
      clear hb5 hb6 CS x0 x1 x2 x3 y0 y1 y2 y3
      go_wp2_with fail
      refine (awake_any _).mono ?_
      rintro e w4 ⟨rfl, hb8⟩
      have hb9 := hb7.trans (hb8.mono hb7.size)
      clear hb7 hb8
      go_wp2
      go_ret
      exact ⟨rfl, hb9⟩
    | ok y =>
      obtain ⟨n, l2⟩ := y
      obtain ⟨hc, he⟩ := pTop_some ht
      have hsz : szN n ≤ 1000000000 := by
        have h1 := sz_mku n hc
        have h2 := congrArg List.length he
        rw [List.length_append] at h2
        omega
      have hok := ok_of_sz 1000000000 n hsz
      have C2 := Lib.hid (fun V => rparse_any l V (by omega))
      rw [ht] at C C2
      clear ht hsz hc he
      go_enter Try.func4, Try.ntmps4
      go_wp2_with fail
      refine C.out.mono ?_
      rintro e w1 ⟨hb1, c, k, rfl, hn, hd, hk⟩
      have hX := Bx.new w1 c
      have hB : NdB w1 w1.heap.size n c := NdAt.keep (fun b hb => hb.2) (fun _ _ => rfl) _ c hn
      have hbW := below_alloc w1 (.cells #[.string (B c.nm), .string (B c.tx), .slice c.A c.na c.ca, .slice c.K c.nk c.ck] 25)
      have hb2 := hb1.trans (hbW.mono hb1.size)
      have hB2 := hB.step hbW
      clear hn hB hbW hb1 C
      go_wp2_with fail
      refine (C2.out _).mono ?_
      rintro e w2 ⟨hb3, c', k', rfl, hn', hd', hk'⟩
      have ek : k' = k := by
        have h1 := congrArg List.length hd
        have h2 := congrArg List.length hd'
        rw [List.length_drop] at h1 h2
        omega
      subst ek
      have hX2 := hX.below hb3 hX.lt
      have hB3 := hB2.step hb3
      have hb4 := hb2.trans (hb3.mono hb2.size)
      have hY := Bx.new w2 c'
      have hB' : NdB w2 w2.heap.size n c' := NdAt.keep (fun b hb => hb.2) (fun _ _ => rfl) _ c' hn'
      have hbW := below_alloc w2 (.cells #[.string (B c'.nm), .string (B c'.tx), .slice c'.A c'.na c'.ca, .slice c'.K c'.nk c'.ck] 25)
      have hb5 := hb4.trans (hbW.mono hb4.size)
      have hX3 := hX2.alloc (.cells #[.string (B c'.nm), .string (B c'.tx), .slice c'.A c'.na c'.ca, .slice c'.K c'.nk c'.ck] 25)
      have x0 := hX3.c0
      have x1 := hX3.c1
      have x2 := hX3.c2
      have x3 := hX3.c3
      have y0 := hY.c0
      have y1 := hY.c1
      have y2 := hY.c2
      have y3 := hY.c3
      have hz := hb3.size
      have CS := Lib.hid (rsame_any n n c c' _ (hB3.step hbW) (hB'.step hbW) hok hok)
      rw [smN_refl] at CS
      clear C2 hX hX2 hX3 hY hb2 hb3 hb4 hB2 hB3 hB' hbW hn' hd hd' hk hk'
      go_wp2_with fail
      refine CS.out.mono ?_
      rintro e w3 ⟨rfl, hb6⟩
      have hb7 := hb5.trans (hb6.mono hb5.size)
      clear hb5 hb6 CS x0 x1 x2 x3 y0 y1 y2 y3
      go_wp2_with fail
      refine (awake_any _).mono ?_
      rintro e w4 ⟨rfl, hb8⟩
      have hb9 := hb7.trans (hb8.mono hb7.size)
      clear hb7 hb8
      go_wp2
      go_ret
      exact ⟨rfl, hb9⟩
end Go.Proofs.Ytlhkpkjcecjomaa
