/-
  Layer 33 (markup): the examples of the statements: awake.
-/
import Derived.Test.YtlhkpkjcecjomaaMkRf
import Derived.Test.YtlhkpkjcecjomaaMkX
import Derived.Test.YtlhkpkjcecjomaaMkOr
import Derived.Test.YtlhkpkjcecjomaaMkU
namespace Go.Proofs.Ytlhkpkjcecjomaa
open Go.RowKit
set_option linter.unusedVariables false
set_option linter.unusedSimpArgs false
attribute [local go_sem] B_data B_size
attribute [local go_sem ↓] Go.wp_at_zero Go.wp_at_succ

def NMk (c : NC) (w : World) (e : Ending) (w' : World) : Prop := e = .returned (.agg #[.string (B c.nm), .string (B c.tx), .slice c.A c.na c.ca, .slice c.K c.nk c.ck]) ∧ Below w.heap.size w w'
theorem mkText_any (s : List UInt8) (w : World) : Calls Try.prog 26 #[.string (B s)] w (NMk ⟨[], s, none, 0, 0, none, 0, 0⟩ w) := by
  have hb := below_alloc w (.cells #[.string (B []), .string (B s), .slice none 0 0, .slice none 0 0] 25)
  go_enter Try.func26, Try.ntmps26
  go_wp2
  exact bodyPost_ret (v := .agg #[.string ⟨#[]⟩, .string (B s), .slice none 0 0, .slice none 0 0]) (by simp [results, Try.results26, go_sem]) rfl ⟨rfl, hb⟩
theorem mkElem_any (s : List UInt8) (K : Option Addr) (n c : Nat) (w : World) : Calls Try.prog 27 #[.string (B s), .slice K n c] w (NMk ⟨s, [], none, 0, 0, K, n, c⟩ w) := by
  have hb := below_alloc w (.cells #[.string (B s), .string (B []), .slice none 0 0, .slice K n c] 25)
  go_enter Try.func27, Try.ntmps27
  go_wp2
  exact bodyPost_ret (v := .agg #[.string (B s), .string ⟨#[]⟩, .slice none 0 0, .slice K n c]) (by simp [results, Try.results27, go_sem]) rfl ⟨rfl, hb⟩
def nA : Nd := .mk [112] [] [] [.mk [] [97] [] []]
theorem top1 : pTop [60, 112, 62, 97, 60, 47, 112, 62, 98] = .ok (nA, [98]) := by rfl
theorem top2 : pTop [60, 112, 62] = .error 4 := by rfl
theorem top3 : pTop [60, 98, 114, 62] = .error 5 := by rfl
/-- the first example -/
def Aw1 (M : Nat) (w : World) (e : Ending) (w' : World) : Prop := Below w.heap.size w w' ∧ ∃ (c : NC), e = .returned (.tuple #[.agg #[.string (B [112]), .string (B []), .slice c.A c.na c.ca, .slice c.K 1 c.ck], .int .i64 8, .int .i64 0]) ∧ NdB w' w'.heap.size nA c ∧ c.nm = [112] ∧ c.tx = [] ∧ c.nk = 1
theorem aw1 (w : World) : Calls Try.prog 15 #[.string (B [60, 112, 62, 97, 60, 47, 112, 62, 98])] w (Aw1 0 w) := by
  refine (parse_any [60, 112, 62, 97, 60, 47, 112, 62, 98] w (by simp)).mono ?_
  rintro e w' ⟨hb, h⟩
  rw [top1] at h
  obtain ⟨c, k, rfl, hn, hd, hk⟩ := h
  have hB : NdB w' w'.heap.size nA c := NdAt.keep (fun b hb => hb.2) (fun _ _ => rfl) _ c hn
  obtain ⟨e1, e2, hA, cs, hK, hkc, hks⟩ := hB.parts
  have hnk := hK.count NC.cells 4 NC.cells_len (by omega)
  have e3 : c.nk = 1 := by rw [← hnk, ← hkc]; rfl
  have e4 : k = 8 := by
    have := congrArg List.length hd
    simp at this hk
    omega
  subst e4
  refine ⟨hb, c, ?_, hB, e1, e2, e3⟩
  rw [e1, e2, e3]
  rfl
theorem aw2 (w : World) : Calls Try.prog 15 #[.string (B [60, 112, 62])] w fun e w' => e = .returned (.tuple #[.agg #[.string (B []), .string (B []), .slice none 0 0, .slice none 0 0], .int .i64 0, .int .i64 4]) ∧ Below w.heap.size w w' := by
  refine (parse_any [60, 112, 62] w (by simp)).mono ?_
  rintro e w' ⟨hb, h⟩
  rw [top2] at h
  exact ⟨h, hb⟩
theorem aw3 (w : World) : Calls Try.prog 15 #[.string (B [60, 98, 114, 62])] w fun e w' => e = .returned (.tuple #[.agg #[.string (B []), .string (B []), .slice none 0 0, .slice none 0 0], .int .i64 0, .int .i64 5]) ∧ Below w.heap.size w w' := by
  refine (parse_any [60, 98, 114, 62] w (by simp)).mono ?_
  rintro e w' ⟨hb, h⟩
  rw [top3] at h
  exact ⟨h, hb⟩
theorem rd_newN (w : World) (xs : List Value) (t : TypeId) (sz n : Nat) (hn : xs.length = n * sz) : Rd (w.alloc (.cells xs.toArray t)) (w.heap.size + 1) sz (some ⟨w.heap.size, 0, none⟩) n xs :=
  ⟨hn, fun _ => ⟨⟨w.heap.size, 0, none⟩, rfl, Nat.lt_succ_self _, fun j u hj => by
    rw [addr_lit, cell_of_row (w.alloc (.cells xs.toArray t)) w.heap.size _ xs.toArray t (0, 0) (heap_alloc_new w _)]
    simpa using hj⟩⟩
theorem Rd.rdB {w : World} {M sz n : Nat} {A : Option Addr} {xs : List Value} (h : Rd w M sz A n xs) : RdS w (fun b => b < M) sz A n xs := h.rdS (fun _ h => h)
theorem rd0 {w : World} {S : Nat → Prop} {sz : Nat} {A : Option Addr} : RdS w S sz A 0 [] := ⟨by simp, fun h => absurd h (Nat.lt_irrefl 0)⟩
def nX : Nd := .mk [112] [] [([105, 100], [97])] [.mk [] [98] [] []]
/-- what is known of the example x and of the first node -/
structure AwX (w : World) (b1 : Nat) (c1 : NC) (bx : Nat) (cx : NC) (W : World) : Prop where
  b : Below w.heap.size w W
  x1 : Bx W b1 c1
  n1 : NdB W W.heap.size nA c1
  x2 : Bx W bx cx
  n2 : NdB W W.heap.size nX cx
theorem NdB.step {W W' : World} {n : Nd} {c : NC} (h : NdB W W.heap.size n c) (hb : Below W.heap.size W W') : NdB W' W'.heap.size n c := (h.below hb).more hb.size
theorem AwX.step {w : World} {b1 : Nat} {c1 : NC} {bx : Nat} {cx : NC} {W W' : World} (h : AwX w b1 c1 bx cx W) (hb : Below W.heap.size W W') : AwX w b1 c1 bx cx W' :=
  ⟨h.b.trans (hb.mono h.b.size), h.x1.below hb h.x1.lt, h.n1.step hb, h.x2.below hb h.x2.lt, h.n2.step hb⟩
theorem AwX.alloc {w : World} {b1 : Nat} {c1 : NC} {bx : Nat} {cx : NC} {W : World} (h : AwX w b1 c1 bx cx W) (o : Obj) : AwX w b1 c1 bx cx (W.alloc o) := h.step (below_alloc W o)
/-- a node of one kid, of two -/
theorem nd_kids {W : World} {nm : List UInt8} {ks : List Nd} {cs : List NC} {K : Option Addr} {ck : Nat} {xs : List Value} (hK : Rd W W.heap.size 4 K ks.length xs) (hx : xs = cs.flatMap NC.cells) (hk : KsAt W (fun b => b < W.heap.size) ks cs) : NdB W W.heap.size (.mk nm [] [] ks) ⟨nm, [], none, 0, 0, K, ks.length, ck⟩ := by
  subst hx
  exact ⟨rfl, rfl, rd0, cs, hK.rdB, hk⟩
set_option maxHeartbeats 8000000 in
set_option maxRecDepth 100000 in
theorem awake_any (w : World) : Calls Try.prog 10 #[] w (BPost true w) := by
  go_enter Try.func10, Try.ntmps10
  go_wp2_with fail
  refine (aw1 _).mono ?_
  rintro e w1 ⟨hb1, c, rfl, hn1, en, et, ek⟩
  obtain ⟨nm, tx, A, na, ca, K, nk, ck⟩ := c
  have en : nm = [112] := en
  have et : tx = [] := et
  have ek : nk = 1 := ek
  subst en et ek
  have hX := Bx.new w1 ⟨[112], [], A, na, ca, K, 1, ck⟩
  have hb2 := hb1.alloc hb1.size (.cells #[.string (B [112]), .string (B []), .slice A na ca, .slice K 1 ck] 25)
  have hn2 := hn1.below (below_alloc w1 (.cells #[.string (B [112]), .string (B []), .slice A na ca, .slice K 1 ck] 25))
  go_wp2_with fail
  refine (aw2 _).mono ?_
  rintro e w2 ⟨rfl, hb3⟩
  have hX2 := hX.below hb3 hX.lt
  have hn3 := (hn2.more (below_alloc w1 (.cells #[.string (B [112]), .string (B []), .slice A na ca, .slice K 1 ck] 25)).size).below hb3
  have hb4 := hb2.trans (hb3.mono hb2.size)
  have hb5 := hb4.alloc hb4.size (.cells #[.string (B []), .string (B []), .slice none 0 0, .slice none 0 0] 25)
  have hn5 := (hn3.more hb3.size).below (below_alloc w2 (.cells #[.string (B []), .string (B []), .slice none 0 0, .slice none 0 0] 25))
  have hX5 := hX2.alloc (.cells #[.string (B []), .string (B []), .slice none 0 0, .slice none 0 0] 25)
  go_wp2_with fail
  refine (aw3 _).mono ?_
  rintro e w3 ⟨rfl, hb6⟩
  have hX6 := hX5.below hb6 hX5.lt
  have hn6 := (hn5.more (below_alloc w2 (.cells #[.string (B []), .string (B []), .slice none 0 0, .slice none 0 0] 25)).size).below hb6
  have hb7 := hb5.trans (hb6.mono hb5.size)
  have hb8 := hb7.alloc hb7.size (.cells #[.string (B []), .string (B []), .slice none 0 0, .slice none 0 0] 25)
  have hn8 := (hn6.more hb6.size).below (below_alloc w3 (.cells #[.string (B []), .string (B []), .slice none 0 0, .slice none 0 0] 25))
  have hn8 := hn8.more (below_alloc w3 (.cells #[.string (B []), .string (B []), .slice none 0 0, .slice none 0 0] 25)).size
  have hX8 := hX6.alloc (.cells #[.string (B []), .string (B []), .slice none 0 0, .slice none 0 0] 25)
  have q0 : _ = some (Value.string (B [112])) := hX6.c0
  have q3 : _ = some (Value.slice K 1 ck) := hX6.c3
  have ql := hX6.lt
  clear hX hX2 hX5 hX6 hb1 hb2 hb3 hb4 hb5 hb6 hb7 hn1 hn2 hn3 hn5 hn6
  go_wp2_with fail
  refine (escape_any (B [97, 60, 98]) _ (by rw [B_size]; simp)).mono ?_
  rw [B_data, show esc [97, 60, 98] = [97, 38, 108, 116, 59, 98] from rfl]
  rintro e w4 ⟨rfl, hb9⟩
  have hX9 := hX8.below hb9 hX8.lt
  have hn9 := hn8.step hb9
  have hb9 := hb8.trans (hb9.mono hb8.size)
  have hX10 := hX9.alloc (.cells #[.string (B [105, 100]), .string (B [97])] 46)
  have hn10 := hn9.step (below_alloc w4 (.cells #[.string (B [105, 100]), .string (B [97])] 46))
  have hb10 := hb9.alloc hb9.size (.cells #[.string (B [105, 100]), .string (B [97])] 46)
  have hA10 := rd_newN w4 [.string (B [105, 100]), .string (B [97])] 46 2 1 rfl
  clear hX9 hn9 hb9 hn8 hb8 hX8 q0 q3 ql
  go_wp2_with fail
  refine (mkText_any [98] _).mono ?_
  rintro e w6 ⟨rfl, hb11⟩
  have hX11 := hX10.below hb11 hX10.lt
  have hn11 := hn10.step hb11
  have hA11 := hA10.below (hb11.mono (by simp))
  have hz6 := hb11.size
  have hb11 := hb10.trans (hb11.mono hb10.size)
  clear hX10 hn10 hA10 hb10
  have hbW := below_alloc w6 (.cells #[.string (B []), .string (B [98]), .slice none 0 0, .slice none 0 0] 25)
  have hX12 := hX11.below hbW hX11.lt
  have hn12 := hn11.step hbW
  have hA12 := hA11.below (hbW.mono (by simp at hz6; omega))
  have hK12 := rd_newN w6 [.string (B []), .string (B [98]), .slice none 0 0, .slice none 0 0] 25 4 1 rfl
  have hb12 := hb11.trans (hbW.mono hb11.size)
  clear hX11 hn11 hA11 hbW hb11
  have hnX : NdB (w6.alloc (.cells #[.string (B []), .string (B [98]), .slice none 0 0, .slice none 0 0] 25)) (w6.alloc (.cells #[.string (B []), .string (B [98]), .slice none 0 0, .slice none 0 0] 25)).heap.size nX ⟨[112], [], some ⟨w4.heap.size, 0, none⟩, 1, 1, some ⟨w6.heap.size, 0, none⟩, 1, 1⟩ :=
    ⟨rfl, rfl, (Rd.more hA12 (by simp at hz6 ⊢; omega)).rdB, [⟨[], [98], none, 0, 0, none, 0, 0⟩], (Rd.more hK12 (by simp)).rdB, nd_text _ _ _, rfl⟩
  have hbW := below_alloc (w6.alloc (.cells #[.string (B []), .string (B [98]), .slice none 0 0, .slice none 0 0] 25)) (.cells #[.string (B [112]), .string (B []), .slice (some ⟨w4.heap.size, 0, none⟩) 1 1, .slice (some ⟨w6.heap.size, 0, none⟩) 1 1] 25)
  have hAX : AwX w w1.heap.size ⟨[112], [], A, na, ca, K, 1, ck⟩ (w6.heap.size + 1) ⟨[112], [], some ⟨w4.heap.size, 0, none⟩, 1, 1, some ⟨w6.heap.size, 0, none⟩, 1, 1⟩ ((w6.alloc (.cells #[.string (B []), .string (B [98]), .slice none 0 0, .slice none 0 0] 25)).alloc (.cells #[.string (B [112]), .string (B []), .slice (some ⟨w4.heap.size, 0, none⟩) 1 1, .slice (some ⟨w6.heap.size, 0, none⟩) 1 1] 25)) :=
    ⟨hb12.trans (hbW.mono hb12.size), hX12.below hbW hX12.lt, hn12.step hbW, by
      have := Bx.new (w6.alloc (.cells #[.string (B []), .string (B [98]), .slice none 0 0, .slice none 0 0] 25)) ⟨[112], [], some ⟨w4.heap.size, 0, none⟩, 1, 1, some ⟨w6.heap.size, 0, none⟩, 1, 1⟩
      rw [show (w6.alloc (.cells #[.string (B []), .string (B [98]), .slice none 0 0, .slice none 0 0] 25)).heap.size = w6.heap.size + 1 from by simp] at this
      exact this, hnX.step hbW⟩
  clear hX12 hn12 hA12 hK12 hb12 hnX hbW hz6
  go_wp2_with fail
  refine (text_any nX ⟨[112], [], some ⟨w4.heap.size, 0, none⟩, 1, 1, some ⟨w6.heap.size, 0, none⟩, 1, 1⟩ _ hAX.n2 (ok_of_sz _ _ (by decide)) (by decide)).mono ?_
  unfold TPost
  rw [show chk nX = 0 from rfl, if_pos rfl, show mku nX = [60, 112, 32, 105, 100, 61, 34, 97, 34, 62, 98, 60, 47, 112, 62] from rfl]
  rintro e w7 ⟨rfl, hb7⟩
  have hA7 := hAX.step hb7
  clear hAX hb7
  go_wp2_with fail
  refine (mkElem_any [98, 114] none 0 0 _).mono ?_
  rintro e w8 ⟨rfl, hb8⟩
  have hA8 := hA7.step hb8
  clear hA7 hb8
  go_wp2_with fail
  refine (text_any (.mk [98, 114] [] [] []) ⟨[98, 114], [], none, 0, 0, none, 0, 0⟩ _ ⟨rfl, rfl, rd0, [], rd0, rfl⟩ (ok_of_sz _ _ (by decide)) (by decide)).mono ?_
  unfold TPost
  rw [show chk (.mk [98, 114] [] [] []) = 0 from rfl, if_pos rfl, show mku (.mk [98, 114] [] [] []) = [60, 98, 114, 47, 62] from rfl]
  rintro e w9 ⟨rfl, hb9⟩
  have hA9 := hA8.step hb9
  have x0 : _ = some (Value.string (B [112])) := hA9.x2.c0
  have x1 : _ = some (Value.string (B [])) := hA9.x2.c1
  have x2 : _ = some (Value.slice (some ⟨w4.heap.size, 0, none⟩) 1 1) := hA9.x2.c2
  have x3 : _ = some (Value.slice (some ⟨w6.heap.size, 0, none⟩) 1 1) := hA9.x2.c3
  clear hA8 hb9
  go_wp2_with fail
  have hA10 := hA9.alloc (.cells #[.string (B [112]), .string (B []), .slice (some ⟨w4.heap.size, 0, none⟩) 1 1, .slice (some ⟨w6.heap.size, 0, none⟩) 1 1] 25)
  have hK10 := rd_newN w9 [.string (B [112]), .string (B []), .slice (some ⟨w4.heap.size, 0, none⟩) 1 1, .slice (some ⟨w6.heap.size, 0, none⟩) 1 1] 25 4 1 rfl
  clear hA9 x0 x1 x2 x3
  refine (mkElem_any [112] (some ⟨w9.heap.size, 0, none⟩) 1 1 _).mono ?_
  rintro e w10 ⟨rfl, hb10⟩
  have hA11 := hA10.step hb10
  have hK11 := Rd.more (hK10.below (hb10.mono (by simp))) (show w9.heap.size + 1 ≤ w10.heap.size by have := hb10.size; simp at this; omega)
  have hnP : NdB w10 w10.heap.size (.mk [112] [] [] [nX]) ⟨[112], [], none, 0, 0, some ⟨w9.heap.size, 0, none⟩, 1, 1⟩ :=
    nd_kids (ks := [nX]) (cs := [⟨[112], [], some ⟨w4.heap.size, 0, none⟩, 1, 1, some ⟨w6.heap.size, 0, none⟩, 1, 1⟩]) hK11 rfl ⟨hA11.n2, rfl⟩
  clear hA10 hK10 hb10 hK11
  go_wp2_with fail
  refine (values_any (.mk [112] [] [] [nX]) _ [105, 100] _ hnP (ok_of_sz _ _ (by decide)) (by decide)).mono ?_
  unfold LPost
  rw [show vals [105, 100] (.mk [112] [] [] [nX]) = [[97]] from rfl]
  rintro e w11 ⟨Av, cv, rfl, hv, hb11⟩
  have hA12 := hA11.step hb11
  have hv0 : Rd w11 w11.heap.size 1 Av 1 ([[97]].flatMap fun l => [Value.string (B l)]) := hv
  obtain ⟨bv, ov, rfl, hbv, hvc⟩ := hv0.elem (fun l => [Value.string (B l)]) 1 (fun _ => rfl) (by omega) (k := 0) (x := [97]) rfl
  have hvc : w11.cell? ⟨bv, ov, none⟩ = some (.string (B [97])) := by have := hvc 0 _ rfl; simpa using this
  clear hA11 hnP hb11 hv hv0
  go_wp2_with fail
  refine (mkText_any [97] _).mono ?_
  rintro e w12 ⟨rfl, hb12⟩
  have hA13 := hA12.step hb12
  have hvd : w12.cell? ⟨bv, ov, none⟩ = some (.string (B [97])) := (hb12.cell (p := ⟨bv, ov, none⟩) hbv).trans hvc
  have hbv := Nat.lt_of_lt_of_le hbv hb12.size
  clear hA12 hb12 hvc
  go_wp2_with fail
  refine (mkText_any [98] _).mono ?_
  rintro e w13 ⟨rfl, hb13⟩
  have hA14 := hA13.step hb13
  have hvc : w13.cell? ⟨bv, ov, none⟩ = some (.string (B [97])) := (hb13.cell (p := ⟨bv, ov, none⟩) hbv).trans hvd
  have hbv := Nat.lt_of_lt_of_le hbv hb13.size
  clear hA13 hb13 hvd
  go_wp2_with fail
  have hA15 := hA14.alloc (.cells #[.string (B []), .string (B [97]), .slice none 0 0, .slice none 0 0, .string (B []), .string (B [98]), .slice none 0 0, .slice none 0 0] 25)
  have hK15 := rd_newN w13 [.string (B []), .string (B [97]), .slice none 0 0, .slice none 0 0, .string (B []), .string (B [98]), .slice none 0 0, .slice none 0 0] 25 4 2 rfl
  have hbW := below_alloc w13 (.cells #[.string (B []), .string (B [97]), .slice none 0 0, .slice none 0 0, .string (B []), .string (B [98]), .slice none 0 0, .slice none 0 0] 25)
  refine (mkElem_any [112] (some ⟨w13.heap.size, 0, none⟩) 2 2 _).mono ?_
  rintro e w14 ⟨rfl, hb14⟩
  have hA16 := hA15.step hb14
  have hK16 := Rd.more (hK15.below (hb14.mono (by simp))) (show w13.heap.size + 1 ≤ w14.heap.size by have := hb14.size; simp at this; omega)
  have hnP : NdB w14 w14.heap.size (.mk [112] [] [] [.mk [] [97] [] [], .mk [] [98] [] []]) ⟨[112], [], none, 0, 0, some ⟨w13.heap.size, 0, none⟩, 2, 2⟩ :=
    nd_kids (ks := [.mk [] [97] [] [], .mk [] [98] [] []]) (cs := [⟨[], [97], none, 0, 0, none, 0, 0⟩, ⟨[], [98], none, 0, 0, none, 0, 0⟩]) hK16 rfl ⟨nd_text _ _ _, nd_text _ _ _, rfl⟩
  have hbX := hbW.trans (hb14.mono hbW.size)
  have hvd : w14.cell? ⟨bv, ov, none⟩ = some (.string (B [97])) := (hbX.cell (p := ⟨bv, ov, none⟩) hbv).trans hvc
  have hbv := Nat.lt_of_lt_of_le hbv hbX.size
  clear hA14 hA15 hK15 hbW hb14 hK16 hbX hvc
  go_wp2_with fail
  refine (check_any (.mk [112] [] [] [.mk [] [97] [] [], .mk [] [98] [] []]) _ _ hnP (ok_of_sz _ _ (by decide))).mono ?_
  unfold IPost
  rw [show chk (.mk [112] [] [] [.mk [] [97] [] [], .mk [] [98] [] []]) = 5 from rfl]
  rintro e w15 ⟨rfl, hb15⟩
  have hA17 := hA16.step hb15
  have hvc : w15.cell? ⟨bv, ov, none⟩ = some (.string (B [97])) := (hb15.cell (p := ⟨bv, ov, none⟩) hbv).trans hvd
  clear hA16 hnP hb15 hvd hbv
  go_wp2_with fail
  refine (mkText_any [97] _).mono ?_
  rintro e w16 ⟨rfl, hb16⟩
  have hA18 := hA17.step hb16
  clear hA17 hb16 hvc
  go_wp2_with fail
  refine (mkText_any [99] _).mono ?_
  rintro e w17 ⟨rfl, hb17⟩
  have hA19 := hA18.step hb17
  clear hA18 hb17
  go_wp2_with fail
  have hA20 := hA19.alloc (.cells #[.string (B []), .string (B [99]), .slice none 0 0, .slice none 0 0] 25)
  have hK20 := rd_newN w17 [.string (B []), .string (B [99]), .slice none 0 0, .slice none 0 0] 25 4 1 rfl
  refine (mkElem_any [98] (some ⟨w17.heap.size, 0, none⟩) 1 1 _).mono ?_
  rintro e w18 ⟨rfl, hb18⟩
  have hA21 := hA20.step hb18
  have hK21 := Rd.more (hK20.below (hb18.mono (by simp))) (show w17.heap.size + 1 ≤ w18.heap.size by have := hb18.size; simp at this; omega)
  have hnP : NdB w18 w18.heap.size (.mk [98] [] [] [.mk [] [99] [] []]) ⟨[98], [], none, 0, 0, some ⟨w17.heap.size, 0, none⟩, 1, 1⟩ :=
    nd_kids (ks := [.mk [] [99] [] []]) (cs := [⟨[], [99], none, 0, 0, none, 0, 0⟩]) hK21 rfl ⟨nd_text _ _ _, rfl⟩
  clear hA19 hA20 hK20 hb18 hK21
  go_wp2_with fail
  have hbW := below_alloc w18 (.cells #[.string (B []), .string (B [97]), .slice none 0 0, .slice none 0 0, .string (B [98]), .string (B []), .slice none 0 0, .slice (some ⟨w17.heap.size, 0, none⟩) 1 1] 25)
  have hA22 := hA21.step hbW
  have hnQ := hnP.step hbW
  have hK22 := rd_newN w18 [.string (B []), .string (B [97]), .slice none 0 0, .slice none 0 0, .string (B [98]), .string (B []), .slice none 0 0, .slice (some ⟨w17.heap.size, 0, none⟩) 1 1] 25 4 2 rfl
  clear hA21 hnP hbW
  refine (mkElem_any [112] (some ⟨w18.heap.size, 0, none⟩) 2 2 _).mono ?_
  rintro e w19 ⟨rfl, hb19⟩
  have hA23 := hA22.step hb19
  have hK23 := Rd.more (hK22.below (hb19.mono (by simp))) (show w18.heap.size + 1 ≤ w19.heap.size by have := hb19.size; simp at this; omega)
  have hnR : NdB w19 w19.heap.size (.mk [112] [] [] [.mk [] [97] [] [], .mk [98] [] [] [.mk [] [99] [] []]]) ⟨[112], [], none, 0, 0, some ⟨w18.heap.size, 0, none⟩, 2, 2⟩ :=
    nd_kids (ks := [.mk [] [97] [] [], .mk [98] [] [] [.mk [] [99] [] []]]) (cs := [⟨[], [97], none, 0, 0, none, 0, 0⟩, ⟨[98], [], none, 0, 0, some ⟨w17.heap.size, 0, none⟩, 1, 1⟩]) hK23 rfl ⟨nd_text _ _ _, hnQ.step hb19, rfl⟩
  clear hA22 hnQ hK22 hb19 hK23
  go_wp2_with fail
  refine (plain_any (.mk [112] [] [] [.mk [] [97] [] [], .mk [98] [] [] [.mk [] [99] [] []]]) _ _ hnR (ok_of_sz _ _ (by decide)) (by decide)).mono ?_
  rw [show pln (.mk [112] [] [] [.mk [] [97] [] [], .mk [98] [] [] [.mk [] [99] [] []]]) = [97, 99] from rfl]
  rintro e w20 ⟨rfl, hb20⟩
  have hA24 := hA23.step hb20
  have x0 : _ = some (Value.string (B [112])) := hA24.x2.c0
  have x1 : _ = some (Value.string (B [])) := hA24.x2.c1
  have x2 : _ = some (Value.slice (some ⟨w4.heap.size, 0, none⟩) 1 1) := hA24.x2.c2
  have x3 : _ = some (Value.slice (some ⟨w6.heap.size, 0, none⟩) 1 1) := hA24.x2.c3
  clear hA23 hnR hb20
  go_wp2_with fail
  refine (same_any nX nX _ _ _ hA24.n2 hA24.n2 (ok_of_sz _ _ (by decide)) (ok_of_sz _ _ (by decide))).mono ?_
  rw [show smN nX nX = true from rfl]
  rintro e w21 ⟨rfl, hb21⟩
  have hA25 := hA24.step hb21
  clear hA24 hb21 x0 x1 x2 x3
  have x0 : _ = some (Value.string (B [112])) := hA25.x2.c0
  have x1 : _ = some (Value.string (B [])) := hA25.x2.c1
  have x2 : _ = some (Value.slice (some ⟨w4.heap.size, 0, none⟩) 1 1) := hA25.x2.c2
  have x3 : _ = some (Value.slice (some ⟨w6.heap.size, 0, none⟩) 1 1) := hA25.x2.c3
  have y0 : _ = some (Value.string (B [112])) := hA25.x1.c0
  have y1 : _ = some (Value.string (B [])) := hA25.x1.c1
  have y2 : _ = some (Value.slice A na ca) := hA25.x1.c2
  have y3 : _ = some (Value.slice K 1 ck) := hA25.x1.c3
  go_wp2_with fail
  refine (same_any nX nA _ ⟨[112], [], A, na, ca, K, 1, ck⟩ _ hA25.n2 hA25.n1 (ok_of_sz _ _ (by decide)) (ok_of_sz _ _ (by decide))).mono ?_
  rw [show smN nX nA = false from rfl]
  rintro e w22 ⟨rfl, hb22⟩
  have hA26 := hA25.step hb22
  clear hA25 hb22 x0 x1 x2 x3 y0 y1 y2 y3
  go_wp2
  go_ret
  exact ⟨rfl, hA26.b⟩
end Go.Proofs.Ytlhkpkjcecjomaa
