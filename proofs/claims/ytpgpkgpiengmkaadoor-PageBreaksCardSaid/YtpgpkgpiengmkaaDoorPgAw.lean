/-
  Layer 40 (page): the small cases with which the statements end: awake.
-/
import Derived.Test.YtpgpkgpiengmkaaDoorPgAx
namespace Go.Proofs.YtpgpkgpiengmkaaDoor
open Go.RowKit
set_option linter.unusedVariables false
set_option linter.unusedSimpArgs false
attribute [local go_sem] B_data B_size

/-- what is known when all has been computed -/
structure AwS (w : World) (g : Nat) (A1 : Option Addr) (m1 : Nat) (ps1 : List Pg) (A2 : Option Addr) (m2 : Nat) (ps2 : List Pg) (As : Option Addr) (W : World) : Prop where
  b : Below w.heap.size w W
  a : BxAt W W.heap.size (some ⟨g, 0, none⟩) 3 la
  p1 : PgAt W W.heap.size A1 m1 ps1
  p2 : PgAt W W.heap.size A2 m2 ps2
  s : Rd W W.heap.size 2 As 2 (([([122], [49]), ([97], [50])] : List KV).flatMap prF)
theorem AwS.step {w W W' : World} {g m1 m2 : Nat} {A1 A2 As : Option Addr} {ps1 ps2 : List Pg} (h : AwS w g A1 m1 ps1 A2 m2 ps2 As W) (hb : Below W.heap.size W W') : AwS w g A1 m1 ps1 A2 m2 ps2 As W' :=
  ⟨h.b.trans (hb.mono h.b.size), h.a.step hb, h.p1.step hb, h.p2.step hb, (h.s.below hb).more hb.size⟩
theorem ca_la (f k : Bool) : (#[.string (B [120]), .int .i64 2, .int .i64 0, .bool false, .bool false, .slice none 0 0, .string (B [120]), .int .i64 2, .int .i64 0, .bool k, .bool f, .slice none 0 0, .string (B [120]), .int .i64 2, .int .i64 0, .bool false, .bool false, .slice none 0 0] : Array Value).toList = [bx0 false false, bx0 k f, bx0 false false].flatMap bxF := rfl
theorem no_an {W : World} {M : Nat} (k f : Bool) : ∀ b ∈ [bx0 false false, bx0 k f, bx0 false false], Rd W M 1 b.A b.na (strs b.an) := fun b hb => by
  simp only [List.mem_cons, List.not_mem_nil, or_false] at hb
  rcases hb with rfl | rfl | rfl <;> exact Rd.nil
set_option maxHeartbeats 8000000 in
set_option maxRecDepth 100000 in
theorem awake_any (w : World) (hG : GlobP w) : Calls Tryd.prog 10 #[] w (BlPost true w) := by
  go_enter Tryd.func10, Tryd.ntmps10
  go_wp2_with fail
  refine (box_any false false _).mono ?_
  rintro e w1 ⟨rfl, hb⟩
  go_wp2_with fail
  refine (box_any false false _).mono ?_
  rintro e w2 ⟨rfl, hb2⟩
  replace hb := hb.trans (hb2.mono hb.size)
  go_wp2_with fail
  refine (box_any false false _).mono ?_
  rintro e w3 ⟨rfl, hb3⟩
  replace hb := hb.trans (hb3.mono hb.size)
  clear hb2 hb3
  have hba := below_alloc w3 (.cells #[.string (B [120]), .int .i64 2, .int .i64 0, .bool false, .bool false, .slice none 0 0, .string (B [120]), .int .i64 2, .int .i64 0, .bool false, .bool false, .slice none 0 0, .string (B [120]), .int .i64 2, .int .i64 0, .bool false, .bool false, .slice none 0 0] 45)
  have hA : BxAt _ _ (some ⟨w3.heap.size, 0, none⟩) 3 la := BxAt.of_block (heap_alloc_new w3 (.cells #[.string (B [120]), .int .i64 2, .int .i64 0, .bool false, .bool false, .slice none 0 0, .string (B [120]), .int .i64 2, .int .i64 0, .bool false, .bool false, .slice none 0 0, .string (B [120]), .int .i64 2, .int .i64 0, .bool false, .bool false, .slice none 0 0] 45)) (ca_la false false) rfl (no_an false false)
  replace hb := hb.trans (hba.mono hb.size)
  clear hba
  go_wp2_with fail
  refine (box_any false false _).mono ?_
  rintro e w4 ⟨rfl, hb4⟩
  replace hb := hb.trans (hb4.mono hb.size)
  replace hA := hA.step hb4
  go_wp2_with fail
  refine (box_any true false _).mono ?_
  rintro e w5 ⟨rfl, hb5⟩
  replace hb := hb.trans (hb5.mono hb.size)
  replace hA := hA.step hb5
  go_wp2_with fail
  refine (box_any false false _).mono ?_
  rintro e w6 ⟨rfl, hb6⟩
  replace hb := hb.trans (hb6.mono hb.size)
  replace hA := hA.step hb6
  clear hb4 hb5 hb6
  have hba := below_alloc w6 (.cells #[.string (B [120]), .int .i64 2, .int .i64 0, .bool false, .bool false, .slice none 0 0, .string (B [120]), .int .i64 2, .int .i64 0, .bool true, .bool false, .slice none 0 0, .string (B [120]), .int .i64 2, .int .i64 0, .bool false, .bool false, .slice none 0 0] 45)
  have hB : BxAt _ _ (some ⟨w6.heap.size, 0, none⟩) 3 lb := BxAt.of_block (heap_alloc_new w6 (.cells #[.string (B [120]), .int .i64 2, .int .i64 0, .bool false, .bool false, .slice none 0 0, .string (B [120]), .int .i64 2, .int .i64 0, .bool true, .bool false, .slice none 0 0, .string (B [120]), .int .i64 2, .int .i64 0, .bool false, .bool false, .slice none 0 0] 45)) (ca_la false true) rfl (no_an true false)
  replace hb := hb.trans (hba.mono hb.size)
  replace hA := hA.step hba
  clear hba
  go_wp2_with fail
  refine (break_any _ 3 3 la 5 _ hA la_few).mono ?_
  rintro e w7 ⟨A1, m1, c1, ps1, rfl, hp1, hd1, hb7⟩
  rw [la_E]
  rw [la_P] at hd1
  replace hb := hb.trans (hb7.mono hb.size)
  replace hA := hA.step hb7
  replace hB := hB.step hb7
  clear hb7
  go_wp2_with fail
  refine (break_any _ 3 3 lb 5 _ hB lb_few).mono ?_
  rintro e w8 ⟨A2, m2, c2, ps2, rfl, hp2, hd2, hb8⟩
  rw [lb_E]
  rw [lb_P] at hd2
  replace hb := hb.trans (hb8.mono hb.size)
  replace hA := hA.step hb8
  replace hp1 := hp1.step hb8
  clear hb8 hB
  have hal := allocs_below w8 [(.cells #[.string ⟨#[122]⟩] 9), (.cells #[.string ⟨#[97]⟩] 9), (.cells #[.string ⟨#[120]⟩, .int .i64 2, .int .i64 0, .bool false, .bool false, .slice (some ⟨w8.heap.size, 0, none⟩) 1 1, .string ⟨#[121]⟩, .int .i64 2, .int .i64 0, .bool false, .bool false, .slice (some ⟨w8.heap.size + 1, 0, none⟩) 1 1] 45), (.cells #[.int .i64 0] 3), (.cells #[.int .i64 1] 3), (.cells #[.slice (some ⟨w8.heap.size + 1 + 1 + 1, 0, none⟩) 1 1, .slice (some ⟨w8.heap.size + 1 + 1 + 1 + 1, 0, none⟩) 1 1] 40)]
  have e0 : (allocs w8 [(.cells #[.string ⟨#[122]⟩] 9), (.cells #[.string ⟨#[97]⟩] 9), (.cells #[.string ⟨#[120]⟩, .int .i64 2, .int .i64 0, .bool false, .bool false, .slice (some ⟨w8.heap.size, 0, none⟩) 1 1, .string ⟨#[121]⟩, .int .i64 2, .int .i64 0, .bool false, .bool false, .slice (some ⟨w8.heap.size + 1, 0, none⟩) 1 1] 45), (.cells #[.int .i64 0] 3), (.cells #[.int .i64 1] 3), (.cells #[.slice (some ⟨w8.heap.size + 1 + 1 + 1, 0, none⟩) 1 1, .slice (some ⟨w8.heap.size + 1 + 1 + 1 + 1, 0, none⟩) 1 1] 40)]).heap[w8.heap.size]? = some (.cells #[.string ⟨#[122]⟩] 9) := allocs_at w8 [(.cells #[.string ⟨#[122]⟩] 9), (.cells #[.string ⟨#[97]⟩] 9), (.cells #[.string ⟨#[120]⟩, .int .i64 2, .int .i64 0, .bool false, .bool false, .slice (some ⟨w8.heap.size, 0, none⟩) 1 1, .string ⟨#[121]⟩, .int .i64 2, .int .i64 0, .bool false, .bool false, .slice (some ⟨w8.heap.size + 1, 0, none⟩) 1 1] 45), (.cells #[.int .i64 0] 3), (.cells #[.int .i64 1] 3), (.cells #[.slice (some ⟨w8.heap.size + 1 + 1 + 1, 0, none⟩) 1 1, .slice (some ⟨w8.heap.size + 1 + 1 + 1 + 1, 0, none⟩) 1 1] 40)] 0 _ rfl
  have e1 : (allocs w8 [(.cells #[.string ⟨#[122]⟩] 9), (.cells #[.string ⟨#[97]⟩] 9), (.cells #[.string ⟨#[120]⟩, .int .i64 2, .int .i64 0, .bool false, .bool false, .slice (some ⟨w8.heap.size, 0, none⟩) 1 1, .string ⟨#[121]⟩, .int .i64 2, .int .i64 0, .bool false, .bool false, .slice (some ⟨w8.heap.size + 1, 0, none⟩) 1 1] 45), (.cells #[.int .i64 0] 3), (.cells #[.int .i64 1] 3), (.cells #[.slice (some ⟨w8.heap.size + 1 + 1 + 1, 0, none⟩) 1 1, .slice (some ⟨w8.heap.size + 1 + 1 + 1 + 1, 0, none⟩) 1 1] 40)]).heap[w8.heap.size + 1]? = some (.cells #[.string ⟨#[97]⟩] 9) := allocs_at w8 [(.cells #[.string ⟨#[122]⟩] 9), (.cells #[.string ⟨#[97]⟩] 9), (.cells #[.string ⟨#[120]⟩, .int .i64 2, .int .i64 0, .bool false, .bool false, .slice (some ⟨w8.heap.size, 0, none⟩) 1 1, .string ⟨#[121]⟩, .int .i64 2, .int .i64 0, .bool false, .bool false, .slice (some ⟨w8.heap.size + 1, 0, none⟩) 1 1] 45), (.cells #[.int .i64 0] 3), (.cells #[.int .i64 1] 3), (.cells #[.slice (some ⟨w8.heap.size + 1 + 1 + 1, 0, none⟩) 1 1, .slice (some ⟨w8.heap.size + 1 + 1 + 1 + 1, 0, none⟩) 1 1] 40)] 1 _ rfl
  have e2 : (allocs w8 [(.cells #[.string ⟨#[122]⟩] 9), (.cells #[.string ⟨#[97]⟩] 9), (.cells #[.string ⟨#[120]⟩, .int .i64 2, .int .i64 0, .bool false, .bool false, .slice (some ⟨w8.heap.size, 0, none⟩) 1 1, .string ⟨#[121]⟩, .int .i64 2, .int .i64 0, .bool false, .bool false, .slice (some ⟨w8.heap.size + 1, 0, none⟩) 1 1] 45), (.cells #[.int .i64 0] 3), (.cells #[.int .i64 1] 3), (.cells #[.slice (some ⟨w8.heap.size + 1 + 1 + 1, 0, none⟩) 1 1, .slice (some ⟨w8.heap.size + 1 + 1 + 1 + 1, 0, none⟩) 1 1] 40)]).heap[w8.heap.size + 1 + 1]? = some (.cells #[.string ⟨#[120]⟩, .int .i64 2, .int .i64 0, .bool false, .bool false, .slice (some ⟨w8.heap.size, 0, none⟩) 1 1, .string ⟨#[121]⟩, .int .i64 2, .int .i64 0, .bool false, .bool false, .slice (some ⟨w8.heap.size + 1, 0, none⟩) 1 1] 45) := allocs_at w8 [(.cells #[.string ⟨#[122]⟩] 9), (.cells #[.string ⟨#[97]⟩] 9), (.cells #[.string ⟨#[120]⟩, .int .i64 2, .int .i64 0, .bool false, .bool false, .slice (some ⟨w8.heap.size, 0, none⟩) 1 1, .string ⟨#[121]⟩, .int .i64 2, .int .i64 0, .bool false, .bool false, .slice (some ⟨w8.heap.size + 1, 0, none⟩) 1 1] 45), (.cells #[.int .i64 0] 3), (.cells #[.int .i64 1] 3), (.cells #[.slice (some ⟨w8.heap.size + 1 + 1 + 1, 0, none⟩) 1 1, .slice (some ⟨w8.heap.size + 1 + 1 + 1 + 1, 0, none⟩) 1 1] 40)] 2 _ rfl
  have e3 : (allocs w8 [(.cells #[.string ⟨#[122]⟩] 9), (.cells #[.string ⟨#[97]⟩] 9), (.cells #[.string ⟨#[120]⟩, .int .i64 2, .int .i64 0, .bool false, .bool false, .slice (some ⟨w8.heap.size, 0, none⟩) 1 1, .string ⟨#[121]⟩, .int .i64 2, .int .i64 0, .bool false, .bool false, .slice (some ⟨w8.heap.size + 1, 0, none⟩) 1 1] 45), (.cells #[.int .i64 0] 3), (.cells #[.int .i64 1] 3), (.cells #[.slice (some ⟨w8.heap.size + 1 + 1 + 1, 0, none⟩) 1 1, .slice (some ⟨w8.heap.size + 1 + 1 + 1 + 1, 0, none⟩) 1 1] 40)]).heap[w8.heap.size + 1 + 1 + 1]? = some (.cells #[.int .i64 0] 3) := allocs_at w8 [(.cells #[.string ⟨#[122]⟩] 9), (.cells #[.string ⟨#[97]⟩] 9), (.cells #[.string ⟨#[120]⟩, .int .i64 2, .int .i64 0, .bool false, .bool false, .slice (some ⟨w8.heap.size, 0, none⟩) 1 1, .string ⟨#[121]⟩, .int .i64 2, .int .i64 0, .bool false, .bool false, .slice (some ⟨w8.heap.size + 1, 0, none⟩) 1 1] 45), (.cells #[.int .i64 0] 3), (.cells #[.int .i64 1] 3), (.cells #[.slice (some ⟨w8.heap.size + 1 + 1 + 1, 0, none⟩) 1 1, .slice (some ⟨w8.heap.size + 1 + 1 + 1 + 1, 0, none⟩) 1 1] 40)] 3 _ rfl
  have e4 : (allocs w8 [(.cells #[.string ⟨#[122]⟩] 9), (.cells #[.string ⟨#[97]⟩] 9), (.cells #[.string ⟨#[120]⟩, .int .i64 2, .int .i64 0, .bool false, .bool false, .slice (some ⟨w8.heap.size, 0, none⟩) 1 1, .string ⟨#[121]⟩, .int .i64 2, .int .i64 0, .bool false, .bool false, .slice (some ⟨w8.heap.size + 1, 0, none⟩) 1 1] 45), (.cells #[.int .i64 0] 3), (.cells #[.int .i64 1] 3), (.cells #[.slice (some ⟨w8.heap.size + 1 + 1 + 1, 0, none⟩) 1 1, .slice (some ⟨w8.heap.size + 1 + 1 + 1 + 1, 0, none⟩) 1 1] 40)]).heap[w8.heap.size + 1 + 1 + 1 + 1]? = some (.cells #[.int .i64 1] 3) := allocs_at w8 [(.cells #[.string ⟨#[122]⟩] 9), (.cells #[.string ⟨#[97]⟩] 9), (.cells #[.string ⟨#[120]⟩, .int .i64 2, .int .i64 0, .bool false, .bool false, .slice (some ⟨w8.heap.size, 0, none⟩) 1 1, .string ⟨#[121]⟩, .int .i64 2, .int .i64 0, .bool false, .bool false, .slice (some ⟨w8.heap.size + 1, 0, none⟩) 1 1] 45), (.cells #[.int .i64 0] 3), (.cells #[.int .i64 1] 3), (.cells #[.slice (some ⟨w8.heap.size + 1 + 1 + 1, 0, none⟩) 1 1, .slice (some ⟨w8.heap.size + 1 + 1 + 1 + 1, 0, none⟩) 1 1] 40)] 4 _ rfl
  have e5 : (allocs w8 [(.cells #[.string ⟨#[122]⟩] 9), (.cells #[.string ⟨#[97]⟩] 9), (.cells #[.string ⟨#[120]⟩, .int .i64 2, .int .i64 0, .bool false, .bool false, .slice (some ⟨w8.heap.size, 0, none⟩) 1 1, .string ⟨#[121]⟩, .int .i64 2, .int .i64 0, .bool false, .bool false, .slice (some ⟨w8.heap.size + 1, 0, none⟩) 1 1] 45), (.cells #[.int .i64 0] 3), (.cells #[.int .i64 1] 3), (.cells #[.slice (some ⟨w8.heap.size + 1 + 1 + 1, 0, none⟩) 1 1, .slice (some ⟨w8.heap.size + 1 + 1 + 1 + 1, 0, none⟩) 1 1] 40)]).heap[w8.heap.size + 1 + 1 + 1 + 1 + 1]? = some (.cells #[.slice (some ⟨w8.heap.size + 1 + 1 + 1, 0, none⟩) 1 1, .slice (some ⟨w8.heap.size + 1 + 1 + 1 + 1, 0, none⟩) 1 1] 40) := allocs_at w8 [(.cells #[.string ⟨#[122]⟩] 9), (.cells #[.string ⟨#[97]⟩] 9), (.cells #[.string ⟨#[120]⟩, .int .i64 2, .int .i64 0, .bool false, .bool false, .slice (some ⟨w8.heap.size, 0, none⟩) 1 1, .string ⟨#[121]⟩, .int .i64 2, .int .i64 0, .bool false, .bool false, .slice (some ⟨w8.heap.size + 1, 0, none⟩) 1 1] 45), (.cells #[.int .i64 0] 3), (.cells #[.int .i64 1] 3), (.cells #[.slice (some ⟨w8.heap.size + 1 + 1 + 1, 0, none⟩) 1 1, .slice (some ⟨w8.heap.size + 1 + 1 + 1 + 1, 0, none⟩) 1 1] 40)] 5 _ rfl
  generalize hW : allocs w8 [(.cells #[.string ⟨#[122]⟩] 9), (.cells #[.string ⟨#[97]⟩] 9), (.cells #[.string ⟨#[120]⟩, .int .i64 2, .int .i64 0, .bool false, .bool false, .slice (some ⟨w8.heap.size, 0, none⟩) 1 1, .string ⟨#[121]⟩, .int .i64 2, .int .i64 0, .bool false, .bool false, .slice (some ⟨w8.heap.size + 1, 0, none⟩) 1 1] 45), (.cells #[.int .i64 0] 3), (.cells #[.int .i64 1] 3), (.cells #[.slice (some ⟨w8.heap.size + 1 + 1 + 1, 0, none⟩) 1 1, .slice (some ⟨w8.heap.size + 1 + 1 + 1 + 1, 0, none⟩) 1 1] 40)] = W at *
  have hLL : Rd W W.heap.size 1 (some ⟨w8.heap.size + 1 + 1 + 1 + 1 + 1, 0, none⟩) 2 (([⟨[0], some ⟨w8.heap.size + 1 + 1 + 1, 0, none⟩, 1, 1⟩, ⟨[1], some ⟨w8.heap.size + 1 + 1 + 1 + 1, 0, none⟩, 1, 1⟩] : List Rw).flatMap rwF) := Rd.of_block e5 rfl rfl
  have hrs : ∀ r ∈ ([⟨[0], some ⟨w8.heap.size + 1 + 1 + 1, 0, none⟩, 1, 1⟩, ⟨[1], some ⟨w8.heap.size + 1 + 1 + 1 + 1, 0, none⟩, 1, 1⟩] : List Rw), Rd W W.heap.size 1 r.A r.n (ints r.xs) ∧ r.n ≤ 1000 := fun r hr => by
    simp only [List.mem_cons, List.not_mem_nil, or_false] at hr
    rcases hr with rfl | rfl
    · exact ⟨Rd.of_block e3 rfl rfl, by show (1 : Nat) ≤ 1000; decide⟩
    · exact ⟨Rd.of_block e4 rfl rfl, by show (1 : Nat) ≤ 1000; decide⟩
  have hC : BxAt W W.heap.size (some ⟨w8.heap.size + 1 + 1, 0, none⟩) 2 (lc w8.heap.size (w8.heap.size + 1)) := BxAt.of_block e2 rfl rfl (fun b hb => by
    simp only [lc, List.mem_cons, List.not_mem_nil, or_false] at hb
    rcases hb with rfl | rfl
    · exact Rd.of_block e0 rfl rfl
    · exact Rd.of_block e1 rfl rfl)
  have hCF := lc_few w8.heap.size (w8.heap.size + 1)
  replace hb := hb.trans (hal.mono hb.size)
  replace hA := hA.step hal
  replace hp1 := hp1.step hal
  replace hp2 := hp2.step hal
  clear hal e0 e1 e2 e3 e4 e5
  go_wp2_with fail
  change Calls _ _ _ (allocs w8 [(.cells #[.string ⟨#[122]⟩] 9), (.cells #[.string ⟨#[97]⟩] 9), (.cells #[.string ⟨#[120]⟩, .int .i64 2, .int .i64 0, .bool false, .bool false, .slice (some ⟨w8.heap.size, 0, none⟩) 1 1, .string ⟨#[121]⟩, .int .i64 2, .int .i64 0, .bool false, .bool false, .slice (some ⟨w8.heap.size + 1, 0, none⟩) 1 1] 45), (.cells #[.int .i64 0] 3), (.cells #[.int .i64 1] 3), (.cells #[.slice (some ⟨w8.heap.size + 1 + 1 + 1, 0, none⟩) 1 1, .slice (some ⟨w8.heap.size + 1 + 1 + 1 + 1, 0, none⟩) 1 1] 40)]) _
  rw [hW]
  refine (pages_any _ 2 2 [⟨[0], some ⟨w8.heap.size + 1 + 1 + 1, 0, none⟩, 1, 1⟩, ⟨[1], some ⟨w8.heap.size + 1 + 1 + 1 + 1, 0, none⟩, 1, 1⟩] W hLL (fun r hr => (hrs r hr).1) (by decide) (fun r hr => (hrs r hr).2)).mono ?_
  rintro e w9 ⟨A3, m3, c3, ps3, rfl, hp3, hd3, hn3, hb9⟩
  replace hd3 : ps3.map pgD = [([0], 2), ([1], 2)] := hd3
  have hl3 := congrArg List.length hd3
  rw [List.length_map] at hl3
  replace hb := hb.trans (hb9.mono hb.size)
  replace hA := hA.step hb9
  replace hC := hC.step hb9
  replace hp1 := hp1.step hb9
  replace hp2 := hp2.step hb9
  clear hb9 hLL hrs hW
  have hG9 := hG.below hb
  go_wp2_with fail
  refine (places_any _ A3 2 2 m3 c3 _ ps3 w9 hC hp3 (by decide) ⟨by rw [hl3]; decide, hn3⟩ hCF hG9).mono ?_
  rintro e w10 ⟨As, ms, cs, rfl, hs, hb10⟩
  rw [plP_data _ _ hd3, lc_P] at hs
  have hms : ms = 2 := by
    have h := hs.1
    have h : 4 = ms * 2 := h
    omega
  subst hms
  replace hb := hb.trans (hb10.mono hb.size)
  replace hA := hA.step hb10
  replace hp1 := hp1.step hb10
  replace hp2 := hp2.step hb10
  clear hb10 hC hp3 hd3 hn3 hl3 hCF hG9
  go_wp2_with fail
  refine (break_any _ 3 3 la 1 _ hA la_few).mono ?_
  rintro e w11 ⟨A4, m4, c4, ps4, rfl, hp4, hd4, hb11⟩
  rw [la_E1]
  have hS : AwS w w3.heap.size A1 m1 ps1 A2 m2 ps2 As w11 := ⟨hb.trans (hb11.mono hb.size), hA.step hb11, hp1.step hb11, hp2.step hb11, (hs.below hb11).more hb11.size⟩
  have hn1 := nb_small hp1 hd1 (k := 2) (by decide)
  have hn2 := nb_small hp2 hd2 (k := 2) (by decide)
  have hl1 := congrArg List.length hd1
  have hl2 := congrArg List.length hd2
  rw [List.length_map] at hl1 hl2
  clear hb11 hb hA hp1 hp2 hs hp4 hd4 hG
  have hal := allocs_below w11 [(.cells #[.int .i64 0, .int .i64 1] 3), (.cells #[.int .i64 2] 3), (.cells #[.slice (some ⟨w11.heap.size, 0, none⟩) 2 2, .slice (some ⟨w11.heap.size + 1, 0, none⟩) 1 1] 40)]
  have e0 : (allocs w11 [(.cells #[.int .i64 0, .int .i64 1] 3), (.cells #[.int .i64 2] 3), (.cells #[.slice (some ⟨w11.heap.size, 0, none⟩) 2 2, .slice (some ⟨w11.heap.size + 1, 0, none⟩) 1 1] 40)]).heap[w11.heap.size]? = some (.cells #[.int .i64 0, .int .i64 1] 3) := allocs_at w11 [(.cells #[.int .i64 0, .int .i64 1] 3), (.cells #[.int .i64 2] 3), (.cells #[.slice (some ⟨w11.heap.size, 0, none⟩) 2 2, .slice (some ⟨w11.heap.size + 1, 0, none⟩) 1 1] 40)] 0 _ rfl
  have e1 : (allocs w11 [(.cells #[.int .i64 0, .int .i64 1] 3), (.cells #[.int .i64 2] 3), (.cells #[.slice (some ⟨w11.heap.size, 0, none⟩) 2 2, .slice (some ⟨w11.heap.size + 1, 0, none⟩) 1 1] 40)]).heap[w11.heap.size + 1]? = some (.cells #[.int .i64 2] 3) := allocs_at w11 [(.cells #[.int .i64 0, .int .i64 1] 3), (.cells #[.int .i64 2] 3), (.cells #[.slice (some ⟨w11.heap.size, 0, none⟩) 2 2, .slice (some ⟨w11.heap.size + 1, 0, none⟩) 1 1] 40)] 1 _ rfl
  have e2 : (allocs w11 [(.cells #[.int .i64 0, .int .i64 1] 3), (.cells #[.int .i64 2] 3), (.cells #[.slice (some ⟨w11.heap.size, 0, none⟩) 2 2, .slice (some ⟨w11.heap.size + 1, 0, none⟩) 1 1] 40)]).heap[w11.heap.size + 1 + 1]? = some (.cells #[.slice (some ⟨w11.heap.size, 0, none⟩) 2 2, .slice (some ⟨w11.heap.size + 1, 0, none⟩) 1 1] 40) := allocs_at w11 [(.cells #[.int .i64 0, .int .i64 1] 3), (.cells #[.int .i64 2] 3), (.cells #[.slice (some ⟨w11.heap.size, 0, none⟩) 2 2, .slice (some ⟨w11.heap.size + 1, 0, none⟩) 1 1] 40)] 2 _ rfl
  generalize hW : allocs w11 [(.cells #[.int .i64 0, .int .i64 1] 3), (.cells #[.int .i64 2] 3), (.cells #[.slice (some ⟨w11.heap.size, 0, none⟩) 2 2, .slice (some ⟨w11.heap.size + 1, 0, none⟩) 1 1] 40)] = W at *
  have hLL : Rd W W.heap.size 1 (some ⟨w11.heap.size + 1 + 1, 0, none⟩) 2 (([⟨[0, 1], some ⟨w11.heap.size, 0, none⟩, 2, 2⟩, ⟨[2], some ⟨w11.heap.size + 1, 0, none⟩, 1, 1⟩] : List Rw).flatMap rwF) := Rd.of_block e2 rfl rfl
  have hrs : ∀ r ∈ ([⟨[0, 1], some ⟨w11.heap.size, 0, none⟩, 2, 2⟩, ⟨[2], some ⟨w11.heap.size + 1, 0, none⟩, 1, 1⟩] : List Rw), Rd W W.heap.size 1 r.A r.n (ints r.xs) ∧ r.n ≤ 1000 := fun r hr => by
    simp only [List.mem_cons, List.not_mem_nil, or_false] at hr
    rcases hr with rfl | rfl
    · exact ⟨Rd.of_block e0 rfl rfl, by show (2 : Nat) ≤ 1000; decide⟩
    · exact ⟨Rd.of_block e1 rfl rfl, by show (1 : Nat) ≤ 1000; decide⟩
  replace hS := hS.step hal
  clear hal e0 e1 e2
  go_wp2_with fail
  change Calls _ _ _ (allocs w11 [(.cells #[.int .i64 0, .int .i64 1] 3), (.cells #[.int .i64 2] 3), (.cells #[.slice (some ⟨w11.heap.size, 0, none⟩) 2 2, .slice (some ⟨w11.heap.size + 1, 0, none⟩) 1 1] 40)]) _
  rw [hW]
  refine (pages_any _ 2 2 [⟨[0, 1], some ⟨w11.heap.size, 0, none⟩, 2, 2⟩, ⟨[2], some ⟨w11.heap.size + 1, 0, none⟩, 1, 1⟩] W hLL (fun r hr => (hrs r hr).1) (by decide) (fun r hr => (hrs r hr).2)).mono ?_
  rintro e w12 ⟨A5, m5, c5, ps5, rfl, hp5, hd5, hn5, hb5⟩
  replace hd5 : ps5.map pgD = [([0, 1], 4), ([2], 2)] := hd5
  have hl5 := congrArg List.length hd5
  rw [List.length_map] at hl5
  replace hS := hS.step hb5
  clear hb5 hLL hrs hW
  have hm5 := hp5.len
  have hm6 := hS.p1.len
  have hq : decide (ps1.map pgD = ps5.map pgD) = true := decide_eq_true (by rw [hd1, hd5])
  have HSM := Lib.hid (rsame_any A1 A5 m1 c1 m5 c5 ps1 ps5 w12 hS.p1 hp5 (by rw [← hm6, hl1]; decide) (by rw [← hm5, hl5]; decide) (fun x hx => by have := hn1 x hx; omega))
  rw [hq] at HSM
  clear hq hm5 hm6 hp5 hd5 hn5 hl5
  go_wp2_with fail
  refine HSM.out.mono ?_
  rintro e w13 ⟨rfl, hb6⟩
  replace hS := hS.step hb6
  clear hb6 HSM
  have hal := allocs_below w13 [(.cells #[.int .i64 0] 3), (.cells #[.int .i64 1, .int .i64 2] 3), (.cells #[.slice (some ⟨w13.heap.size, 0, none⟩) 1 1, .slice (some ⟨w13.heap.size + 1, 0, none⟩) 2 2] 40)]
  have e0 : (allocs w13 [(.cells #[.int .i64 0] 3), (.cells #[.int .i64 1, .int .i64 2] 3), (.cells #[.slice (some ⟨w13.heap.size, 0, none⟩) 1 1, .slice (some ⟨w13.heap.size + 1, 0, none⟩) 2 2] 40)]).heap[w13.heap.size]? = some (.cells #[.int .i64 0] 3) := allocs_at w13 [(.cells #[.int .i64 0] 3), (.cells #[.int .i64 1, .int .i64 2] 3), (.cells #[.slice (some ⟨w13.heap.size, 0, none⟩) 1 1, .slice (some ⟨w13.heap.size + 1, 0, none⟩) 2 2] 40)] 0 _ rfl
  have e1 : (allocs w13 [(.cells #[.int .i64 0] 3), (.cells #[.int .i64 1, .int .i64 2] 3), (.cells #[.slice (some ⟨w13.heap.size, 0, none⟩) 1 1, .slice (some ⟨w13.heap.size + 1, 0, none⟩) 2 2] 40)]).heap[w13.heap.size + 1]? = some (.cells #[.int .i64 1, .int .i64 2] 3) := allocs_at w13 [(.cells #[.int .i64 0] 3), (.cells #[.int .i64 1, .int .i64 2] 3), (.cells #[.slice (some ⟨w13.heap.size, 0, none⟩) 1 1, .slice (some ⟨w13.heap.size + 1, 0, none⟩) 2 2] 40)] 1 _ rfl
  have e2 : (allocs w13 [(.cells #[.int .i64 0] 3), (.cells #[.int .i64 1, .int .i64 2] 3), (.cells #[.slice (some ⟨w13.heap.size, 0, none⟩) 1 1, .slice (some ⟨w13.heap.size + 1, 0, none⟩) 2 2] 40)]).heap[w13.heap.size + 1 + 1]? = some (.cells #[.slice (some ⟨w13.heap.size, 0, none⟩) 1 1, .slice (some ⟨w13.heap.size + 1, 0, none⟩) 2 2] 40) := allocs_at w13 [(.cells #[.int .i64 0] 3), (.cells #[.int .i64 1, .int .i64 2] 3), (.cells #[.slice (some ⟨w13.heap.size, 0, none⟩) 1 1, .slice (some ⟨w13.heap.size + 1, 0, none⟩) 2 2] 40)] 2 _ rfl
  generalize hW : allocs w13 [(.cells #[.int .i64 0] 3), (.cells #[.int .i64 1, .int .i64 2] 3), (.cells #[.slice (some ⟨w13.heap.size, 0, none⟩) 1 1, .slice (some ⟨w13.heap.size + 1, 0, none⟩) 2 2] 40)] = W at *
  have hLL : Rd W W.heap.size 1 (some ⟨w13.heap.size + 1 + 1, 0, none⟩) 2 (([⟨[0], some ⟨w13.heap.size, 0, none⟩, 1, 1⟩, ⟨[1, 2], some ⟨w13.heap.size + 1, 0, none⟩, 2, 2⟩] : List Rw).flatMap rwF) := Rd.of_block e2 rfl rfl
  have hrs : ∀ r ∈ ([⟨[0], some ⟨w13.heap.size, 0, none⟩, 1, 1⟩, ⟨[1, 2], some ⟨w13.heap.size + 1, 0, none⟩, 2, 2⟩] : List Rw), Rd W W.heap.size 1 r.A r.n (ints r.xs) ∧ r.n ≤ 1000 := fun r hr => by
    simp only [List.mem_cons, List.not_mem_nil, or_false] at hr
    rcases hr with rfl | rfl
    · exact ⟨Rd.of_block e0 rfl rfl, by show (1 : Nat) ≤ 1000; decide⟩
    · exact ⟨Rd.of_block e1 rfl rfl, by show (2 : Nat) ≤ 1000; decide⟩
  replace hS := hS.step hal
  clear hal e0 e1 e2
  go_wp2_with fail
  change Calls _ _ _ (allocs w13 [(.cells #[.int .i64 0] 3), (.cells #[.int .i64 1, .int .i64 2] 3), (.cells #[.slice (some ⟨w13.heap.size, 0, none⟩) 1 1, .slice (some ⟨w13.heap.size + 1, 0, none⟩) 2 2] 40)]) _
  rw [hW]
  refine (pages_any _ 2 2 [⟨[0], some ⟨w13.heap.size, 0, none⟩, 1, 1⟩, ⟨[1, 2], some ⟨w13.heap.size + 1, 0, none⟩, 2, 2⟩] W hLL (fun r hr => (hrs r hr).1) (by decide) (fun r hr => (hrs r hr).2)).mono ?_
  rintro e w14 ⟨A5, m5, c5, ps5, rfl, hp5, hd5, hn5, hb5⟩
  replace hd5 : ps5.map pgD = [([0], 2), ([1, 2], 4)] := hd5
  have hl5 := congrArg List.length hd5
  rw [List.length_map] at hl5
  replace hS := hS.step hb5
  clear hb5 hLL hrs hW
  have hm5 := hp5.len
  have hm6 := hS.p2.len
  have hq : decide (ps2.map pgD = ps5.map pgD) = true := decide_eq_true (by rw [hd2, hd5])
  have HSM := Lib.hid (rsame_any A2 A5 m2 c2 m5 c5 ps2 ps5 w14 hS.p2 hp5 (by rw [← hm6, hl2]; decide) (by rw [← hm5, hl5]; decide) (fun x hx => by have := hn2 x hx; omega))
  rw [hq] at HSM
  clear hq hm5 hm6 hp5 hd5 hn5 hl5
  go_wp2_with fail
  refine HSM.out.mono ?_
  rintro e w15 ⟨rfl, hb6⟩
  replace hS := hS.step hb6
  clear hb6 HSM
  obtain ⟨gs, os, hAs, hgs, hcs⟩ := hS.s.elem prF 2 prF_len (by omega) (show ([([122], [49]), ([97], [50])] : List KV)[1]? = some ([97], [50]) from rfl)
  subst hAs
  have s0 : w15.cell? ⟨gs, os + 2, none⟩ = some (.string ⟨#[97]⟩) := hcs 0 _ rfl
  have s1 : w15.cell? ⟨gs, os + 2 + 1, none⟩ = some (.string ⟨#[50]⟩) := hcs 1 _ rfl
  have heq : ∀ W, (binOp .eql 37 (.agg #[.string ⟨#[97]⟩, .string ⟨#[50]⟩]) (.agg #[.string ⟨#[97]⟩, .string ⟨#[50]⟩])).run Tryd.prog W = .ok (.bool true) W := fun W => (pair_eqlP ([97], [50]) ([97], [50]) W).trans (by rw [show prE ([97], [50]) ([97], [50]) = true from by decide])
  clear hcs
  have hA1 := hS.a.take (k := 1) (by decide)
  go_wp2_with fail
  refine (pcheck_any _ none 1 3 0 0 (la.take 1) [] 5 w15 hA1 ⟨Rd.nil, fun _ h => by cases h⟩ (by decide) ⟨by decide, fun _ h => by cases h⟩).mono ?_
  rintro e w16 ⟨rfl, hb16⟩
  rw [show B (chkS 1 (la.take 1) 5 []) = ⟨#[109, 105, 115, 115, 105, 110, 103]⟩ from by rw [la_M]; rfl]
  replace hS := hS.step hb16
  clear hb16 hA1 s0 s1 heq
  have hPB : PgB ps1 := ⟨by rw [hl1]; decide, fun p hp => by have := hn1 p hp; omega⟩
  go_wp2_with fail
  refine (pcheck_any _ A1 3 3 m1 c1 la ps1 5 w16 hS.a hS.p1 (by decide) hPB).mono ?_
  rintro e w17 ⟨rfl, hb17⟩
  rw [show B (chkS 3 la 5 ps1) = ⟨#[]⟩ from by rw [chk_data _ _ _ _ hd1, la_C]; rfl]
  have hbz := hS.b.trans (hb17.mono hS.b.size)
  clear hS hb17
  go_wp2
  go_ret
  exact ⟨rfl, hbz⟩
end Go.Proofs.YtpgpkgpiengmkaaDoor
