/-
  Layer 49 (project): the error of a project: the program's.
-/
import Derived.Test.YtmkenekngaihhaaGreatDoorPjE
import Derived.Deep.RegionHeld3
namespace Go.Proofs.YtmkenekngaihhaaGreatDoor
open Go.RowKit
set_option linter.unusedVariables false
set_option linter.unusedSimpArgs false
attribute [local go_sem] B_data B_size

theorem contains_lang (x : List UInt8) (V : World) (q : Nat) (h : V.heap[q]? = some (.cells langC 9 (0, 0))) :
    Calls Tryz.prog 18 #[.slice (some ⟨q, 0, none⟩) 4 4, .string (B x)] V fun e w' => e = .returned (.bool (langB x)) ∧ V = w' := by
  refine (Tryz.slices_Contains_string q 0 4 4 (langL.map B) (B x) V (by decide) (by decide) (fun j hj => ?_)).mono fun e w' ⟨h1, h2⟩ => ⟨?_, h2.symm⟩
  · rw [Nat.zero_add, cell_of_row V q j langC 9 (0, 0) h]
    have : j = 0 ∨ j = 1 ∨ j = 2 ∨ j = 3 := by simp [langL] at hj; omega
    rcases this with rfl | rfl | rfl | rfl <;> rfl
  · rw [h1]
    congr 2
    have e4 : (langL.map B).take 4 = langL.map B := rfl
    rw [e4, Bool.eq_iff_iff, Lib.containsS_iff, List.mem_map]
    unfold langB langL
    simp only [Bool.or_eq_true, beq_iff_eq]
    constructor
    · rintro ⟨a, ha, hb⟩
      have := B_inj hb
      subst this
      simp only [List.mem_cons, List.not_mem_nil, or_false] at ha
      rcases ha with h | h | h | h <;> simp [h]
    · intro h
      refine ⟨x, ?_, rfl⟩
      rcases h with ((h | h) | h) | h <;> simp [h]
/-- what is known while the lists are checked: seen is the map at b -/
structure CSt (w : World) (p : Pj) (c : PC) (b : Nat) (wr : World) : Prop where
  bx : Bx8 wr w.heap.size p c
  bw : Below w.heap.size w wr
  lt : w.heap.size < b
theorem CSt.grown {w : World} {p : Pj} {c : PC} {b : Nat} {wr w' : World} (h : CSt w p c b wr) (hg : wr.grownBy w' (some b)) : CSt w p c b w' :=
  ⟨h.bx.grown hg (by have := h.lt; omega), h.bw.grown hg h.bw.size (fun k hk => by injection hk with hk; have := h.lt; omega), h.lt⟩
theorem CSt.alloc {w : World} {p : Pj} {c : PC} {b : Nat} {wr : World} (h : CSt w p c b wr) (o : Obj) : CSt w p c b (wr.alloc o) := ⟨h.bx.alloc o, h.bw.alloc h.bw.size o, h.lt⟩
theorem run_mkN (w : World) : (Instr.makeMap 44 none).run Tryz.prog w = .ok (.map (some w.heap.size)) (w.alloc (.map #[] 0)) := rfl

set_option maxHeartbeats 16000000 in
set_option maxRecDepth 100000 in
theorem check_any (p : Pj) (c : PC) (w : World) (hs : PjSm p) (hp : PjAt w w.heap.size p c) (hG : Fil.Glob w) :
    Calls Tryz.prog 9 #[.agg #[.string (B p.ti), .string (B p.la), .string (B p.ma), .string (B p.so), .string (B p.st), .slice c.A c.na c.ca, .slice c.F c.nf c.cf, .slice c.T c.nt c.ct]] w (IPost (checkE pkG p) w) := by
  have n1 := hp.vs.count prF 2 prF_len (by omega)
  have n2 := hp.fs.strs_length
  have n3 := hp.ts.count tgF 4 tgF_len (by omega)
  have n4 := hs.nv
  have n5 := hs.nf
  have n6 := hs.nt
  rw [n1] at n4
  rw [n2] at n5
  rw [n3] at n6
  clear n1 n2
  have NT := Lib.hid n3
  clear n3
  have hbx := Bx8.new w p c
  have hbw := below_alloc w (.cells #[.string (B p.ti), .string (B p.la), .string (B p.ma), .string (B p.so), .string (B p.st), .slice c.A c.na c.ca, .slice c.F c.nf c.cf, .slice c.T c.nt c.ct] 26)
  have s0 := hs.ti
  have s2 := hs.ma
  have s3 := hs.so
  have s4 := hs.st
  have hmk := run_mkN
  go_enter Tryz.func9, Tryz.ntmps9
  go_wp2_with fail
  refine (trimmed_any (B p.ti) _ (by rw [B_size]; omega)).mono ?_
  rintro e w1 ⟨rfl, hq⟩
  rw [B_data]
  have hbn := below_of_quiet hq
  have hbx := hbx.below hbn hbx.lt
  have hbw := hbw.trans (hbn.mono hbw.size)
  clear hbn hq
  cases h1 : trimB p.ti
  · have HX : Hid (checkE pkG p = 17) := by
      have h := head17 h1
      show _ = _
      rw [chk_head (by rw [h]; decide), h]
    go_wp2
    go_ret
    exact ⟨ret_int HX.out.symm, hbw⟩
  have l1 := hbx.c1
  have hl1 : w.heap.size < w1.heap.size := hbx.lt
  have HC := Lib.hid (fun (V : World) (h : V.heap = (w1.alloc (.cells langC 9)).heap) => contains_lang p.la V w1.heap.size (by rw [h]; exact heap_alloc_new w1 _))
  go_wp2
  go_region_held3 (fun w' => w'.cell? ⟨w.heap.size, 1, none⟩ = some (.string (B p.la)))
    (first | exact l1 | (exact (hbx.alloc _).c1))
    (first
      | (go_at_call 19; refine (langs_any _).mono ?_; rintro e w2 ⟨rfl, rfl⟩)
      | (go_at_call 18; refine (HC.out (w1.alloc (.cells langC 9)).drew rfl).mono ?_; rintro e w2 ⟨rfl, rfl⟩))
  have hbx : Bx8 (w1.alloc (.cells langC 9)).drew w.heap.size p c := hbx.alloc _
  have hbw : Below w.heap.size w (w1.alloc (.cells langC 9)).drew := (hbw.alloc hbw.size _).drew
  generalize (w1.alloc (.cells langC 9)).drew = w3 at *
  have l2 := hbx.c2
  have l3 := hbx.c3
  have l4 := hbx.c4
  clear HC l1 hl1
  cases hl : langB p.la
  · have HX : Hid (checkE pkG p = 6) := by
      have h := head6 h1 (.inl hl)
      rw [chk_head (by rw [h]; decide)]; exact h
    go_wp2
    go_ret
    exact ⟨ret_int HX.out.symm, hbw⟩
  · go_wp2_with fail
    refine (path_any (B p.ma) _ (by rw [B_size]; omega) (hG.below hbw (Nat.le_refl _))).mono ?_
    rintro e w4 ⟨rfl, hbn⟩
    rw [B_data]
    have hbx := hbx.below hbn hbx.lt
    have hbw := hbw.trans (hbn.mono hbw.size)
    have l2 := hbx.c2
    have l3 := hbx.c3
    have l4 := hbx.c4
    clear hbn
    cases hma : pathB p.ma
    · have HX : Hid (headE pkG p = 6) := head6 h1 (.inr (.inl hma))
      have HX : Hid (checkE pkG p = 6) := by rw [chk_head (by rw [HX.out]; decide)]; exact HX
      go_wp2
      go_ret
      exact ⟨ret_int HX.out.symm, hbw⟩
    · by_cases hso0 : p.so = []
      · have e3 : (p.so == []) = true := by simp [hso0]
        have e3n : (p.so != []) = false := by simp [hso0]
        have hso' : p.so = [] ∨ pathB p.so = true := .inl hso0
        clear hso0
        by_cases hst0 : p.st = []
        · have e4 : (p.st == []) = true := by simp [hst0]
          have e4n : (p.st != []) = false := by simp [hst0]
          have HX : Hid (headE pkG p = 0) := head0 h1 hl hma hso' (.inl hst0)
          clear hst0
          have hle := hbw.size
          have hlt0 := hbx.lt
          have hC : CSt w p c w4.heap.size (w4.alloc (.map #[] 0)) := ⟨hbx.alloc _, hbw.alloc hbw.size _, hlt0⟩
          have l5 := hC.bx.c5
          have hHX := HX
          have CV := Lib.hid (checkVars_any c.A c.na c.ca w4.heap.size w.heap.size p.vs (w4.alloc (.map #[] 0)) (hp.vs.below hC.bw) hle hC.bw.size (NMap.made w4) (by omega) hs.vs)
          clear hbx hbw
          go_wp2_with fail
          refine CV.out.mono ?_
          rintro e wv ⟨rfl, ⟨ks1, hn1⟩, hg1⟩
          have hC1 := hC.grown hg1
          have l6 := hC1.bx.c6
          clear hg1 l2 l3 l4 l5 hC CV
          by_cases h2 : varsT pkG p.vs = 0
          · rw [h2]
            go_wp2_with fail
            refine (forget_any _ ks1 _ hn1).mono ?_
            rintro e wf ⟨rfl, hn2, hg2⟩
            have hC2 := hC1.grown hg2
            have l6 := hC2.bx.c6
            clear hg2 hn1
            go_wp2_with fail
            refine (checkFlags_any c.F c.nf c.cf _ w.heap.size p.fs _ (hp.fs.below hC2.bw) hle hC2.bw.size hn2 (by omega) hs.fs).mono ?_
            rintro e wg ⟨rfl, ⟨ks3, hn3⟩, hg3⟩
            have hC3 := hC2.grown hg3
            clear hg3 hn2 l6
            by_cases h3 : flagsT pkG p.fs = 0
            · rw [h3]
              have HT := Lib.hid (chk_targets hHX.out h2 h3)
              clear h2 h3
              go_wp2_with fail
              refine (forget_any _ ks3 _ hn3).mono ?_
              rintro e wh ⟨rfl, hn4, hg4⟩
              have hC4 := hC3.grown hg4
              have l7 := hC4.bx.c7
              clear hg4 hn3
              by_cases h8 : 8 < c.nt
              · have HX : Hid (checkE pkG p = 3) := by rw [HT.out]; exact targetsT_long (by rw [NT.out]; exact h8)
                go_wp2
                go_ret
                exact ⟨ret_int HX.out.symm, hC4.bw⟩
              by_cases h00 : c.nt = 0
              · have HX : Hid (checkE pkG p = 8) := by
                  have : p.ts = [] := List.eq_nil_of_length_eq_zero (by rw [NT.out]; exact h00)
                  rw [HT.out, this]; exact targetsT_nil
                have q0 : ((c.nt : Int) == 0) = true := by simp [h00]
                clear h00
                go_wp2
                go_ret
                exact ⟨ret_int HX.out.symm, hC4.bw⟩
              have HV : Hid (checkE pkG p = targetsE pkG [] p.ts) := by rw [HT.out]; exact targetsT_ok (by rw [NT.out]; exact h8) (by intro e; have := NT.out; rw [e] at this; exact h00 this.symm)
              have q0 : ((c.nt : Int) == 0) = false := by simpa using h00
              clear h00
              go_wp2
              clear q0 l7
              have hpts := hp.ts
              generalize c.T = T0 at hpts ⊢
              go_loopw [74] (fun i wr => ∃ (j : Nat), j ≤ c.nt ∧ i = .int .i64 j ∧ Hid (NMap wr w4.heap.size ((p.ts.take j).map (·.nm))) ∧ Hid (CSt w p c w4.heap.size wr) ∧ Hid (checkE pkG p = targetsE pkG ((p.ts.take j).map (·.nm)) (p.ts.drop j))) (fun i _ => c.nt - (intOf i).toNat)
              case atStart => exact ⟨0, Nat.zero_le _, rfl, hn4, hC4, HV⟩
              case round =>
                clear hC1 hC2 hC3 hC4 hn4
                obtain ⟨j, hj, rfl, hnm, hcs, hr⟩ := hrel
                by_cases hlt : j < c.nt
                · obtain ⟨t, ht⟩ := get_of (l := p.ts) (k := j) (by rw [NT.out]; exact hlt)
                  obtain ⟨b2, o, rfl, hbm, hcell⟩ := (hpts.below hcs.out.bw).elem tgF 4 tgF_len (by omega) ht
                  have HD := Lib.hid (drop_get ht)
                  have HTK := Lib.hid (take_nms ht)
                  obtain ⟨hp1, hp2⟩ := hs.ts t (List.mem_of_getElem? ht)
                  have d0 : wr.cell? ⟨b2, o + j * 4, none⟩ = some (.string (B t.nm)) := hcell 0 _ rfl
                  have d1 : wr.cell? ⟨b2, o + j * 4 + 1, none⟩ = some (.string (B t.kd)) := hcell 1 _ rfl
                  have d2 : wr.cell? ⟨b2, o + j * 4 + 2, none⟩ = some (.int .i64 t.pg) := hcell 2 _ rfl
                  have d3 : wr.cell? ⟨b2, o + j * 4 + 3, none⟩ = some (.int .i64 t.wd) := hcell 3 _ rfl
                  have HE : Hid (checkE pkG p = if (nm3 t.nm && decide (58 ∉ t.nm)) = false then 6 else if t.nm ∈ (p.ts.take j).map (·.nm) then 7 else if kindE t ≠ 0 then kindE t else targetsE pkG ((p.ts.take (j + 1)).map (·.nm)) (p.ts.drop (j + 1))) := by rw [hr.out, HD.out, targetsE, HTK.out]; rfl
                  clear hcell hr HD
                  have CT := Lib.hid (checkTarget_any t w4.heap.size _ (wr.alloc (.cells #[.string (B t.nm), .string (B t.kd), .int .i64 t.pg, .int .i64 t.wd] 38)) (hnm.out.alloc _) hp1 hp2)
                  go_wp2_with fail
                  refine CT.out.mono ?_
                  rintro e w9 ⟨r, rfl, hif, hg⟩
                  have hC9 := Lib.hid ((hcs.out.alloc _).grown hg)
                  have key : (r ≠ 0 ∧ checkE pkG p = r) ∨ (r = 0 ∧ NMap w9 w4.heap.size ((p.ts.take (j + 1)).map (·.nm)) ∧ checkE pkG p = targetsE pkG ((p.ts.take (j + 1)).map (·.nm)) (p.ts.drop (j + 1))) := by
                    have he := HE.out
                    by_cases ha : (nm3 t.nm && decide (58 ∉ t.nm)) = false
                    · rw [if_pos ha] at hif he
                      exact .inl ⟨by rw [hif.1]; decide, by rw [he, hif.1]⟩
                    · rw [if_neg ha] at hif he
                      by_cases hb : t.nm ∈ (p.ts.take j).map (·.nm)
                      · rw [if_pos hb] at hif he
                        exact .inl ⟨by rw [hif.1]; decide, by rw [he, hif.1]⟩
                      · rw [if_neg hb] at hif he
                        by_cases hk : kindE t = 0
                        · rw [if_neg (by simpa using hk)] at he
                          exact .inr ⟨hif.1.trans hk, by rw [HTK.out]; exact hif.2, he⟩
                        · rw [if_pos hk] at he
                          exact .inl ⟨by rw [hif.1]; exact hk, by rw [he, hif.1]⟩
                  clear hif HE hg CT d0 d1 d2 d3 HTK
                  rcases key with ⟨hr0, he⟩ | ⟨rfl, hn9, he⟩
                  · have z1 : (r != 0) = true := by simpa using hr0
                    have HX := Lib.hid he
                    clear hr0 he
                    go_wp2
                    go_ret
                    exact ⟨ret_int HX.out.symm, hC9.out.bw⟩
                  · have HX := Lib.hid he
                    have HN := Lib.hid hn9
                    clear he hn9
                    go_wp2
                    go_roundw
                    case rel => exact ⟨j + 1, by omega, by go_num, HN, hC9, HX⟩
                    case measure => simp [intOf]; omega
                · have HX : Hid (checkE pkG p = 0) := by rw [hr.out, List.drop_of_length_le (by rw [NT.out]; omega)]; rfl
                  go_wp2
                  go_ret
                  exact ⟨ret_int HX.out.symm, hcs.out.bw⟩
            · have HX := Lib.hid (chk_flags hHX.out h2 h3)
              have z1 : (flagsT pkG p.fs != 0) = true := by simpa using h3
              clear h2 h3
              go_wp2
              go_ret
              exact ⟨ret_int HX.out.symm, hC3.bw⟩
          · have HX := Lib.hid (chk_vars hHX.out h2)
            have z1 : (varsT pkG p.vs != 0) = true := by simpa using h2
            clear h2
            go_wp2
            go_ret
            exact ⟨ret_int HX.out.symm, hC1.bw⟩
        · have e4 : (p.st == []) = false := by simpa using hst0
          have e4n : (p.st != []) = true := by simpa using hst0
          go_wp2_with fail
          refine (path_any (B p.st) _ (by rw [B_size]; omega) (hG.below hbw (Nat.le_refl _))).mono ?_
          rintro e w6 ⟨rfl, hbn⟩
          rw [B_data]
          have hbx := hbx.below hbn hbx.lt
          have hbw := hbw.trans (hbn.mono hbw.size)
          have l2 := hbx.c2
          have l3 := hbx.c3
          have l4 := hbx.c4
          clear hbn
          cases hst : pathB p.st
          · have HX : Hid (headE pkG p = 6) := head6 h1 (.inr (.inr (.inr ⟨hst0, hst⟩)))
            have HX : Hid (checkE pkG p = 6) := by rw [chk_head (by rw [HX.out]; decide)]; exact HX
            go_wp2
            go_ret
            exact ⟨ret_int HX.out.symm, hbw⟩
          · have HX : Hid (headE pkG p = 0) := head0 h1 hl hma hso' (.inr hst)
            have hle := hbw.size
            have hlt0 := hbx.lt
            have hC : CSt w p c w6.heap.size (w6.alloc (.map #[] 0)) := ⟨hbx.alloc _, hbw.alloc hbw.size _, hlt0⟩
            have l5 := hC.bx.c5
            have hHX := HX
            have CV := Lib.hid (checkVars_any c.A c.na c.ca w6.heap.size w.heap.size p.vs (w6.alloc (.map #[] 0)) (hp.vs.below hC.bw) hle hC.bw.size (NMap.made w6) (by omega) hs.vs)
            clear hbx hbw
            go_wp2_with fail
            refine CV.out.mono ?_
            rintro e wv ⟨rfl, ⟨ks1, hn1⟩, hg1⟩
            have hC1 := hC.grown hg1
            have l6 := hC1.bx.c6
            clear hg1 l2 l3 l4 l5 hC CV
            by_cases h2 : varsT pkG p.vs = 0
            · rw [h2]
              go_wp2_with fail
              refine (forget_any _ ks1 _ hn1).mono ?_
              rintro e wf ⟨rfl, hn2, hg2⟩
              have hC2 := hC1.grown hg2
              have l6 := hC2.bx.c6
              clear hg2 hn1
              go_wp2_with fail
              refine (checkFlags_any c.F c.nf c.cf _ w.heap.size p.fs _ (hp.fs.below hC2.bw) hle hC2.bw.size hn2 (by omega) hs.fs).mono ?_
              rintro e wg ⟨rfl, ⟨ks3, hn3⟩, hg3⟩
              have hC3 := hC2.grown hg3
              clear hg3 hn2 l6
              by_cases h3 : flagsT pkG p.fs = 0
              · rw [h3]
                have HT := Lib.hid (chk_targets hHX.out h2 h3)
                clear h2 h3
                go_wp2_with fail
                refine (forget_any _ ks3 _ hn3).mono ?_
                rintro e wh ⟨rfl, hn4, hg4⟩
                have hC4 := hC3.grown hg4
                have l7 := hC4.bx.c7
                clear hg4 hn3
                by_cases h8 : 8 < c.nt
                · have HX : Hid (checkE pkG p = 3) := by rw [HT.out]; exact targetsT_long (by rw [NT.out]; exact h8)
                  go_wp2
                  go_ret
                  exact ⟨ret_int HX.out.symm, hC4.bw⟩
                by_cases h00 : c.nt = 0
                · have HX : Hid (checkE pkG p = 8) := by
                    have : p.ts = [] := List.eq_nil_of_length_eq_zero (by rw [NT.out]; exact h00)
                    rw [HT.out, this]; exact targetsT_nil
                  have q0 : ((c.nt : Int) == 0) = true := by simp [h00]
                  clear h00
                  go_wp2
                  go_ret
                  exact ⟨ret_int HX.out.symm, hC4.bw⟩
                have HV : Hid (checkE pkG p = targetsE pkG [] p.ts) := by rw [HT.out]; exact targetsT_ok (by rw [NT.out]; exact h8) (by intro e; have := NT.out; rw [e] at this; exact h00 this.symm)
                have q0 : ((c.nt : Int) == 0) = false := by simpa using h00
                clear h00
                go_wp2
                clear q0 l7
                have hpts := hp.ts
                generalize c.T = T0 at hpts ⊢
                go_loopw [74] (fun i wr => ∃ (j : Nat), j ≤ c.nt ∧ i = .int .i64 j ∧ Hid (NMap wr w6.heap.size ((p.ts.take j).map (·.nm))) ∧ Hid (CSt w p c w6.heap.size wr) ∧ Hid (checkE pkG p = targetsE pkG ((p.ts.take j).map (·.nm)) (p.ts.drop j))) (fun i _ => c.nt - (intOf i).toNat)
                case atStart => exact ⟨0, Nat.zero_le _, rfl, hn4, hC4, HV⟩
                case round =>
                  clear hC1 hC2 hC3 hC4 hn4
                  obtain ⟨j, hj, rfl, hnm, hcs, hr⟩ := hrel
                  by_cases hlt : j < c.nt
                  · obtain ⟨t, ht⟩ := get_of (l := p.ts) (k := j) (by rw [NT.out]; exact hlt)
                    obtain ⟨b2, o, rfl, hbm, hcell⟩ := (hpts.below hcs.out.bw).elem tgF 4 tgF_len (by omega) ht
                    have HD := Lib.hid (drop_get ht)
                    have HTK := Lib.hid (take_nms ht)
                    obtain ⟨hp1, hp2⟩ := hs.ts t (List.mem_of_getElem? ht)
                    have d0 : wr.cell? ⟨b2, o + j * 4, none⟩ = some (.string (B t.nm)) := hcell 0 _ rfl
                    have d1 : wr.cell? ⟨b2, o + j * 4 + 1, none⟩ = some (.string (B t.kd)) := hcell 1 _ rfl
                    have d2 : wr.cell? ⟨b2, o + j * 4 + 2, none⟩ = some (.int .i64 t.pg) := hcell 2 _ rfl
                    have d3 : wr.cell? ⟨b2, o + j * 4 + 3, none⟩ = some (.int .i64 t.wd) := hcell 3 _ rfl
                    have HE : Hid (checkE pkG p = if (nm3 t.nm && decide (58 ∉ t.nm)) = false then 6 else if t.nm ∈ (p.ts.take j).map (·.nm) then 7 else if kindE t ≠ 0 then kindE t else targetsE pkG ((p.ts.take (j + 1)).map (·.nm)) (p.ts.drop (j + 1))) := by rw [hr.out, HD.out, targetsE, HTK.out]; rfl
                    clear hcell hr HD
                    have CT := Lib.hid (checkTarget_any t w6.heap.size _ (wr.alloc (.cells #[.string (B t.nm), .string (B t.kd), .int .i64 t.pg, .int .i64 t.wd] 38)) (hnm.out.alloc _) hp1 hp2)
                    go_wp2_with fail
                    refine CT.out.mono ?_
                    rintro e w9 ⟨r, rfl, hif, hg⟩
                    have hC9 := Lib.hid ((hcs.out.alloc _).grown hg)
                    have key : (r ≠ 0 ∧ checkE pkG p = r) ∨ (r = 0 ∧ NMap w9 w6.heap.size ((p.ts.take (j + 1)).map (·.nm)) ∧ checkE pkG p = targetsE pkG ((p.ts.take (j + 1)).map (·.nm)) (p.ts.drop (j + 1))) := by
                      have he := HE.out
                      by_cases ha : (nm3 t.nm && decide (58 ∉ t.nm)) = false
                      · rw [if_pos ha] at hif he
                        exact .inl ⟨by rw [hif.1]; decide, by rw [he, hif.1]⟩
                      · rw [if_neg ha] at hif he
                        by_cases hb : t.nm ∈ (p.ts.take j).map (·.nm)
                        · rw [if_pos hb] at hif he
                          exact .inl ⟨by rw [hif.1]; decide, by rw [he, hif.1]⟩
                        · rw [if_neg hb] at hif he
                          by_cases hk : kindE t = 0
                          · rw [if_neg (by simpa using hk)] at he
                            exact .inr ⟨hif.1.trans hk, by rw [HTK.out]; exact hif.2, he⟩
                          · rw [if_pos hk] at he
                            exact .inl ⟨by rw [hif.1]; exact hk, by rw [he, hif.1]⟩
                    clear hif HE hg CT d0 d1 d2 d3 HTK
                    rcases key with ⟨hr0, he⟩ | ⟨rfl, hn9, he⟩
                    · have z1 : (r != 0) = true := by simpa using hr0
                      have HX := Lib.hid he
                      clear hr0 he
                      go_wp2
                      go_ret
                      exact ⟨ret_int HX.out.symm, hC9.out.bw⟩
                    · have HX := Lib.hid he
                      have HN := Lib.hid hn9
                      clear he hn9
                      go_wp2
                      go_roundw
                      case rel => exact ⟨j + 1, by omega, by go_num, HN, hC9, HX⟩
                      case measure => simp [intOf]; omega
                  · have HX : Hid (checkE pkG p = 0) := by rw [hr.out, List.drop_of_length_le (by rw [NT.out]; omega)]; rfl
                    go_wp2
                    go_ret
                    exact ⟨ret_int HX.out.symm, hcs.out.bw⟩
              · have HX := Lib.hid (chk_flags hHX.out h2 h3)
                have z1 : (flagsT pkG p.fs != 0) = true := by simpa using h3
                clear h2 h3
                go_wp2
                go_ret
                exact ⟨ret_int HX.out.symm, hC3.bw⟩
            · have HX := Lib.hid (chk_vars hHX.out h2)
              have z1 : (varsT pkG p.vs != 0) = true := by simpa using h2
              clear h2
              go_wp2
              go_ret
              exact ⟨ret_int HX.out.symm, hC1.bw⟩
      · have e3 : (p.so == []) = false := by simpa using hso0
        have e3n : (p.so != []) = true := by simpa using hso0
        go_wp2_with fail
        refine (path_any (B p.so) _ (by rw [B_size]; omega) (hG.below hbw (Nat.le_refl _))).mono ?_
        rintro e w5 ⟨rfl, hbn⟩
        rw [B_data]
        have hbx := hbx.below hbn hbx.lt
        have hbw := hbw.trans (hbn.mono hbw.size)
        have l2 := hbx.c2
        have l3 := hbx.c3
        have l4 := hbx.c4
        clear hbn
        cases hso : pathB p.so
        · have HX : Hid (headE pkG p = 6) := head6 h1 (.inr (.inr (.inl ⟨hso0, hso⟩)))
          have HX : Hid (checkE pkG p = 6) := by rw [chk_head (by rw [HX.out]; decide)]; exact HX
          go_wp2
          go_ret
          exact ⟨ret_int HX.out.symm, hbw⟩
        · have hso' : p.so = [] ∨ pathB p.so = true := .inr hso
          by_cases hst0 : p.st = []
          · have e4 : (p.st == []) = true := by simp [hst0]
            have e4n : (p.st != []) = false := by simp [hst0]
            have HX : Hid (headE pkG p = 0) := head0 h1 hl hma hso' (.inl hst0)
            clear hst0
            have hle := hbw.size
            have hlt0 := hbx.lt
            have hC : CSt w p c w5.heap.size (w5.alloc (.map #[] 0)) := ⟨hbx.alloc _, hbw.alloc hbw.size _, hlt0⟩
            have l5 := hC.bx.c5
            have hHX := HX
            have CV := Lib.hid (checkVars_any c.A c.na c.ca w5.heap.size w.heap.size p.vs (w5.alloc (.map #[] 0)) (hp.vs.below hC.bw) hle hC.bw.size (NMap.made w5) (by omega) hs.vs)
            clear hbx hbw
            go_wp2_with fail
            refine CV.out.mono ?_
            rintro e wv ⟨rfl, ⟨ks1, hn1⟩, hg1⟩
            have hC1 := hC.grown hg1
            have l6 := hC1.bx.c6
            clear hg1 l2 l3 l4 l5 hC CV
            by_cases h2 : varsT pkG p.vs = 0
            · rw [h2]
              go_wp2_with fail
              refine (forget_any _ ks1 _ hn1).mono ?_
              rintro e wf ⟨rfl, hn2, hg2⟩
              have hC2 := hC1.grown hg2
              have l6 := hC2.bx.c6
              clear hg2 hn1
              go_wp2_with fail
              refine (checkFlags_any c.F c.nf c.cf _ w.heap.size p.fs _ (hp.fs.below hC2.bw) hle hC2.bw.size hn2 (by omega) hs.fs).mono ?_
              rintro e wg ⟨rfl, ⟨ks3, hn3⟩, hg3⟩
              have hC3 := hC2.grown hg3
              clear hg3 hn2 l6
              by_cases h3 : flagsT pkG p.fs = 0
              · rw [h3]
                have HT := Lib.hid (chk_targets hHX.out h2 h3)
                clear h2 h3
                go_wp2_with fail
                refine (forget_any _ ks3 _ hn3).mono ?_
                rintro e wh ⟨rfl, hn4, hg4⟩
                have hC4 := hC3.grown hg4
                have l7 := hC4.bx.c7
                clear hg4 hn3
                by_cases h8 : 8 < c.nt
                · have HX : Hid (checkE pkG p = 3) := by rw [HT.out]; exact targetsT_long (by rw [NT.out]; exact h8)
                  go_wp2
                  go_ret
                  exact ⟨ret_int HX.out.symm, hC4.bw⟩
                by_cases h00 : c.nt = 0
                · have HX : Hid (checkE pkG p = 8) := by
                    have : p.ts = [] := List.eq_nil_of_length_eq_zero (by rw [NT.out]; exact h00)
                    rw [HT.out, this]; exact targetsT_nil
                  have q0 : ((c.nt : Int) == 0) = true := by simp [h00]
                  clear h00
                  go_wp2
                  go_ret
                  exact ⟨ret_int HX.out.symm, hC4.bw⟩
                have HV : Hid (checkE pkG p = targetsE pkG [] p.ts) := by rw [HT.out]; exact targetsT_ok (by rw [NT.out]; exact h8) (by intro e; have := NT.out; rw [e] at this; exact h00 this.symm)
                have q0 : ((c.nt : Int) == 0) = false := by simpa using h00
                clear h00
                go_wp2
                clear q0 l7
                have hpts := hp.ts
                generalize c.T = T0 at hpts ⊢
                go_loopw [74] (fun i wr => ∃ (j : Nat), j ≤ c.nt ∧ i = .int .i64 j ∧ Hid (NMap wr w5.heap.size ((p.ts.take j).map (·.nm))) ∧ Hid (CSt w p c w5.heap.size wr) ∧ Hid (checkE pkG p = targetsE pkG ((p.ts.take j).map (·.nm)) (p.ts.drop j))) (fun i _ => c.nt - (intOf i).toNat)
                case atStart => exact ⟨0, Nat.zero_le _, rfl, hn4, hC4, HV⟩
                case round =>
                  clear hC1 hC2 hC3 hC4 hn4
                  obtain ⟨j, hj, rfl, hnm, hcs, hr⟩ := hrel
                  by_cases hlt : j < c.nt
                  · obtain ⟨t, ht⟩ := get_of (l := p.ts) (k := j) (by rw [NT.out]; exact hlt)
                    obtain ⟨b2, o, rfl, hbm, hcell⟩ := (hpts.below hcs.out.bw).elem tgF 4 tgF_len (by omega) ht
                    have HD := Lib.hid (drop_get ht)
                    have HTK := Lib.hid (take_nms ht)
                    obtain ⟨hp1, hp2⟩ := hs.ts t (List.mem_of_getElem? ht)
                    have d0 : wr.cell? ⟨b2, o + j * 4, none⟩ = some (.string (B t.nm)) := hcell 0 _ rfl
                    have d1 : wr.cell? ⟨b2, o + j * 4 + 1, none⟩ = some (.string (B t.kd)) := hcell 1 _ rfl
                    have d2 : wr.cell? ⟨b2, o + j * 4 + 2, none⟩ = some (.int .i64 t.pg) := hcell 2 _ rfl
                    have d3 : wr.cell? ⟨b2, o + j * 4 + 3, none⟩ = some (.int .i64 t.wd) := hcell 3 _ rfl
                    have HE : Hid (checkE pkG p = if (nm3 t.nm && decide (58 ∉ t.nm)) = false then 6 else if t.nm ∈ (p.ts.take j).map (·.nm) then 7 else if kindE t ≠ 0 then kindE t else targetsE pkG ((p.ts.take (j + 1)).map (·.nm)) (p.ts.drop (j + 1))) := by rw [hr.out, HD.out, targetsE, HTK.out]; rfl
                    clear hcell hr HD
                    have CT := Lib.hid (checkTarget_any t w5.heap.size _ (wr.alloc (.cells #[.string (B t.nm), .string (B t.kd), .int .i64 t.pg, .int .i64 t.wd] 38)) (hnm.out.alloc _) hp1 hp2)
                    go_wp2_with fail
                    refine CT.out.mono ?_
                    rintro e w9 ⟨r, rfl, hif, hg⟩
                    have hC9 := Lib.hid ((hcs.out.alloc _).grown hg)
                    have key : (r ≠ 0 ∧ checkE pkG p = r) ∨ (r = 0 ∧ NMap w9 w5.heap.size ((p.ts.take (j + 1)).map (·.nm)) ∧ checkE pkG p = targetsE pkG ((p.ts.take (j + 1)).map (·.nm)) (p.ts.drop (j + 1))) := by
                      have he := HE.out
                      by_cases ha : (nm3 t.nm && decide (58 ∉ t.nm)) = false
                      · rw [if_pos ha] at hif he
                        exact .inl ⟨by rw [hif.1]; decide, by rw [he, hif.1]⟩
                      · rw [if_neg ha] at hif he
                        by_cases hb : t.nm ∈ (p.ts.take j).map (·.nm)
                        · rw [if_pos hb] at hif he
                          exact .inl ⟨by rw [hif.1]; decide, by rw [he, hif.1]⟩
                        · rw [if_neg hb] at hif he
                          by_cases hk : kindE t = 0
                          · rw [if_neg (by simpa using hk)] at he
                            exact .inr ⟨hif.1.trans hk, by rw [HTK.out]; exact hif.2, he⟩
                          · rw [if_pos hk] at he
                            exact .inl ⟨by rw [hif.1]; exact hk, by rw [he, hif.1]⟩
                    clear hif HE hg CT d0 d1 d2 d3 HTK
                    rcases key with ⟨hr0, he⟩ | ⟨rfl, hn9, he⟩
                    · have z1 : (r != 0) = true := by simpa using hr0
                      have HX := Lib.hid he
                      clear hr0 he
                      go_wp2
                      go_ret
                      exact ⟨ret_int HX.out.symm, hC9.out.bw⟩
                    · have HX := Lib.hid he
                      have HN := Lib.hid hn9
                      clear he hn9
                      go_wp2
                      go_roundw
                      case rel => exact ⟨j + 1, by omega, by go_num, HN, hC9, HX⟩
                      case measure => simp [intOf]; omega
                  · have HX : Hid (checkE pkG p = 0) := by rw [hr.out, List.drop_of_length_le (by rw [NT.out]; omega)]; rfl
                    go_wp2
                    go_ret
                    exact ⟨ret_int HX.out.symm, hcs.out.bw⟩
              · have HX := Lib.hid (chk_flags hHX.out h2 h3)
                have z1 : (flagsT pkG p.fs != 0) = true := by simpa using h3
                clear h2 h3
                go_wp2
                go_ret
                exact ⟨ret_int HX.out.symm, hC3.bw⟩
            · have HX := Lib.hid (chk_vars hHX.out h2)
              have z1 : (varsT pkG p.vs != 0) = true := by simpa using h2
              clear h2
              go_wp2
              go_ret
              exact ⟨ret_int HX.out.symm, hC1.bw⟩
          · have e4 : (p.st == []) = false := by simpa using hst0
            have e4n : (p.st != []) = true := by simpa using hst0
            go_wp2_with fail
            refine (path_any (B p.st) _ (by rw [B_size]; omega) (hG.below hbw (Nat.le_refl _))).mono ?_
            rintro e w6 ⟨rfl, hbn⟩
            rw [B_data]
            have hbx := hbx.below hbn hbx.lt
            have hbw := hbw.trans (hbn.mono hbw.size)
            have l2 := hbx.c2
            have l3 := hbx.c3
            have l4 := hbx.c4
            clear hbn
            cases hst : pathB p.st
            · have HX : Hid (headE pkG p = 6) := head6 h1 (.inr (.inr (.inr ⟨hst0, hst⟩)))
              have HX : Hid (checkE pkG p = 6) := by rw [chk_head (by rw [HX.out]; decide)]; exact HX
              go_wp2
              go_ret
              exact ⟨ret_int HX.out.symm, hbw⟩
            · have HX : Hid (headE pkG p = 0) := head0 h1 hl hma hso' (.inr hst)
              have hle := hbw.size
              have hlt0 := hbx.lt
              have hC : CSt w p c w6.heap.size (w6.alloc (.map #[] 0)) := ⟨hbx.alloc _, hbw.alloc hbw.size _, hlt0⟩
              have l5 := hC.bx.c5
              have hHX := HX
              have CV := Lib.hid (checkVars_any c.A c.na c.ca w6.heap.size w.heap.size p.vs (w6.alloc (.map #[] 0)) (hp.vs.below hC.bw) hle hC.bw.size (NMap.made w6) (by omega) hs.vs)
              clear hbx hbw
              go_wp2_with fail
              refine CV.out.mono ?_
              rintro e wv ⟨rfl, ⟨ks1, hn1⟩, hg1⟩
              have hC1 := hC.grown hg1
              have l6 := hC1.bx.c6
              clear hg1 l2 l3 l4 l5 hC CV
              by_cases h2 : varsT pkG p.vs = 0
              · rw [h2]
                go_wp2_with fail
                refine (forget_any _ ks1 _ hn1).mono ?_
                rintro e wf ⟨rfl, hn2, hg2⟩
                have hC2 := hC1.grown hg2
                have l6 := hC2.bx.c6
                clear hg2 hn1
                go_wp2_with fail
                refine (checkFlags_any c.F c.nf c.cf _ w.heap.size p.fs _ (hp.fs.below hC2.bw) hle hC2.bw.size hn2 (by omega) hs.fs).mono ?_
                rintro e wg ⟨rfl, ⟨ks3, hn3⟩, hg3⟩
                have hC3 := hC2.grown hg3
                clear hg3 hn2 l6
                by_cases h3 : flagsT pkG p.fs = 0
                · rw [h3]
                  have HT := Lib.hid (chk_targets hHX.out h2 h3)
                  clear h2 h3
                  go_wp2_with fail
                  refine (forget_any _ ks3 _ hn3).mono ?_
                  rintro e wh ⟨rfl, hn4, hg4⟩
                  have hC4 := hC3.grown hg4
                  have l7 := hC4.bx.c7
                  clear hg4 hn3
                  by_cases h8 : 8 < c.nt
                  · have HX : Hid (checkE pkG p = 3) := by rw [HT.out]; exact targetsT_long (by rw [NT.out]; exact h8)
                    go_wp2
                    go_ret
                    exact ⟨ret_int HX.out.symm, hC4.bw⟩
                  by_cases h00 : c.nt = 0
                  · have HX : Hid (checkE pkG p = 8) := by
                      have : p.ts = [] := List.eq_nil_of_length_eq_zero (by rw [NT.out]; exact h00)
                      rw [HT.out, this]; exact targetsT_nil
                    have q0 : ((c.nt : Int) == 0) = true := by simp [h00]
                    clear h00
                    go_wp2
                    go_ret
                    exact ⟨ret_int HX.out.symm, hC4.bw⟩
                  have HV : Hid (checkE pkG p = targetsE pkG [] p.ts) := by rw [HT.out]; exact targetsT_ok (by rw [NT.out]; exact h8) (by intro e; have := NT.out; rw [e] at this; exact h00 this.symm)
                  have q0 : ((c.nt : Int) == 0) = false := by simpa using h00
                  clear h00
                  go_wp2
                  clear q0 l7
                  have hpts := hp.ts
                  generalize c.T = T0 at hpts ⊢
                  go_loopw [74] (fun i wr => ∃ (j : Nat), j ≤ c.nt ∧ i = .int .i64 j ∧ Hid (NMap wr w6.heap.size ((p.ts.take j).map (·.nm))) ∧ Hid (CSt w p c w6.heap.size wr) ∧ Hid (checkE pkG p = targetsE pkG ((p.ts.take j).map (·.nm)) (p.ts.drop j))) (fun i _ => c.nt - (intOf i).toNat)
                  case atStart => exact ⟨0, Nat.zero_le _, rfl, hn4, hC4, HV⟩
                  case round =>
                    clear hC1 hC2 hC3 hC4 hn4
                    obtain ⟨j, hj, rfl, hnm, hcs, hr⟩ := hrel
                    by_cases hlt : j < c.nt
                    · obtain ⟨t, ht⟩ := get_of (l := p.ts) (k := j) (by rw [NT.out]; exact hlt)
                      obtain ⟨b2, o, rfl, hbm, hcell⟩ := (hpts.below hcs.out.bw).elem tgF 4 tgF_len (by omega) ht
                      have HD := Lib.hid (drop_get ht)
                      have HTK := Lib.hid (take_nms ht)
                      obtain ⟨hp1, hp2⟩ := hs.ts t (List.mem_of_getElem? ht)
                      have d0 : wr.cell? ⟨b2, o + j * 4, none⟩ = some (.string (B t.nm)) := hcell 0 _ rfl
                      have d1 : wr.cell? ⟨b2, o + j * 4 + 1, none⟩ = some (.string (B t.kd)) := hcell 1 _ rfl
                      have d2 : wr.cell? ⟨b2, o + j * 4 + 2, none⟩ = some (.int .i64 t.pg) := hcell 2 _ rfl
                      have d3 : wr.cell? ⟨b2, o + j * 4 + 3, none⟩ = some (.int .i64 t.wd) := hcell 3 _ rfl
                      have HE : Hid (checkE pkG p = if (nm3 t.nm && decide (58 ∉ t.nm)) = false then 6 else if t.nm ∈ (p.ts.take j).map (·.nm) then 7 else if kindE t ≠ 0 then kindE t else targetsE pkG ((p.ts.take (j + 1)).map (·.nm)) (p.ts.drop (j + 1))) := by rw [hr.out, HD.out, targetsE, HTK.out]; rfl
                      clear hcell hr HD
                      have CT := Lib.hid (checkTarget_any t w6.heap.size _ (wr.alloc (.cells #[.string (B t.nm), .string (B t.kd), .int .i64 t.pg, .int .i64 t.wd] 38)) (hnm.out.alloc _) hp1 hp2)
                      go_wp2_with fail
                      refine CT.out.mono ?_
                      rintro e w9 ⟨r, rfl, hif, hg⟩
                      have hC9 := Lib.hid ((hcs.out.alloc _).grown hg)
                      have key : (r ≠ 0 ∧ checkE pkG p = r) ∨ (r = 0 ∧ NMap w9 w6.heap.size ((p.ts.take (j + 1)).map (·.nm)) ∧ checkE pkG p = targetsE pkG ((p.ts.take (j + 1)).map (·.nm)) (p.ts.drop (j + 1))) := by
                        have he := HE.out
                        by_cases ha : (nm3 t.nm && decide (58 ∉ t.nm)) = false
                        · rw [if_pos ha] at hif he
                          exact .inl ⟨by rw [hif.1]; decide, by rw [he, hif.1]⟩
                        · rw [if_neg ha] at hif he
                          by_cases hb : t.nm ∈ (p.ts.take j).map (·.nm)
                          · rw [if_pos hb] at hif he
                            exact .inl ⟨by rw [hif.1]; decide, by rw [he, hif.1]⟩
                          · rw [if_neg hb] at hif he
                            by_cases hk : kindE t = 0
                            · rw [if_neg (by simpa using hk)] at he
                              exact .inr ⟨hif.1.trans hk, by rw [HTK.out]; exact hif.2, he⟩
                            · rw [if_pos hk] at he
                              exact .inl ⟨by rw [hif.1]; exact hk, by rw [he, hif.1]⟩
                      clear hif HE hg CT d0 d1 d2 d3 HTK
                      rcases key with ⟨hr0, he⟩ | ⟨rfl, hn9, he⟩
                      · have z1 : (r != 0) = true := by simpa using hr0
                        have HX := Lib.hid he
                        clear hr0 he
                        go_wp2
                        go_ret
                        exact ⟨ret_int HX.out.symm, hC9.out.bw⟩
                      · have HX := Lib.hid he
                        have HN := Lib.hid hn9
                        clear he hn9
                        go_wp2
                        go_roundw
                        case rel => exact ⟨j + 1, by omega, by go_num, HN, hC9, HX⟩
                        case measure => simp [intOf]; omega
                    · have HX : Hid (checkE pkG p = 0) := by rw [hr.out, List.drop_of_length_le (by rw [NT.out]; omega)]; rfl
                      go_wp2
                      go_ret
                      exact ⟨ret_int HX.out.symm, hcs.out.bw⟩
                · have HX := Lib.hid (chk_flags hHX.out h2 h3)
                  have z1 : (flagsT pkG p.fs != 0) = true := by simpa using h3
                  clear h2 h3
                  go_wp2
                  go_ret
                  exact ⟨ret_int HX.out.symm, hC3.bw⟩
              · have HX := Lib.hid (chk_vars hHX.out h2)
                have z1 : (varsT pkG p.vs != 0) = true := by simpa using h2
                clear h2
                go_wp2
                go_ret
                exact ⟨ret_int HX.out.symm, hC1.bw⟩
end Go.Proofs.YtmkenekngaihhaaGreatDoor
