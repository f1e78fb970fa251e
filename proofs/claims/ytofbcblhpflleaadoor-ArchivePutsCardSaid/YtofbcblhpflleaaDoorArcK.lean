/-
  Layer 35 (archive): the walk of Get.
-/
import Derived.Test.YtofbcblhpflleaaDoorArcJ
namespace Go.Proofs.YtofbcblhpflleaaDoor
open Go.RowKit
set_option linter.unusedVariables false
attribute [local go_sem] B_data B_size

theorem Tryd.infoFile : (Tryd.prog.info? 35).map (fun i => (i.zero, i.size, i.bytes)) = some (some (.agg #[.string ⟨#[]⟩, .string ⟨#[]⟩]), 2, 32) := by kernel_rfl
/-- v is a list of files in memory -/
def Lst (w : World) (v : Value) (L : List (List UInt8 × List UInt8)) : Prop := ∃ A n c, v = .slice A n c ∧ n ≤ c ∧ Rd w w.heap.size 2 A n (fls L)
theorem Lst.nil (w : World) : Lst w (.slice none 0 0) [] := ⟨none, 0, 0, rfl, Nat.le_refl _, Rd.nil⟩
theorem Lst.of_own {w : World} {base n : Nat} {v : Value} {L : List (List UInt8 × List UInt8)} (h : w.ownsRow base 35 2 v n (fls L)) : Lst w v L := by
  obtain ⟨A, c, rfl, hc⟩ := own_form h
  exact ⟨A, n, c, rfl, hc, Rd.of_own h⟩
theorem fls_snoc (a : List (List UInt8 × List UInt8)) (f : List UInt8 × List UInt8) : fls a ++ [.string (B f.1), .string (B f.2)] = fls (a ++ [f]) := by simp [fls]
/-- what Get gives -/
def GetPost (w : World) (r : List (List UInt8 × List UInt8) × Int) (e : Ending) (w' : World) : Prop := ∃ v, e = .returned (.tuple #[v, .int .i64 r.2]) ∧ Lst w' v r.1 ∧ Below w.heap.size w w'
theorem own_apart {w : World} {base base2 n m sz sz2 : Nat} {t t2 : TypeId} {v v2 : Value} {xs ys : List Value} (h : w.ownsRow base t sz v n xs) (h2 : w.ownsRow base2 t2 sz2 v2 m ys) (ht : t ≠ t2) : v.ownBlock = none ∨ v.ownBlock ≠ v2.ownBlock := by
  rcases h.2 with ⟨rfl, _⟩ | ⟨g, cap, cur, rfl, _, hg, _⟩
  · exact .inl rfl
  · right
    rcases h2.2 with ⟨rfl, _⟩ | ⟨g2, cap2, cur2, rfl, _, hg2, _⟩
    · intro e; cases e
    · intro e
      have e : g = g2 := by simpa [Value.ownBlock] using e
      subst e
      rw [hg] at hg2
      injection hg2 with hg2
      injection hg2 with _ e2 _
      exact ht e2
theorem sizes_mem {fs : List (List UInt8 × List UInt8)} {f : List UInt8 × List UInt8} (h : f ∈ fs) : sizeF f ≤ sizes fs := by
  induction fs with
  | nil => cases h
  | cons g r ih =>
    unfold sizes at ih ⊢
    rw [List.map_cons, List.sum_cons]
    rcases List.mem_cons.1 h with rfl | h
    · omega
    · have := ih h; omega
theorem sizes_ge (fs : List (List UInt8 × List UInt8)) : 30 * fs.length ≤ sizes fs := by
  induction fs with
  | nil => simp [sizes]
  | cons g r ih =>
    unfold sizes at ih ⊢
    rw [List.map_cons, List.sum_cons, List.length_cons]
    unfold sizeF at *
    omega
theorem crcs_lt (fs : List (List UInt8 × List UInt8)) : ∀ s ∈ crcs fs, s < 4294967296 := by
  intro s hs
  unfold crcs at hs
  obtain ⟨f, _, rfl⟩ := List.mem_map.1 hs
  exact crc_lt _
set_option maxHeartbeats 8000000 in
set_option maxRecDepth 100000 in
theorem get_any (s : List UInt8) (w : World) (hs : s.length ≤ 1000000) (hG : Glob w) : Calls Tryd.prog 15 #[.string (B s)] w fun e w' => GetPost w (getG s []) e w' := by
  go_enter Tryd.func15, Tryd.ntmps15
  go_wp2
  go_loopw [4, 5, 6] (fun v v2 r wr => ∃ (fs : List (List UInt8 × List UInt8)) (q : List UInt8), r = .string (B q) ∧ sizes fs + q.length = s.length ∧ wr.ownsRow w.heap.size 35 2 v fs.length (fls fs) ∧ wr.ownsRow w.heap.size 23 1 v2 fs.length (u32s (crcs fs)) ∧ Below w.heap.size w wr ∧ Hid (getG s [] = getG q fs)) (fun _ _ r _ => match r with | .string b => b.size | _ => 0)
  case atStart => exact ⟨[], s, rfl, by simp [sizes], ⟨rfl, .inl ⟨rfl, rfl⟩⟩, ⟨rfl, .inl ⟨rfl, rfl⟩⟩, Below.refl _ _, rfl⟩
  case round =>
    obtain ⟨fs, q, rfl, hsz, ho, ho2, hbw, hr⟩ := hrel
    have hbs := hbw.size
    have hql : q.length ≤ 1000000 := by omega
    have HP1 := Lib.hid (fun W => prefix_any headL q W (by decide) (by omega))
    have HP2 := Lib.hid (fun W => prefix_any q headL W (by omega) (by decide))
    by_cases h4 : q.length < 4 ∧ preB headL q = true
    · have HX : Hid (getG s [] = ([], 4)) := by rw [hr.out]; exact getG_end h4
      rw [h4.2] at HP1
      have d4 : decide ((q.length : Int) < 4) = true := by simp; omega
      go_wp2_with fail
      refine (HP1.out wr).mono ?_
      rintro e w1 ⟨rfl, rfl⟩
      go_wp2
      go_ret2
      exact ⟨_, by rw [HX.out]; rfl, by rw [HX.out]; exact Lst.nil _, hbw⟩
    · obtain ⟨A, c, rfl, hc⟩ := own_form ho
      obtain ⟨A2, c2, rfl, hc2⟩ := own_form ho2
      have hxr := Rd.of_own ho
      have hyr := Rd.of_own ho2
      have hn30 := sizes_ge fs
      have HSM : Hid (∀ f ∈ fs, f.1.length ≤ 1000000 ∧ f.2.length ≤ 100000000) := fun f hf => by
        have := sizes_mem hf
        unfold sizeF at this
        omega
      have HCL := Lib.hid (crcs_lt fs)
      have HNE := h4
      by_cases hq : q.length < 4
      · have hp1 : preB headL q = false := by
          cases hp : preB headL q with
          | false => rfl
          | true => exact absurd ⟨hq, hp⟩ h4
        have hfalse : preB q headL = false := by
          unfold preB
          have : ¬ headL.length ≤ q.length := by show ¬ 4 ≤ q.length; omega
          simp [this]
        rw [hp1] at HP1
        have HP2' := HP2
        rw [hfalse] at HP2'
        have d4 : decide ((q.length : Int) < 4) = true := by simp; omega
        go_wp2_with fail
        refine (HP1.out wr).mono ?_
        rintro e w' ⟨rfl, rfl⟩
        go_wp2_with fail
        refine (HP2'.out wr).mono ?_
        rintro e w' ⟨rfl, rfl⟩
        clear HP1 HP2 HP2' hp1 d4
        go_wp2_with fail
        refine (acheck_any A fs.length c fs wr hxr (by omega) (fun f h => (HSM.out f h).1) (hG.below hbw (Nat.le_refl _))).mono ?_
        rintro e w1 ⟨rfl, hb1⟩
        by_cases hck : acheck fs = 0
        · have h128 : fs.length ≤ 128 := by
            unfold acheck at hck
            by_cases h : 128 < fs.length
            · rw [if_pos h] at hck; cases hck
            · omega
          have hx1 := (hxr.below hb1).more hb1.size
          have hy1 := (hyr.below hb1).more hb1.size
          have hB1 := hbw.trans (hb1.mono hbw.size)
          have HFN : Hid (finL fs q = if q.take (min q.length (dirT fs (crcs fs)).length) ≠ (dirT fs (crcs fs)).take (min q.length (dirT fs (crcs fs)).length) ∨ (dirT fs (crcs fs)).length < q.length then ([], 5) else if q.length < (dirT fs (crcs fs)).length then ([], 4) else (fs, 0)) := by unfold finL; rw [if_neg (by simp [hck])]; rfl
          have HDR := Lib.hid (directory_any A A2 fs.length c c2 fs (crcs fs) w1 hx1 hy1 h128 HSM.out HCL.out)
          have hcn := cens_len fs HSM.out (crcs fs) 0
          have hdl : (dirT fs (crcs fs)).length = (cens fs (crcs fs) 0).length + 22 := by simp [dirT, dirP, le2L, le4L]
          have hdl2 : (dirT fs (crcs fs)).length ≤ 1000000000 := by omega
          clear hdl hcn
          rw [hck]
          clear hck
          generalize dirT fs (crcs fs) = DT at *
          go_wp2_with fail
          refine HDR.out.mono ?_
          rintro e w2 ⟨rfl, hb2⟩
          have hB2 := hB1.trans (hb2.mono hB1.size)
          have hB21 := hb1.trans (hb2.mono hb1.size)
          have hx2 : Rd w2 w2.heap.size 2 A fs.length (fls fs) := (hxr.below hB21).more hB21.size
          clear HDR hx1 hy1
          have hmin : min (q.length : Int) (DT.length : Int) = ((min q.length DT.length : Nat) : Int) := by omega
          have x7 : (B q).extract 0 (min q.length DT.length) = B (q.take (min q.length DT.length)) := by rw [B_take, B_data]
          have x8 : (B DT).extract 0 (min q.length DT.length) = B (DT.take (min q.length DT.length)) := by rw [B_take, B_data]
          have hm1 : ((min q.length DT.length : Nat) : Int) ≤ (q.length : Int) := by omega
          have hm2 : ((min q.length DT.length : Nat) : Int) ≤ (DT.length : Int) := by omega
          have hm0 : (0 : Int) ≤ ((min q.length DT.length : Nat) : Int) := by omega
          by_cases hcm : q.take (min q.length DT.length) = DT.take (min q.length DT.length)
          · have e1 : (!(q.take (min q.length DT.length) == DT.take (min q.length DT.length))) = false := by simp [hcm]
            by_cases hgt : DT.length < q.length
            · have HX : Hid (getG s [] = ([], 5)) := by rw [hr.out, getG_fin HNE hfalse, HFN.out, if_pos (.inr hgt)]; rfl
              have d5 : decide ((DT.length : Int) < (q.length : Int)) = true := by simp; omega
              have d5' : decide (DT.length < q.length) = true := by simpa using hgt
              clear HFN hcm
              generalize q.take (min q.length DT.length) = qa at *
              generalize DT.take (min q.length DT.length) = da at *
              generalize min q.length DT.length = mm at *
              go_wp2
              go_region_held3 (fun _ => True) (trivial) (fail)
              go_wp2
              go_ret2
              exact ⟨_, by rw [HX.out]; rfl, by rw [HX.out]; exact Lst.nil _, hB2.drew⟩
            · have d5 : decide ((DT.length : Int) < (q.length : Int)) = false := by simp; omega
              have d5' : decide (DT.length < q.length) = false := by simpa using hgt
              rw [if_neg (by simp [hcm]; omega)] at HFN
              by_cases hls : q.length < DT.length
              · have HX : Hid (getG s [] = ([], 4)) := by rw [hr.out, getG_fin HNE hfalse, HFN.out, if_pos hls]; rfl
                have d6 : decide ((q.length : Int) < (DT.length : Int)) = true := by simp; omega
                have d6' : decide (q.length < DT.length) = true := by simpa using hls
                clear HFN hcm
                generalize q.take (min q.length DT.length) = qa at *
                generalize DT.take (min q.length DT.length) = da at *
                generalize min q.length DT.length = mm at *
                go_wp2
                go_region_held3 (fun _ => True) (trivial) (fail)
                go_wp2
                go_ret2
                exact ⟨_, by rw [HX.out]; rfl, by rw [HX.out]; exact Lst.nil _, hB2.drew⟩
              · have HX : Hid (getG s [] = (fs, 0)) := by rw [hr.out, getG_fin HNE hfalse, HFN.out, if_neg hls]; rfl
                have d6 : decide ((q.length : Int) < (DT.length : Int)) = false := by simp; omega
                have d6' : decide (q.length < DT.length) = false := by simpa using hls
                clear HFN hcm
                generalize q.take (min q.length DT.length) = qa at *
                generalize DT.take (min q.length DT.length) = da at *
                generalize min q.length DT.length = mm at *
                go_wp2
                go_region_held3 (fun _ => True) (trivial) (fail)
                go_wp2
                go_ret2
                exact ⟨_, by rw [HX.out]; rfl, by rw [HX.out]; exact ⟨A, fs.length, c, rfl, hc, hx2⟩, hB2.drew⟩
          · have e1 : (!(q.take (min q.length DT.length) == DT.take (min q.length DT.length))) = true := by simpa using hcm
            have HX : Hid (getG s [] = ([], 5)) := by rw [hr.out, getG_fin HNE hfalse, HFN.out, if_pos (.inl hcm)]; rfl
            clear HFN hcm
            generalize q.take (min q.length DT.length) = qa at *
            generalize DT.take (min q.length DT.length) = da at *
            generalize min q.length DT.length = mm at *
            go_wp2
            go_region_held3 (fun _ => True) (trivial) (fail)
            go_wp2
            go_ret2
            exact ⟨_, by rw [HX.out]; rfl, by rw [HX.out]; exact Lst.nil _, hB2.drew⟩
        · have en : (acheck fs != 0) = true := by simpa using hck
          have HX : Hid (getG s [] = ([], 5)) := by rw [hr.out, getG_fin HNE hfalse]; unfold finL; rw [if_pos hck]; rfl
          generalize acheck fs = ck at *
          clear hck
          go_wp2
          go_ret2
          exact ⟨_, by rw [HX.out]; rfl, by rw [HX.out]; exact Lst.nil _, hbw.trans (hb1.mono hbw.size)⟩
      · have d4 : decide ((q.length : Int) < 4) = false := by simp; omega
        cases hpp : preB q headL with
        | false =>
          have hfalse := hpp
          rw [hpp] at HP2
          go_wp2_with fail
          refine (HP2.out wr).mono ?_
          rintro e w' ⟨rfl, rfl⟩
          clear HP1 HP2 d4 hpp
          go_wp2_with fail
          refine (acheck_any A fs.length c fs wr hxr (by omega) (fun f h => (HSM.out f h).1) (hG.below hbw (Nat.le_refl _))).mono ?_
          rintro e w1 ⟨rfl, hb1⟩
          by_cases hck : acheck fs = 0
          · have h128 : fs.length ≤ 128 := by
              unfold acheck at hck
              by_cases h : 128 < fs.length
              · rw [if_pos h] at hck; cases hck
              · omega
            have hx1 := (hxr.below hb1).more hb1.size
            have hy1 := (hyr.below hb1).more hb1.size
            have hB1 := hbw.trans (hb1.mono hbw.size)
            have HFN : Hid (finL fs q = if q.take (min q.length (dirT fs (crcs fs)).length) ≠ (dirT fs (crcs fs)).take (min q.length (dirT fs (crcs fs)).length) ∨ (dirT fs (crcs fs)).length < q.length then ([], 5) else if q.length < (dirT fs (crcs fs)).length then ([], 4) else (fs, 0)) := by unfold finL; rw [if_neg (by simp [hck])]; rfl
            have HDR := Lib.hid (directory_any A A2 fs.length c c2 fs (crcs fs) w1 hx1 hy1 h128 HSM.out HCL.out)
            have hcn := cens_len fs HSM.out (crcs fs) 0
            have hdl : (dirT fs (crcs fs)).length = (cens fs (crcs fs) 0).length + 22 := by simp [dirT, dirP, le2L, le4L]
            have hdl2 : (dirT fs (crcs fs)).length ≤ 1000000000 := by omega
            clear hdl hcn
            rw [hck]
            clear hck
            generalize dirT fs (crcs fs) = DT at *
            go_wp2_with fail
            refine HDR.out.mono ?_
            rintro e w2 ⟨rfl, hb2⟩
            have hB2 := hB1.trans (hb2.mono hB1.size)
            have hB21 := hb1.trans (hb2.mono hb1.size)
            have hx2 : Rd w2 w2.heap.size 2 A fs.length (fls fs) := (hxr.below hB21).more hB21.size
            clear HDR hx1 hy1
            have hmin : min (q.length : Int) (DT.length : Int) = ((min q.length DT.length : Nat) : Int) := by omega
            have x7 : (B q).extract 0 (min q.length DT.length) = B (q.take (min q.length DT.length)) := by rw [B_take, B_data]
            have x8 : (B DT).extract 0 (min q.length DT.length) = B (DT.take (min q.length DT.length)) := by rw [B_take, B_data]
            have hm1 : ((min q.length DT.length : Nat) : Int) ≤ (q.length : Int) := by omega
            have hm2 : ((min q.length DT.length : Nat) : Int) ≤ (DT.length : Int) := by omega
            have hm0 : (0 : Int) ≤ ((min q.length DT.length : Nat) : Int) := by omega
            by_cases hcm : q.take (min q.length DT.length) = DT.take (min q.length DT.length)
            · have e1 : (!(q.take (min q.length DT.length) == DT.take (min q.length DT.length))) = false := by simp [hcm]
              by_cases hgt : DT.length < q.length
              · have HX : Hid (getG s [] = ([], 5)) := by rw [hr.out, getG_fin HNE hfalse, HFN.out, if_pos (.inr hgt)]; rfl
                have d5 : decide ((DT.length : Int) < (q.length : Int)) = true := by simp; omega
                have d5' : decide (DT.length < q.length) = true := by simpa using hgt
                clear HFN hcm
                generalize q.take (min q.length DT.length) = qa at *
                generalize DT.take (min q.length DT.length) = da at *
                generalize min q.length DT.length = mm at *
                go_wp2
                go_region_held3 (fun _ => True) (trivial) (fail)
                go_wp2
                go_ret2
                exact ⟨_, by rw [HX.out]; rfl, by rw [HX.out]; exact Lst.nil _, hB2.drew⟩
              · have d5 : decide ((DT.length : Int) < (q.length : Int)) = false := by simp; omega
                have d5' : decide (DT.length < q.length) = false := by simpa using hgt
                rw [if_neg (by simp [hcm]; omega)] at HFN
                by_cases hls : q.length < DT.length
                · have HX : Hid (getG s [] = ([], 4)) := by rw [hr.out, getG_fin HNE hfalse, HFN.out, if_pos hls]; rfl
                  have d6 : decide ((q.length : Int) < (DT.length : Int)) = true := by simp; omega
                  have d6' : decide (q.length < DT.length) = true := by simpa using hls
                  clear HFN hcm
                  generalize q.take (min q.length DT.length) = qa at *
                  generalize DT.take (min q.length DT.length) = da at *
                  generalize min q.length DT.length = mm at *
                  go_wp2
                  go_region_held3 (fun _ => True) (trivial) (fail)
                  go_wp2
                  go_ret2
                  exact ⟨_, by rw [HX.out]; rfl, by rw [HX.out]; exact Lst.nil _, hB2.drew⟩
                · have HX : Hid (getG s [] = (fs, 0)) := by rw [hr.out, getG_fin HNE hfalse, HFN.out, if_neg hls]; rfl
                  have d6 : decide ((q.length : Int) < (DT.length : Int)) = false := by simp; omega
                  have d6' : decide (q.length < DT.length) = false := by simpa using hls
                  clear HFN hcm
                  generalize q.take (min q.length DT.length) = qa at *
                  generalize DT.take (min q.length DT.length) = da at *
                  generalize min q.length DT.length = mm at *
                  go_wp2
                  go_region_held3 (fun _ => True) (trivial) (fail)
                  go_wp2
                  go_ret2
                  exact ⟨_, by rw [HX.out]; rfl, by rw [HX.out]; exact ⟨A, fs.length, c, rfl, hc, hx2⟩, hB2.drew⟩
            · have e1 : (!(q.take (min q.length DT.length) == DT.take (min q.length DT.length))) = true := by simpa using hcm
              have HX : Hid (getG s [] = ([], 5)) := by rw [hr.out, getG_fin HNE hfalse, HFN.out, if_pos (.inl hcm)]; rfl
              clear HFN hcm
              generalize q.take (min q.length DT.length) = qa at *
              generalize DT.take (min q.length DT.length) = da at *
              generalize min q.length DT.length = mm at *
              go_wp2
              go_region_held3 (fun _ => True) (trivial) (fail)
              go_wp2
              go_ret2
              exact ⟨_, by rw [HX.out]; rfl, by rw [HX.out]; exact Lst.nil _, hB2.drew⟩
          · have en : (acheck fs != 0) = true := by simpa using hck
            have HX : Hid (getG s [] = ([], 5)) := by rw [hr.out, getG_fin HNE hfalse]; unfold finL; rw [if_pos hck]; rfl
            generalize acheck fs = ck at *
            clear hck
            go_wp2
            go_ret2
            exact ⟨_, by rw [HX.out]; rfl, by rw [HX.out]; exact Lst.nil _, hbw.trans (hb1.mono hbw.size)⟩
        | true =>
          rw [hpp] at HP2
          have HPA := Lib.hid (part_any q wr hql)
          have HG := Lib.hid hr.out
          by_cases hpe : partE q = 0
          · obtain ⟨hl30, hlen, hsum⟩ := part_len hpe
            have HX : Hid (getG s [] = getG (q.drop (30 + (pName q).length + (pData q).length)) (fs ++ [(pName q, pData q)])) := by rw [hr.out]; exact getG_next HNE hpp hpe
            have HPR : Hid (PartRet q = .returned (.tuple #[.agg #[.string (B (pName q)), .string (B (pData q))], .int .u32 (crc (pData q) : Nat), .int .i64 0])) := by unfold PartRet; rw [if_pos hpe, hsum]; rfl
            rw [HPR.out] at HPA
            have HDR : Hid ((B q).extract (30 + (pName q).length + (pData q).length) q.length = B (q.drop (30 + (pName q).length + (pData q).length))) := by
              have := B_drop (B q) (30 + (pName q).length + (pData q).length)
              rw [B_size, B_data] at this
              exact this
            have hcl := crc_lt (pData q)
            have HCS : Hid (u32s (crcs fs) ++ [.int .u32 ((crc (pData q) : Nat) : Int)] = u32s (crcs (fs ++ [(pName q, pData q)]))) := by simp [u32s, crcs, Hid]
            have HFS := Lib.hid (fls_snoc fs (pName q, pData q))
            have HSZ : Hid (sizes (fs ++ [(pName q, pData q)]) + (q.drop (30 + (pName q).length + (pData q).length)).length = s.length) := by
              unfold sizes Hid
              rw [List.map_append, List.sum_append, List.length_drop]
              unfold sizes at hsz
              simp [sizeF]
              omega
            generalize pName q = N at *
            generalize pData q = T at *
            generalize crc T = ct at *
            clear hpe hsum hpp HPR h4 HP1 hr hxr hyr
            go_wp2_with fail
            refine (HP2.out wr).mono ?_
            rintro e w' ⟨rfl, rfl⟩
            go_wp2_with fail
            refine HPA.out.mono ?_
            rintro e w2 ⟨rfl, hb2⟩
            have hB2 := hbw.trans (hb2.mono hbw.size)
            have oa : (w2.alloc (.cells #[.string (B N), .string (B T)] 35)).ownsRow w.heap.size 35 2 (.slice A fs.length c) fs.length (fls fs) := (own_below ho hb2).alloc _
            have ob : (w2.alloc (.cells #[.string (B N), .string (B T)] 35)).ownsRow w.heap.size 23 1 (.slice A2 fs.length c2) fs.length (u32s (crcs fs)) := (own_below ho2 hb2).alloc _
            have hBa := hB2.alloc hB2.size (.cells #[.string (B N), .string (B T)] 35)
            have hbx : (w2.alloc (.cells #[.string (B N), .string (B T)] 35)).heap[w2.heap.size]? = some (.cells #[.string (B N), .string (B T)] 35 (0, 0)) := heap_alloc_new w2 _
            have HBX := Lib.hid hbx
            have hne3 : some w2.heap.size ≠ (Value.slice A fs.length c).ownBlock := fun e => by have := ((own_below ho hb2).lt _ e.symm).2; omega
            have hne4 : some w2.heap.size ≠ (Value.slice A2 fs.length c2).ownBlock := fun e => by have := ((own_below ho2 hb2).lt _ e.symm).2; omega
            have HSZW : Hid (w2.heap.size + 1 = (w2.alloc (.cells #[.string (B N), .string (B T)] 35)).heap.size) := by simp [Hid]
            clear hbx HP2 HPA ho ho2
            have hs2 := hB2.size
            go_wp2_with (refine wpList_app rfl (.tmp 32) (.tmp 34) 26 rfl 35 (.agg #[.string ⟨#[]⟩, .string ⟨#[]⟩]) 2 32 Tryd.underlying26 Tryd.infoFile rfl (by omega) (w2.alloc (.cells #[.string (B N), .string (B T)] 35)) [.string (B N), .string (B T)] rfl (by simp; exact ⟨rfl, rfl⟩) w.heap.size (.slice A fs.length c) fs.length (fls fs) oa rfl (congrArg (fun q => Value.slice (some ⟨q, 0, none⟩) 1 1) HSZW.out) (by omega) (by omega) hBa.size ?_)
            intro v3 w3 o3 g3 b3
            rw [HFS.out] at o3
            have p3 : w3.ownsRow w.heap.size 23 1 (.slice A2 fs.length c2) fs.length (u32s (crcs fs)) := ob.kept g3 (own_apart ob oa (by decide))
            have hB3 := hBa.trans b3
            have hbx3 : w3.heap[w2.heap.size]? = some (.cells #[.string (B N), .string (B T)] 35 (0, 0)) := (g3.block _ (by simp) hne3).trans HBX.out
            have hs3 : w2.heap.size < w3.heap.size := (Array.getElem?_eq_some_iff.1 hbx3).1
            have HBX3 := Lib.hid hbx3
            clear oa ob g3 b3 hbx3 HBX HSZW hBa
            go_wp2_with (refine wpList_app rfl (.tmp 36) (.tmp 38) 47 rfl 23 (.int .u32 0) 1 4 Tryd.underlying47 Tryd.infoU32 rfl (by omega) w3 [.int .u32 ((ct : Nat) : Int)] rfl (by simp; rfl) w.heap.size (.slice A2 fs.length c2) fs.length (u32s (crcs fs)) p3 rfl rfl (by omega) (by omega) hB3.size ?_)
            intro v4 w4 p4 g4 b4
            rw [HCS.out] at p4
            have o4 := o3.kept g4 (own_apart o3 p3 (by decide))
            have hB4 := hB3.trans b4
            have hbx4 : w4.heap[w2.heap.size]? = some (.cells #[.string (B N), .string (B T)] 35 (0, 0)) := (g4.block _ hs3 hne4).trans HBX3.out
            have y0 : w4.cell? ⟨w2.heap.size, 0, none⟩ = some (.string (B N)) := by simp [World.cell?, hbx4]
            have y1 : w4.cell? ⟨w2.heap.size, 1, none⟩ = some (.string (B T)) := by simp [World.cell?, hbx4]
            rw [show fs.length + 1 = (fs ++ [(N, T)]).length from by simp] at o4 p4
            have HO := Lib.hid (And.intro o4 p4)
            clear o3 p3 g4 b4 hbx4 HBX3 o4 p4 hne3 hne4
            have hdr := HDR.out
            generalize q.drop (30 + N.length + T.length) = q' at *
            have hmes : q'.length < q.length := by
              have := HSZ.out
              rw [show sizes (fs ++ [(N, T)]) = sizes fs + sizeF (N, T) from by unfold sizes; simp] at this
              unfold sizeF at this
              omega
            go_wp2
            go_roundw
            case rel => exact ⟨fs ++ [(N, T)], q', by rw [hdr], HSZ.out, HO.out.1, HO.out.2, hB4, HX.out⟩
            case measure => simp only [hdr, B_size]; omega
          · have HX : Hid (getG s [] = ([], partE q)) := by rw [hr.out]; exact getG_bad HNE hpp hpe
            have HPR := Lib.hid (part_bad (s := q) rfl hpe)
            rw [HPR.out] at HPA
            have en : (partE q != 0) = true := by simpa using hpe
            generalize partE q = pe at *
            clear hpe hpp HPR
            go_wp2_with fail
            refine (HP2.out wr).mono ?_
            rintro e w' ⟨rfl, rfl⟩
            go_wp2_with fail
            refine HPA.out.mono ?_
            rintro e w2 ⟨rfl, hb2⟩
            have hB2 := hbw.trans (hb2.mono hbw.size)
            go_wp2
            go_ret2
            exact ⟨_, by rw [HX.out]; rfl, by rw [HX.out]; exact Lst.nil _, hB2.alloc hB2.size _⟩
end Go.Proofs.YtofbcblhpflleaaDoor
