import Derived.Test.YtpknonebnipcgaaProg
import Derived.WalkKit
import Derived.KernelRfl
import Derived.Deep.LoopGhost
import Derived.Deep.QuietTactic
import Derived.BigQuiet
import Derived.Deep.DeepCutAuto
import Derived.Deep.CutBlock
import Derived.Deep.RegionHeld3
import Derived.WalkLawsBesides
import Derived.WalkSpells
import Derived.Outline
import Derived.Deep.DeepFit
import Derived.Lib.Hide
import Derived.Shelf.Abstract
import Derived.Lib.SliceRun
import Derived.Recover
import Derived.Defers
import Derived.Deep.RegionLaw
import Derived.Maps.AppendAt
import Derived.Test.YtpknonebnipcgaaN
import Derived.Test.YtpknonebnipcgaaO

namespace Go.Proofs.Ytpknonebnipcgaa.Of
open Go.RowKit Go.Shelf Go.Proofs.Ytpknonebnipcgaa.V Go.Proofs.Ytpknonebnipcgaa.A Go.Proofs.Ytpknonebnipcgaa.B Go.Proofs.Ytpknonebnipcgaa.C Go.Proofs.Ytpknonebnipcgaa.P Go.Proofs.Ytpknonebnipcgaa.D Go.Proofs.Ytpknonebnipcgaa.E Go.Proofs.Ytpknonebnipcgaa.G Go.Proofs.Ytpknonebnipcgaa.H Go.Proofs.Ytpknonebnipcgaa.I Go.Proofs.Ytpknonebnipcgaa.J Go.Proofs.Ytpknonebnipcgaa.K Go.Proofs.Ytpknonebnipcgaa.L Go.Proofs.Ytpknonebnipcgaa.M Go.Proofs.Ytpknonebnipcgaa.N Go.Proofs.Ytpknonebnipcgaa.O
set_option linter.unusedVariables false
set_option linter.unusedSimpArgs false
set_option maxRecDepth 100000 in
set_option maxHeartbeats 8000000 in
theorem tabled67f (p : PlanT) (hP : PBd p) (ch : List Int) (Ar : Option Addr) (cr : Nat) (Ac : Option Addr) (cc : Nat) (ds : List Int) (Ad : Option Addr) (cd : Nat) (w : World) (hR : RdW w (.slice Ar p.roads.length cr) p.roads) (hC : RdI w (.slice Ac ch.length cc) ch) (hD : RdI w (.slice Ad ds.length cd) ds)
    (hl : ch.length ≤ 1000000) (hdl : p.roads.length ≤ ds.length) (hds : ∀ x ∈ ds, -1000000000000 ≤ x ∧ x ≤ 1000000000000) :
    Calls Try.prog 67 #[.agg #[.int .i64 p.cars, .int .i64 p.first, .slice Ar p.roads.length cr], .slice Ac ch.length cc, .slice Ad ds.length cd] w fun e w' =>
      ∃ vc vo vch, e = .returned (.agg #[.slice Ad ds.length cd, vc, vo, vch]) ∧ RdI w' vc (closedL p ds p.roads.length) ∧ RdI w' vo (openedL p ds p.roads.length) ∧ RdI w' vch ch ∧ RdI w' (.slice Ad ds.length cd) ds ∧ Below w.heap.size w w' ∧ (∀ q, vc.ownBlock = some q → w.heap.size ≤ q) ∧ (∀ q, vo.ownBlock = some q → w.heap.size ≤ q) ∧ (∀ q, vch.ownBlock = some q → w.heap.size ≤ q) := by
  have hll := (RdR.len hR).2
  have hlen := hP.len
  have HR := Lib.hid hR
  have HD := Lib.hid hD
  have HDS := Lib.hid hds
  have HPB := Lib.hid hP
  have hcl := fun W hb => clone76 Ac cc ch W (Rd.below hC hb) (by omega)
  have HCL := Lib.hid hcl
  have hbusy := fun W (hb : Below w.heap.size w W) j x hx => busy82 p hP Ar cr W (RdW.below hR hb) j x hx
  have HBU := Lib.hid hbusy
  clear hR hC hD hds hP hcl hbusy
  go_enter Try.func67, Try.ntmps67
  go_wp2_with fail
  have hb2 : Below w.heap.size w ((w.alloc (.cells #[.int .i64 p.cars, .int .i64 p.first, .slice Ar p.roads.length cr] 38)).alloc (.cells #[.slice none 0 0, .slice none 0 0, .slice none 0 0, .slice none 0 0] 45)) := below_al (below_al (below_rf w) _) _
  have a0 : ((w.alloc (.cells #[.int .i64 p.cars, .int .i64 p.first, .slice Ar p.roads.length cr] 38)).alloc (.cells #[.slice none 0 0, .slice none 0 0, .slice none 0 0, .slice none 0 0] 45)).heap[w.heap.size]? = some (.cells #[.int .i64 p.cars, .int .i64 p.first, .slice Ar p.roads.length cr] 38 (0, 0)) := blk_alloc (blk_new w _) _
  have a1 : ((w.alloc (.cells #[.int .i64 p.cars, .int .i64 p.first, .slice Ar p.roads.length cr] 38)).alloc (.cells #[.slice none 0 0, .slice none 0 0, .slice none 0 0, .slice none 0 0] 45)).heap[w.heap.size + 1]? = some (.cells #[.slice none 0 0, .slice none 0 0, .slice none 0 0, .slice none 0 0] 45 (0, 0)) := by
    have := blk_new (w.alloc (.cells #[.int .i64 p.cars, .int .i64 p.first, .slice Ar p.roads.length cr] 38)) (.cells #[.slice none 0 0, .slice none 0 0, .slice none 0 0, .slice none 0 0] 45)
    rwa [World.size_alloc] at this
  have a2 : ((w.alloc (.cells #[.int .i64 p.cars, .int .i64 p.first, .slice Ar p.roads.length cr] 38)).alloc (.cells #[.slice none 0 0, .slice none 0 0, .slice none 0 0, .slice none 0 0] 45)).heap.size = w.heap.size + 2 := by simp
  generalize ((w.alloc (.cells #[.int .i64 p.cars, .int .i64 p.first, .slice Ar p.roads.length cr] 38)).alloc (.cells #[.slice none 0 0, .slice none 0 0, .slice none 0 0, .slice none 0 0] 45)) = w1 at *
  refine (HCL.out w1 hb2).mono ?_
  rintro e w2 ⟨A2, c2, rfl, hown2, hbl⟩
  have hcb := World.ownsRow.lt hown2
  have HVF : Hid (∀ q, (Value.slice A2 ch.length c2).ownBlock = some q → w.heap.size ≤ q) := Lib.hid (fun q e => by have h1 := (World.ownsRow.lt hown2 q e).1; omega)
  have HVC : Hid ((Value.slice A2 ch.length c2).ownBlock ≠ some (w.heap.size + 1)) := Lib.hid (fun e => by have h1 := (World.ownsRow.lt hown2 _ e).1; omega)
  have hti : TI w (w2.heap.size + 1) w2.heap.size #[.int .i64 p.cars, .int .i64 p.first, .slice Ar p.roads.length cr] (.slice Ad ds.length cd) (.slice A2 ch.length c2) ch [] [] (.slice none 0 0) (.slice none 0 0) (w2.alloc (.cells #[.slice Ad ds.length cd, .slice none 0 0, .slice none 0 0, .slice A2 ch.length c2] 45)) :=
    ⟨blk_new w2 _, World.ownsRow_nil _ _ _ _, World.ownsRow_nil _ _ _ _, (fun q e => by cases e), below_al (below_then hb2 hb2.size hbl) _, blk_alloc (blk_below a0 hbl) _, blk_alloc (blk_below a1 hbl) _, Rd.below (rdI_of_owns hown2) (below_al (below_rf w2) _), (fun q hq => by have := (hcb q hq).2; omega), by have := hbl.size; simp; omega⟩
  have HTI := Lib.hid hti
  have p2 := cell_of_blk hti.box 2
  simp only [List.getElem?_toArray, List.getElem?_cons_succ, List.getElem?_cons_zero] at p2
  clear hb2 a0 a1 a2 hown2 hbl hcb hti HCL
  go_wp2_with fail
  clear p2
  go_loopg [8, 9, 17] p.roads.length (fun gg s8 s9 s17 wr => ∃ (k : Nat) (vc vo : Value), k ≤ p.roads.length ∧ p.roads.length - k ≤ gg ∧ s17 = .int .i64 k ∧
    Hid (TI w (w2.heap.size + 1) w2.heap.size #[.int .i64 p.cars, .int .i64 p.first, .slice Ar p.roads.length cr] (.slice Ad ds.length cd) (.slice A2 ch.length c2) ch (closedL p ds k) (openedL p ds k) vc vo wr))
  case atStart => exact ⟨0, _, _, Nat.zero_le _, by omega, rfl, HTI⟩
  case round =>
    clear HTI
    obtain ⟨k, vc, vo, hk, hgg, rfl, HT⟩ := hrel
    by_cases hlt : k < p.roads.length
    · have hx := getD_w hlt
      have hbd := HPB.out.road _ (List.mem_of_getElem? hx)
      have hsp := HPB.out.span hbd
      have hld := hbd.lead
      have htr := hbd.tar
      have hlg := hbd.lag
      obtain ⟨b, off, Ah, c', rfl, hb0, hh, d0, d1, d2, d3, d4, d5, d6, d7⟩ := Rd.way HR.out k _ hx
      have hbl0 := HT.out.bel
      replace d0 := (hbl0.cell (p := ⟨b, off + k * 8, none⟩) hb0).trans d0
      replace d1 := (hbl0.cell (p := ⟨b, off + k * 8 + 1, none⟩) hb0).trans d1
      replace d2 := (hbl0.cell (p := ⟨b, off + k * 8 + 2, none⟩) hb0).trans d2
      replace d3 := (hbl0.cell (p := ⟨b, off + k * 8 + 3, none⟩) hb0).trans d3
      replace d4 := (hbl0.cell (p := ⟨b, off + k * 8 + 4, none⟩) hb0).trans d4
      replace d5 := (hbl0.cell (p := ⟨b, off + k * 8 + 5, none⟩) hb0).trans d5
      replace d6 := (hbl0.cell (p := ⟨b, off + k * 8 + 6, none⟩) hb0).trans d6
      replace d7 := (hbl0.cell (p := ⟨b, off + k * 8 + 7, none⟩) hb0).trans d7
      have hdk := getD_i (xs := ds) (j := k) (by omega)
      have hdb := HDS.out _ (List.mem_of_getElem? hdk)
      obtain ⟨bd, od, rfl, hbd0, hdc⟩ := Rd.i HD.out k _ hdk
      have hcont := fun W hb => HBU.out W hb k _ hx
      have HBK := Lib.hid hcont
      have hllD := (RdR.len HD.out).2
      have HCS := Lib.hid (closedL_succ p ds k)
      have HOS := Lib.hid (openedL_succ p ds k)
      clear hh hx hbd hbl0 hdk hcont
      have hBB : busyOf p (p.roads.getD k zw) = busyOf p (p.roads.getD k zw) := rfl
      obtain ⟨B, hB⟩ : ∃ B, busyOf p (p.roads.getD k zw) = B := ⟨_, rfl⟩
      have hBb : 0 ≤ B ∧ B ≤ 20000 := by rw [← hB]; unfold busyOf; omega
      rw [hB] at HBK HOS
      generalize p.roads.getD k zw = x at *
      generalize ds.getD k 0 = dk at *
      clear hBB hB hsp htr hlg
      go_upto_region 5 with fail
      have hwb : wr.heap.size < (wr.alloc (.cells #[.int .i64 x.tar, .int .i64 x.lead, .int .i64 x.lag, .int .i64 x.gap, .bool x.grp, .int .i64 x.wait, .int .i64 x.most, .slice Ah x.hrs.length c'] 41)).heap.size := by simp
      have HTb : Hid (TI w (w2.heap.size + 1) w2.heap.size #[.int .i64 p.cars, .int .i64 p.first, .slice (some ⟨b, off, none⟩) p.roads.length cr] (.slice (some ⟨bd, od, none⟩) ds.length cd) (.slice A2 ch.length c2) ch (closedL p ds k) (openedL p ds k) vc vo (wr.alloc (.cells #[.int .i64 x.tar, .int .i64 x.lead, .int .i64 x.lag, .int .i64 x.gap, .bool x.grp, .int .i64 x.wait, .int .i64 x.most, .slice Ah x.hrs.length c'] 41))) := Lib.hid (HT.out.below (below_al (below_rf wr) _))
      have hbx := blk_new wr (.cells #[.int .i64 x.tar, .int .i64 x.lead, .int .i64 x.lag, .int .i64 x.gap, .bool x.grp, .int .i64 x.wait, .int .i64 x.most, .slice Ah x.hrs.length c'] 41)
      generalize hgen : wr.alloc (.cells #[.int .i64 x.tar, .int .i64 x.lead, .int .i64 x.lag, .int .i64 x.gap, .bool x.grp, .int .i64 x.wait, .int .i64 x.most, .slice Ah x.hrs.length c'] 41) = wb at *
      have t1 := cell_of_blk hbx 1
      have y1 := cell_of_blk HTb.out.tab 1
      have yf := frozen_of_blk HTb.out.tab 1
      have dc := (HTb.out.bel.cell (p := ⟨bd, od + k, none⟩) hbd0).trans hdc
      simp only [List.getElem?_toArray, List.getElem?_cons_succ, List.getElem?_cons_zero] at t1 y1
      clear d0 d1 d2 d3 d4 d5 d6 d7 hbx hgen HT hdc
      have HDC0 : Hid (w.cell? ⟨bd, od + k, none⟩ = some (.int .i64 dk)) := Lib.hid ((HTb.out.bel.cell (p := ⟨bd, od + k, none⟩) hbd0).symm.trans dc)
      have hk1 : k < ds.length := by omega
      have nn1 : w2.heap.size ≠ wb.heap.size := by have := HTb.out.bs; omega
      have nn2 : bd ≠ wb.heap.size := by have := HTb.out.bel.size; omega
      have nn3 : wr.heap.size ≠ wb.heap.size := by omega
      have hw5 : IntKind.i64.wrap (dk - x.lead) = dk - x.lead := by simp only [IntKind.wrap_i64]; omega
      have hw6 : IntKind.i64.wrap (dk + B) = dk + B := by simp only [IntKind.wrap_i64]; omega
      have hk2 : (k : Int) < (ds.length : Int) := by omega
      have ya : (wb.alloc (.cells #[.int .i64 (dk - x.lead)] 3)).cell? ⟨w2.heap.size, 1, none⟩ = some vc := (World.cell?_alloc_some wb _ _ (by rw [y1]; rfl)).trans y1
      go_cut [] (fun wz => ∃ vc', Hid (TI w (w2.heap.size + 1) w2.heap.size #[.int .i64 p.cars, .int .i64 p.first, .slice (some ⟨b, off, none⟩) p.roads.length cr] (.slice (some ⟨bd, od, none⟩) ds.length cd) (.slice A2 ch.length c2) ch (closedL p ds (k + 1)) (openedL p ds k) vc' vo wz))
      case first =>
        go_region_law (
          refine step_append_int rfl (.tmp 23) (.tmp 31) rfl (w2.heap.size + 1) Try.underlying25 info3 vc (closedL p ds k) rfl (HTb.out.below (below_al (below_dr (below_rf wb)) _)).ocl (dk - x.lead) _ rfl ((cell_of_blk (blk_new wb.drew _) 0).trans rfl) (by rw [closedL_len]; omega) (HTb.out.below (below_al (below_dr (below_rf wb)) _)).bs.2.2 ?_; 
          intro v' w3 hown hgrow hat
          obtain ⟨A3, c3, rfl⟩ := owns_slice hown
          have HT3 := Lib.hid ((HTb.out.below (below_al (below_dr (below_rf wb)) _)).pushC hown hgrow hat)
          have tn := blk_grown (HTb.out.below (below_al (below_dr (below_rf wb)) (.cells #[.int .i64 (dk - x.lead)] 3))).tab hgrow (fun e => by have h1 := (World.ownsRow.lt HTb.out.ocl _ e.symm).1; have h2 := HTb.out.bs; omega)
          have z1 := cell_of_blk tn 1
          have zf := frozen_of_blk tn 1
          simp only [List.getElem?_toArray, List.getElem?_cons_succ, List.getElem?_cons_zero] at z1
          clear hown hgrow hat tn)
        all_goals (go_wp2_with fail; go_meet)
        all_goals
          have h := HT3.out
          rw [show (closedL p ds k ++ [dk - x.lead]).length = (closedL p ds k).length + 1 from by simp] at h
          exact ⟨_, by rw [HCS.out]; exact Lib.hid h⟩
      case rest =>
        clear ya t1 y1 yf dc nn1 nn2 nn3 HTb hw5
        obtain ⟨vc', HTc⟩ := hcut
        have y2 := cell_of_blk HTc.out.tab 2
        have dc := (HTc.out.bel.cell (p := ⟨bd, od + k, none⟩) hbd0).trans HDC0.out
        have p0 := cell_of_blk HTc.out.box 0
        have p1 := cell_of_blk HTc.out.box 1
        have p2 := cell_of_blk HTc.out.box 2
        simp only [List.getElem?_toArray, List.getElem?_cons_succ, List.getElem?_cons_zero] at y2 p0 p1 p2
        have HBZ : Hid (Calls Try.prog 82 #[.agg #[.int .i64 p.cars, .int .i64 p.first, .slice (some ⟨b, off, none⟩) p.roads.length cr], .int .i64 k] wc.drew fun e w' => e = .returned (.int .i64 B) ∧ Hid (TI w (w2.heap.size + 1) w2.heap.size #[.int .i64 p.cars, .int .i64 p.first, .slice (some ⟨b, off, none⟩) p.roads.length cr] (.slice (some ⟨bd, od, none⟩) ds.length cd) (.slice A2 ch.length c2) ch (closedL p ds (k + 1)) (openedL p ds k) vc' vo w') ∧ w'.cell? ⟨w2.heap.size, 2, none⟩ = some vo ∧ (w'.alloc (.cells #[.int .i64 (dk + B)] 3)).cell? ⟨w2.heap.size, 2, none⟩ = some vo ∧ w'.cell? ⟨bd, od + k, none⟩ = some (.int .i64 dk) ∧ w'.cell? ⟨w.heap.size, 0, none⟩ = some (.int .i64 p.cars) ∧ w'.cell? ⟨w.heap.size, 1, none⟩ = some (.int .i64 p.first) ∧ w'.cell? ⟨w.heap.size, 2, none⟩ = some (.slice (some ⟨b, off, none⟩) p.roads.length cr)) := Lib.hid ((HBK.out wc.drew (HTc.out.below (below_dr (below_rf wc))).bel).mono (by
          rintro e w' ⟨rfl, hb⟩
          have ht := (HTc.out.below (below_dr (below_rf wc))).below hb
          have h2 := (cell_of_blk ht.tab 2).trans rfl
          exact ⟨rfl, Lib.hid ht, h2, (World.cell?_alloc_some w' _ _ (by rw [h2]; rfl)).trans h2, (ht.bel.cell (p := ⟨bd, od + k, none⟩) hbd0).trans HDC0.out, (cell_of_blk ht.box 0).trans rfl, (cell_of_blk ht.box 1).trans rfl, (cell_of_blk ht.box 2).trans rfl⟩))
        have mm1 : w2.heap.size ≠ bd := by have := HTc.out.bs; omega
        have mm2 : w2.heap.size ≠ w.heap.size := by have := HTc.out.bs; omega
        have HDC := Lib.hid (HTc.out.bel)
        clear HBK HBU HR HDS HPB hld hdb HTc
        go_wp2_with fail
        have en82 := enters_of Try.func82 (by kernel_rfl) rfl
        go_region_law (first
          | (
              refine step_append_int rfl (.tmp 35) (.tmp 44) rfl (w2.heap.size + 1) Try.underlying25 info3 vo (openedL p ds k) rfl (HT5.out.below (below_al (below_rf w5) _)).oop (dk + B) _ rfl ((cell_of_blk (blk_new w5 _) 0).trans rfl) (by rw [openedL_len]; omega) (HT5.out.below (below_al (below_rf w5) _)).bs.2.2 ?_
              intro v' w3 hown hgrow hat
              obtain ⟨A3, c3, rfl⟩ := owns_slice hown
              have ht3 := (HT5.out.below (below_al (below_rf w5) _)).pushO hown hgrow hat
              have HT3 := Lib.hid ht3
              have hrow : ∀ q, q ≤ w2.heap.size → some q ≠ vo.ownBlock := fun q hq e => by have h1 := (World.ownsRow.lt HT5.out.oop _ e.symm).1; omega
              have tn := blk_grown (HT5.out.below (below_al (below_rf w5) (.cells #[.int .i64 (dk + B)] 3))).tab hgrow (hrow _ (Nat.le_refl _))
              have tb := blk_grown (HT5.out.below (below_al (below_rf w5) (.cells #[.int .i64 (dk + B)] 3))).box hgrow (hrow _ (by have := HT5.out.bs; omega))
              have z1 := cell_of_blk tn 2
              have zf := frozen_of_blk tn 2
              have z4 := cell_of_blk tb 0
              have z5 := cell_of_blk tb 1
              have z6 := cell_of_blk tb 2
              have z3 : w3.cell? ⟨bd, od + k, none⟩ = some (.int .i64 dk) := ((((HT5.out.below (below_al (below_rf w5) (.cells #[.int .i64 (dk + B)] 3))).bel.grown hgrow (HT5.out.below (below_al (below_rf w5) (.cells #[.int .i64 (dk + B)] 3))).bel.size (fun q e => by have h1 := (World.ownsRow.lt HT5.out.oop _ e).1; have := HT5.out.bs; omega))).cell (p := ⟨bd, od + k, none⟩) hbd0).trans HDC0.out
              simp only [List.getElem?_toArray, List.getElem?_cons_succ, List.getElem?_cons_zero] at z1 z4 z5 z6
              clear hown hgrow hat tn tb ht3 hrow)
          | (refine step_calls rfl 82 #[.agg #[.int .i64 p.cars, .int .i64 p.first, .slice (some ⟨b, off, none⟩) p.roads.length cr], .int .i64 k] (exec_val2 82 en82 _ _ _ (.tmp 40) (.tmp 41) #[38, 3] rfl (.agg #[.int .i64 p.cars, .int .i64 p.first, .slice (some ⟨b, off, none⟩) p.roads.length cr]) (.int .i64 k) rfl rfl) HBZ.out ?_; rintro e w5 ⟨rfl, HT5, u2, ua, u3, u4, u5, u6⟩; refine ⟨_, rfl, ?_⟩))
        all_goals
          go_wp2_with fail
          go_roundg (p.roads.length - (k + 1))
          case measure => omega
          case rel =>
            refine ⟨k + 1, vc', .slice A3 ((openedL p ds k).length + 1) c3, by omega, by omega, by go_num, ?_⟩
            have h := HT3.out
            rw [show (openedL p ds k ++ [dk + B]).length = (openedL p ds k).length + 1 from by simp] at h
            rw [HOS.out]
            exact Lib.hid h
    · obtain rfl : k = p.roads.length := by omega
      have y0 := cell_of_blk HT.out.tab 0
      have y1 := cell_of_blk HT.out.tab 1
      have y2 := cell_of_blk HT.out.tab 2
      have y3 := cell_of_blk HT.out.tab 3
      have r0 := cell_of_blk HT.out.res 0
      have r1 := cell_of_blk HT.out.res 1
      have r2 := cell_of_blk HT.out.res 2
      have r3 := cell_of_blk HT.out.res 3
      have rf := frozen_of_blk HT.out.res
      simp only [List.getElem?_toArray, List.getElem?_cons_succ, List.getElem?_cons_zero] at y0 y1 y2 y3 r0 r1 r2 r3
      obtain ⟨Av1, cv1, hv1⟩ := owns_slice HT.out.ocl
      obtain ⟨Av2, cv2, hv2⟩ := owns_slice HT.out.oop
      subst hv1 hv2
      clear hlt hgg
      go_wp2_with fail
      have rr : ((((wr.setCell ⟨w.heap.size + 1, 0, none⟩ (.slice Ad ds.length cd)).setCell ⟨w.heap.size + 1, 1, none⟩ (.slice Av1 (closedL p ds p.roads.length).length cv1)).setCell ⟨w.heap.size + 1, 2, none⟩ (.slice Av2 (openedL p ds p.roads.length).length cv2)).setCell ⟨w.heap.size + 1, 3, none⟩ (.slice A2 ch.length c2)).heap[w.heap.size + 1]? = some (.cells #[.slice Ad ds.length cd, .slice Av1 (closedL p ds p.roads.length).length cv1, .slice Av2 (openedL p ds p.roads.length).length cv2, .slice A2 ch.length c2] 45 (0, 0)) := by
        have h := blk_set (blk_set (blk_set (blk_set HT.out.res 0 (.slice Ad ds.length cd)) 1 (.slice Av1 (closedL p ds p.roads.length).length cv1)) 2 (.slice Av2 (openedL p ds p.roads.length).length cv2)) 3 (.slice A2 ch.length c2)
        simp only [List.setIfInBounds_toArray, List.set_cons_zero, List.set_cons_succ] at h
        exact h
      have hg : wr.grownBy ((((wr.setCell ⟨w.heap.size + 1, 0, none⟩ (.slice Ad ds.length cd)).setCell ⟨w.heap.size + 1, 1, none⟩ (.slice Av1 (closedL p ds p.roads.length).length cv1)).setCell ⟨w.heap.size + 1, 2, none⟩ (.slice Av2 (openedL p ds p.roads.length).length cv2)).setCell ⟨w.heap.size + 1, 3, none⟩ (.slice A2 ch.length c2)) (some (w.heap.size + 1)) := by
        have g0 := gb_set (gb_refl wr (some (w.heap.size + 1))) ⟨w.heap.size + 1, 0, none⟩ (.inl rfl) (.slice Ad ds.length cd)
        have g1 := gb_set g0 ⟨w.heap.size + 1, 1, none⟩ (.inl rfl) (.slice Av1 (closedL p ds p.roads.length).length cv1)
        have g2 := gb_set g1 ⟨w.heap.size + 1, 2, none⟩ (.inl rfl) (.slice Av2 (openedL p ds p.roads.length).length cv2)
        exact gb_set g2 ⟨w.heap.size + 1, 3, none⟩ (.inl rfl) (.slice A2 ch.length c2)
      generalize ((((wr.setCell ⟨w.heap.size + 1, 0, none⟩ (.slice Ad ds.length cd)).setCell ⟨w.heap.size + 1, 1, none⟩ (.slice Av1 (closedL p ds p.roads.length).length cv1)).setCell ⟨w.heap.size + 1, 2, none⟩ (.slice Av2 (openedL p ds p.roads.length).length cv2)).setCell ⟨w.heap.size + 1, 3, none⟩ (.slice A2 ch.length c2)) = wf at *
      have e0 := cell_of_blk rr 0
      have e1 := cell_of_blk rr 1
      have e2 := cell_of_blk rr 2
      have e3 := cell_of_blk rr 3
      simp only [List.getElem?_toArray, List.getElem?_cons_succ, List.getElem?_cons_zero] at e0 e1 e2 e3
      have HGW := Lib.hid hg
      clear rr hg y0 y1 y2 y3 r0 r1 r2 r3 rf
      have hres : ∀ tmps : Array Value, tmps[6]? = some (.pointer (some ⟨w.heap.size + 1, 0, none⟩)) → (results Try.f67 tmps).run Try.prog wf = .ok (.agg #[.slice Ad ds.length cd, .slice Av1 (closedL p ds p.roads.length).length cv1, .slice Av2 (openedL p ds p.roads.length).length cv2, .slice A2 ch.length c2]) wf := by
        intro tmps ht
        simp [results, Try.results67, ht, e0, e1, e2, e3, go_sem]
      refine bodyPost_ret (hres _ rfl) rfl ?_
      have hbs := HT.out.bs
      refine ⟨_, _, _, rfl, ?_, ?_, ?_, ?_, ?_, fun q hq => (by have := (World.ownsRow.lt HT.out.ocl q hq).1; omega), fun q hq => (by have := (World.ownsRow.lt HT.out.oop q hq).1; omega), HVF.out⟩
      · exact Rd.grown (rdI_of_owns HT.out.ocl) HGW.out (fun q hq e => by injection e with e; have := (World.ownsRow.lt HT.out.ocl _ hq).1; omega)
      · exact Rd.grown (rdI_of_owns HT.out.oop) HGW.out (fun q hq e => by injection e with e; have := (World.ownsRow.lt HT.out.oop _ hq).1; omega)
      · exact Rd.grown HT.out.rch HGW.out (fun q hq e => by injection e with e; exact HVC.out (e ▸ hq))
      · refine Rd.below HD.out ?_
        exact HT.out.bel.grown HGW.out HT.out.bel.size (fun q e => by injection e with e; omega)
      · exact HT.out.bel.grown HGW.out HT.out.bel.size (fun q e => by injection e with e; omega)
end Go.Proofs.Ytpknonebnipcgaa.Of
