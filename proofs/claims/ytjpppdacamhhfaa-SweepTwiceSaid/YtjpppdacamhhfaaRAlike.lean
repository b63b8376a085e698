/- The document's Alike computes the plain function. Conditions: heaps that may be, roots that fit. -/
import Derived.Test.YtjpppdacamhhfaaRSame
namespace Go.Proofs.Ytjpppdacamhhfaa
open Go.RowKit
set_option linter.unusedVariables false

theorem tells_ex (ws rs : List Int) : ∃ f, Tells ws rs f := ⟨fun p => @decide (Rch ws rs p) (Classical.propDecidable _), fun p => by simp⟩
def RAlikeEnd (ws rs vs qs : List Int) (w : World) (e : Ending) (w' : World) : Prop :=
  ∃ f g, Tells ws rs f ∧ Tells vs qs g ∧ e = .returned (.bool (alikeR ws rs f vs qs g)) ∧ Below w.heap.size w w'
theorem tell_fit {ws rs : List Int} {f : Nat → Bool} (hok : OkH ws) (hr : ∀ o ∈ rs, fitsB ws o = true) (hf : Tells ws rs f) {p : Nat} (h : f p = true) : p ∈ places ws ∧ p + 3 ≤ ws.length := by
  have h1 := ((hf p).1 h).pl hok hr
  exact ⟨h1, (not_bad (places_mem h1).2.2).1⟩

set_option maxRecDepth 100000 in
set_option maxHeartbeats 4000000 in
theorem ralike_any (ws rs vs qs : List Int) (b o c b' o' c' : Nat) (B B' : Option Addr) (d d' : Nat) (w : World) (hr : Row w b o ws) (hlt : b < w.heap.size) (hok : OkH ws) (hw : I64 ws)
    (hB : Ints w B rs) (hri : I64 rs) (hrl : rs.length ≤ 1000000) (hfit : ∀ o ∈ rs, fitsB ws o = true)
    (hr' : Row w b' o' vs) (hlt' : b' < w.heap.size) (hok' : OkH vs) (hw' : I64 vs) (hB' : Ints w B' qs) (hri' : I64 qs) (hrl' : qs.length ≤ 1000000) (hfit' : ∀ o ∈ qs, fitsB vs o = true) :
    Calls Try.prog 57 #[.agg #[.slice (some ⟨b, o, none⟩) ws.length c], .slice B rs.length d, .agg #[.slice (some ⟨b', o', none⟩) vs.length c'], .slice B' qs.length d'] w (RAlikeEnd ws rs vs qs w) := by
  have hx0 : Below w.heap.size w ((w.alloc (.cells #[.slice (some ⟨b, o, none⟩) ws.length c] 33)).alloc (.cells #[.slice (some ⟨b', o', none⟩) vs.length c'] 33)) := ((Below.refl _ _).alloc (Nat.le_refl _) _).alloc (by simp) _
  have hh0 : Blk ((w.alloc (.cells #[.slice (some ⟨b, o, none⟩) ws.length c] 33)).alloc (.cells #[.slice (some ⟨b', o', none⟩) vs.length c'] 33)) w.heap.size 33 #[.slice (some ⟨b, o, none⟩) ws.length c] := (Blk.new _ _ _).alloc _
  have hk0 : Blk ((w.alloc (.cells #[.slice (some ⟨b, o, none⟩) ws.length c] 33)).alloc (.cells #[.slice (some ⟨b', o', none⟩) vs.length c'] 33)) (w.heap.size + 1) 33 #[.slice (some ⟨b', o', none⟩) vs.length c'] := by
    have := Blk.new (w.alloc (.cells #[.slice (some ⟨b, o, none⟩) ws.length c] 33)) 33 #[.slice (some ⟨b', o', none⟩) vs.length c']
    simpa using this
  obtain ⟨q1, q2⟩ : 2 ≤ ws.length ∧ ws.length ≤ 2000 := ⟨hok.two, hok.most⟩
  obtain ⟨q3, q4⟩ : 2 ≤ vs.length ∧ vs.length ≤ 2000 := ⟨hok'.two, hok'.most⟩
  have HR := Lib.hid (hr.below hx0 hlt); have HR' := Lib.hid (hr'.below hx0 hlt'); have HX0 := Lib.hid hx0; have HH0 := Lib.hid hh0; have HK0 := Lib.hid hk0
  have HB := Lib.hid (hB.below hx0); have HB' := Lib.hid (hB'.below hx0)
  have HW := Lib.hid hw; have HOK := Lib.hid hok; have HRI := Lib.hid hri; have HFIT := Lib.hid hfit
  have HW' := Lib.hid hw'; have HOK' := Lib.hid hok'; have HRI' := Lib.hid hri'; have HFIT' := Lib.hid hfit'
  have hsz : w.heap.size + 2 ≤ ((w.alloc (.cells #[.slice (some ⟨b, o, none⟩) ws.length c] 33)).alloc (.cells #[.slice (some ⟨b', o', none⟩) vs.length c'] 33)).heap.size := by simp
  clear hr hx0 hh0 hk0 hB hw hok hri hfit hr' hB' hw' hok' hri' hfit'
  by_cases hlen : rs.length = qs.length
  · have hle : rs.length ≤ qs.length := by omega
    have hge : qs.length ≤ rs.length := by omega
    have HLEN := Lib.hid hlen
    have hlb : (((rs.length : Nat) : Int) != ((qs.length : Nat) : Int)) = false := by simp; omega
    clear hlen
    go_enter Try.func57, Try.ntmps57
    go_wp2_with fail
    generalize hw1 : ((w.alloc (.cells #[.slice (some ⟨b, o, none⟩) ws.length c] 33)).alloc (.cells #[.slice (some ⟨b', o', none⟩) vs.length c'] 33)) = w1 at *
    clear hw1
    refine (rreach_any ws rs b o c B d w1 HR.out (by omega) HOK.out HW.out HB.out HRI.out hrl HFIT.out).mono ?_
    rintro e w2 ⟨f, G, hT, rfl, hO2, hb2⟩
    have HT := Lib.hid hT; have HM2 := Lib.hid (show RowB w2 G f ws.length from fun j hj => hO2.cell j hj)
    have hG2 : G < w2.heap.size := hO2.block.2
    have hs12 : w1.heap.size ≤ w2.heap.size := hb2.size
    have HX2 := Lib.hid (HX0.out.trans (hb2.mono HX0.out.size))
    have HR2 := Lib.hid (HR.out.below hb2 (by omega)); have HR2' := Lib.hid (HR'.out.below hb2 (by omega))
    have HB2 := Lib.hid (HB.out.below hb2); have HB2' := Lib.hid (HB'.out.below hb2)
    have HH2 := Lib.hid (HH0.out.below hb2 HH0.out.lt); have HK2 := Lib.hid (HK0.out.below hb2 HK0.out.lt)
    obtain ⟨x1, x2, x3⟩ := HK2.out.f1
    clear hT hO2 hb2
    go_wp2_with fail
    refine (rreach_any vs qs b' o' c' B' d' w2 HR2'.out (by omega) HOK'.out HW'.out HB2'.out HRI'.out hrl' HFIT'.out).mono ?_
    rintro e w3 ⟨g, H, hT', rfl, hO3, hb3⟩
    have HT' := Lib.hid hT'
    have HX3 := Lib.hid (HX2.out.trans (hb3.mono HX2.out.size))
    have HS3 := Lib.hid (show Sides w3 b o ws G f b' o' vs H g from ⟨HR2.out.below hb3 (by omega), HM2.out.below hb3 hG2, HR2'.out.below hb3 (by omega), fun j hj => hO3.cell j hj⟩)
    have HB3 := Lib.hid (HB2.out.below hb3); have HB3' := Lib.hid (HB2'.out.below hb3)
    have HH3 := Lib.hid (HH2.out.below hb3 HH2.out.lt); have HK3 := Lib.hid (HK2.out.below hb3 HK2.out.lt)
    clear hT' hO3 hb3 x1 x2 x3
    go_wp2_with fail
    go_loop [11, 12] (fun n i => ∃ j : Nat, i = .int .i64 j ∧ j ≤ ws.length ∧ n = .int .i64 (cnt f j : Nat)) (fun _ i => ws.length - (intOf i).toNat)
    case atStart => exact ⟨0, rfl, Nat.zero_le _, rfl⟩
    case round =>
      obtain ⟨j, rfl, hj, rfl⟩ := hrel
      have hcl := cnt_le f j
      by_cases hjl : j < ws.length
      · have hc := HS3.out.m1 j hjl
        cases hfj : f j
        · rw [hfj] at hc
          have HE : Hid (cnt f (j + 1) = cnt f j) := by show cnt f j + (if f j = true then 1 else 0) = _; rw [hfj]; rfl
          go_wp2
          go_round
          case rel => exact ⟨j + 1, by go_num, by omega, by rw [HE.out]⟩
          case measure => simp [intOf]; omega
        · rw [hfj] at hc
          have HE : Hid (cnt f (j + 1) = cnt f j + 1) := by show cnt f j + (if f j = true then 1 else 0) = _; rw [hfj]; rfl
          go_wp2
          go_round
          case rel => exact ⟨j + 1, by go_num, by omega, by rw [HE.out]; go_num⟩
          case measure => simp [intOf]; omega
      · obtain rfl : j = ws.length := by omega
        go_wp2_with fail
        go_loop [11, 13] (fun n i => ∃ j : Nat, i = .int .i64 j ∧ j ≤ vs.length ∧ n = .int .i64 ((cnt f ws.length : Int) - (cnt g j : Int))) (fun _ i => vs.length - (intOf i).toNat)
        case atStart => exact ⟨0, rfl, Nat.zero_le _, by simp [cnt]⟩
        case round =>
          obtain ⟨j, rfl, hj, rfl⟩ := hrel
          have hcl2 := cnt_le g j
          by_cases hjl : j < vs.length
          · have hc := HS3.out.m2 j hjl
            cases hgj : g j
            · rw [hgj] at hc
              have HE : Hid (cnt g (j + 1) = cnt g j) := by show cnt g j + (if g j = true then 1 else 0) = _; rw [hgj]; rfl
              go_wp2
              go_round
              case rel => exact ⟨j + 1, by go_num, by omega, by rw [HE.out]⟩
              case measure => simp [intOf]; omega
            · rw [hgj] at hc
              have HE : Hid (cnt g (j + 1) = cnt g j + 1) := by show cnt g j + (if g j = true then 1 else 0) = _; rw [hgj]; rfl
              go_wp2
              go_round
              case rel => exact ⟨j + 1, by go_num, by omega, by rw [HE.out, Int.natCast_add, Int.natCast_one, Int.sub_sub]⟩
              case measure => simp [intOf]; omega
          · obtain rfl : j = vs.length := by omega
            by_cases hcn : cnt f ws.length = cnt g vs.length
            · have hcb : (((cnt f ws.length : Nat) : Int) - ((cnt g vs.length : Nat) : Int) != 0) = false := by simp; omega
              have HCN := Lib.hid hcn
              clear hcn
              go_wp2_with fail
              have hsame : ∀ (n k : Nat) (x y : Int), fitsB ws x = true → fitsB vs y = true → Calls Try.prog 105 #[.slice (some ⟨b, o, none⟩) ws.length c, .slice (some ⟨G, 0, none⟩) ws.length ws.length, .int .i64 x, .slice (some ⟨b', o', none⟩) vs.length c', .slice (some ⟨H, 0, none⟩) vs.length vs.length, .int .i64 y] (w3.drewN (n + k)) fun e w' => e = .returned (.bool (sameB ws f x vs g y)) ∧ ∃ m, w' = w3.drewN (n + m) := fun n k x y hx hy =>
                quiet_add (same_any (HS3.out.drewN (n + k)) HW.out HW'.out (by omega) (by omega) c ws.length c' vs.length x y hx hy)
              have hthin : ∀ (n p q : Nat), p ∈ places ws → q ∈ places vs → Calls Try.prog 107 #[.slice (some ⟨b, o, none⟩) ws.length c, .slice (some ⟨G, 0, none⟩) ws.length ws.length, .int .i64 p, .slice (some ⟨b', o', none⟩) vs.length c', .slice (some ⟨H, 0, none⟩) vs.length vs.length, .int .i64 q] (w3.drewN n) fun e w' => e = .returned (.bool (thingsB ws f p vs g q)) ∧ ∃ m, w' = w3.drewN m := fun n p q hp hq =>
                quiet_draws (rthings_alike (HS3.out.drewN n) HW.out HW'.out HOK.out HOK'.out c ws.length c' vs.length p q hp hq)
              have hhash : ∀ (n k : Nat) (x : Int), Calls Try.prog 106 #[.slice (some ⟨b', o', none⟩) vs.length c', .slice (some ⟨H, 0, none⟩) vs.length vs.length, .int .i64 x] (w3.drewN (n + k)) fun e w' => e = .returned (.int .i64 (hashI (hashed vs g x))) ∧ ∃ m, w' = w3.drewN (n + m) := fun n k x =>
                quiet_add_left (hashed_any (HS3.out.drewN (n + k)).r2 (HS3.out.drewN (n + k)).m2 HW'.out (by omega) (fun q hq => (tell_fit HOK'.out HFIT'.out HT'.out hq).2) c' vs.length x)
              have HSAME := Lib.hid hsame; have HTHIN := Lib.hid hthin; have HHASH := Lib.hid hhash
              obtain ⟨x1, x2, x3⟩ := HH3.out.f1
              obtain ⟨y1, y2, y3⟩ := HK3.out.f1
              clear hsame hthin hhash
              have hE : alikeR ws rs f vs qs g = (allTo (fun i => sameB ws f (nth rs i) vs g (nth qs i)) rs.length && allTo (thingAt ws f vs g) ws.length) := by
                unfold alikeR; rw [decide_eq_true HLEN.out, decide_eq_true HCN.out]; rfl
              have HE := Lib.hid hE
              clear hE
              go_loopw [14] (fun i wr => ∃ j m : Nat, i = .int .i64 j ∧ j ≤ rs.length ∧ wr = w3.drewN m ∧ allTo (fun i => sameB ws f (nth rs i) vs g (nth qs i)) j = true) (fun i _ => rs.length - (intOf i).toNat)
              case atStart => exact ⟨0, 0, rfl, Nat.zero_le _, rfl, rfl⟩
              case round =>
                obtain ⟨j, m, rfl, hj, rfl, hall⟩ := hrel
                have HALL := Lib.hid hall; clear hall
                by_cases hjl : j < rs.length
                · obtain ⟨b1, o1, rfl, _, r1⟩ := HB3.out (by omega)
                  obtain ⟨b2, o2, rfl, _, r2⟩ := HB3'.out (by omega)
                  have c1 := r1 j hjl
                  have c2 := r2 j (by omega)
                  have hfx := HFIT.out (nth rs j) (by rw [nth_eq hjl]; exact List.getElem_mem _)
                  have hfy := HFIT'.out (nth qs j) (by rw [nth_eq (by omega)]; exact List.getElem_mem _)
                  have g1 : (0 : Int) ≤ (j : Int) := by omega
                  have g2 : (j : Int) < (rs.length : Int) := by omega
                  have g3 : (j : Int) < (qs.length : Int) := by omega
                  clear r1 r2
                  cases hsb : sameB ws f (nth rs j) vs g (nth qs j)
                  all_goals
                    have hc105 := fun n k => HSAME.out n k _ _ hfx hfy
                    rw [hsb] at hc105
                    have HC := Lib.hid hc105
                    have HSB := Lib.hid hsb
                    clear hc105 hsb hfx hfy
                  all_goals
                    go_wp2_with fail
                    go_quiet ((go_at_call 105; exact HC.out _ _))
                    go_wp2
                  all_goals
                    first
                      | (go_roundw
                         case rel => exact ⟨j + 1, _, by go_num, by omega, rfl, by rw [allTo, HALL.out]; exact HSB.out⟩
                         case measure => simp [intOf]; omega)
                      | (go_ret
                         exact ⟨f, g, HT.out, HT'.out, ret_bool (by rw [HE.out, allTo_no hjl HSB.out]; rfl), HX3.out.trans (belowN _ _ _)⟩)
                · obtain rfl : j = rs.length := by omega
                  have hE2 : Hid (alikeR ws rs f vs qs g = allTo (thingAt ws f vs g) ws.length) := by show _ = _; rw [HE.out, HALL.out]; rfl
                  clear HE HALL
                  go_wp2_with fail
                  go_loopw [16] (fun i wr => ∃ j m : Nat, i = .int .i64 j ∧ j ≤ ws.length ∧ wr = w3.drewN m ∧ allTo (thingAt ws f vs g) j = true) (fun i _ => ws.length - (intOf i).toNat)
                  case atStart => exact ⟨0, m, rfl, Nat.zero_le _, rfl, rfl⟩
                  case round =>
                    obtain ⟨p, m, rfl, hp, rfl, hall⟩ := hrel
                    have HALL := Lib.hid hall; clear hall
                    by_cases hpl : p < ws.length
                    · have hcm := HS3.out.m1 p hpl
                      cases hfp : f p
                      · have HN : Hid (thingAt ws f vs g p = true) := by show _ = _; unfold thingAt; rw [hfp]; rfl
                        rw [hfp] at hcm
                        clear hfp
                        go_wp2
                        go_roundw
                        case rel => exact ⟨p + 1, m, by go_num, by omega, rfl, by rw [allTo, HALL.out]; exact HN.out⟩
                        case measure => simp [intOf]; omega
                      · obtain ⟨hpm, hp3⟩ := tell_fit HOK.out HFIT.out HT.out hfp
                        have hch := HS3.out.r1 (p + 1) (by omega)
                        have HPM := Lib.hid hpm
                        have HTA : Hid (thingAt ws f vs g p = (match hashed vs g (nth ws (p + 1)) with | none => false | some q => thingsB ws f p vs g q)) := by show _ = _; unfold thingAt; rw [hfp]; rfl
                        rw [hfp] at hcm
                        clear hfp hpm
                        have g1 : (0 : Int) ≤ (p : Int) + 1 := by omega
                        have g2 : (p : Int) + 1 < (ws.length : Int) := by omega
                        have g3 : ((p : Int) + 1).toNat = p + 1 := by omega
                        have g4 : IntKind.i64.wrap ((p : Int) + 1) = (p : Int) + 1 := IntWalk.i64_in _ (by omega)
                        have hc106 := fun n k => HHASH.out n k (nth ws (p + 1))
                        cases hh : hashed vs g (nth ws (p + 1))
                        · rw [hh] at HTA hc106
                          have HC := Lib.hid hc106
                          have HST := Lib.hid (allTo_no hpl HTA.out)
                          unfold hashI at HC
                          clear hc106 hh
                          go_wp2_with fail
                          go_quiet ((go_at_call 106; exact HC.out _ _))
                          clear g3 g4
                          go_wp2
                          go_ret
                          exact ⟨f, g, HT.out, HT'.out, ret_bool (by rw [hE2.out, HST.out]), HX3.out.trans (belowN _ _ _)⟩
                        · rename_i q
                          have hgq := (hashF_some _ _ hh).1
                          obtain ⟨hqm, hq3⟩ := tell_fit HOK'.out HFIT'.out HT'.out hgq
                          rw [hh] at HTA hc106
                          have HC := Lib.hid hc106
                          have hc107 := fun n => HTHIN.out n p q HPM.out hqm
                          unfold hashI at HC
                          clear hc106 hh hgq hqm
                          cases htb : thingsB ws f p vs g q
                          all_goals
                            have hd107 := hc107
                            rw [htb] at hd107
                            have HD := Lib.hid hd107
                            have HTB := Lib.hid (HTA.out.trans htb)
                            clear hd107 htb
                          all_goals
                            clear hc107
                            go_wp2_with fail
                            go_quiet ((go_at_call 106; exact HC.out _ _))
                            clear g3 g4
                            go_wp2_with (go_at_call 107; refine (HD.out _).mono ?_; rintro e w' ⟨rfl, mm, rfl⟩)
                          all_goals
                            first
                              | (go_roundw
                                 case rel => exact ⟨p + 1, _, by go_num, by omega, rfl, by rw [allTo, HALL.out]; exact HTB.out⟩
                                 case measure => simp [intOf]; omega)
                              | (go_ret
                                 exact ⟨f, g, HT.out, HT'.out, ret_bool (by rw [hE2.out, allTo_no hpl HTB.out]), HX3.out.trans (belowN _ _ _)⟩)
                    · obtain rfl : p = ws.length := by omega
                      go_wp2
                      go_ret
                      exact ⟨f, g, HT.out, HT'.out, ret_bool (by rw [hE2.out, HALL.out]), HX3.out.trans (belowN _ _ _)⟩
            · have hcb : (((cnt f ws.length : Nat) : Int) - ((cnt g vs.length : Nat) : Int) != 0) = true := by simp; omega
              have HCN := Lib.hid hcn
              clear hcn
              go_wp2
              go_ret
              exact ⟨f, g, HT.out, HT'.out, ret_bool (by rw [alikeR, decide_eq_false HCN.out]; simp), HX3.out⟩
  · have hlb : (((rs.length : Nat) : Int) != ((qs.length : Nat) : Int)) = true := by simp; omega
    obtain ⟨f, hf⟩ := tells_ex ws rs
    obtain ⟨g, hg⟩ := tells_ex vs qs
    have HF := Lib.hid hf; have HG := Lib.hid hg
    have HE : Hid (alikeR ws rs f vs qs g = false) := by show _ = _; rw [alikeR, decide_eq_false hlen]; rfl
    clear hf hg hlen
    go_enter Try.func57, Try.ntmps57
    go_wp2
    go_ret
    exact ⟨f, g, HF.out, HG.out, ret_bool HE.out.symm, HX0.out⟩
end Go.Proofs.Ytjpppdacamhhfaa
