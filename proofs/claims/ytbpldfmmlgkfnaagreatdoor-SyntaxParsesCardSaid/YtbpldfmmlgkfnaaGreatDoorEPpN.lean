/- The program's parser: primaries. Conditions: what expressions do. -/
import Derived.Test.YtbpldfmmlgkfnaaGreatDoorEMemZ
import Derived.Test.YtbpldfmmlgkfnaaGreatDoorEPpJ
import Derived.Test.YtbpldfmmlgkfnaaGreatDoorERpO
namespace Go.Proofs.YtbpldfmmlgkfnaaGreatDoor
open Go.RowKit
set_option linter.unusedVariables false
theorem atoi_num (t : ByteArray) (h : OkT 2 t) (w : World) : Calls Tryz.prog 58 #[.string t] w fun e w' => e = .returned (.tuple #[.int .i64 (numF 0 t.data.toList : Nat),.nilIface]) ∧ Below w.heap.size w w':=by
 have hz:=num_size h
 have hd:=num_in h
 have hle:=num_le h
 have h0 : 0 < t.size:=by
  cases h with
  | num _ h0 _ _ _ => exact h0
 obtain ⟨b,l,e⟩:=cut_cons h0
 have hall : ∀ c ∈ b :: l,isDg c = true:=fun c hc => by
  rw [← e] at hc
  obtain ⟨j,hj,rfl⟩:=List.getElem_of_mem hc
  rw [bt_list];exact hd j (by rw [size_len] at hj;exact hj)
 have ha:=atoi_digits hall
 rw [← e] at ha
 have hn : numF 0 t.data.toList < 9223372036854775808:=by omega
 rw [if_pos hn] at ha
 refine (Tryz.strconv_Atoi_ok t (by omega) _ ha w).mono ?_
 rintro e' w' ⟨rfl,hw⟩
 refine ⟨rfl,?_⟩
 rcases hw with rfl | ⟨s,rfl⟩
 ·exact Below.refl _ _
 ·exact Lib.bytesWorld_below _ _ _
theorem sees_name {L : List Tok} {x : ByteArray} {s : PS} (h : isP L 1 s = true) : seesP L x s = false:=by
 unfold isP at h
 unfold seesP
 cases e : L[s.i]? with
 | none => rfl
 | some t =>
  rw [e] at h
  have h1 : t.kind = 1:=by simpa using h
  dsimp only
  rw [h1]
  exact Bool.and_false _
theorem bind_id (r : Res) : r = r.bind fun n s => .ok n s:=by cases r <;> rfl
def pLeaf (kd : Int) (s : PS) : Res:=.ok (.mk kd ⟨#[]⟩ 0 []) ⟨s.i,s.dep,s.many + 1⟩
def pNew (E : Env) (s : PS) : Res:=(nameP E.L E.e s).bind fun t s => .ok (.mk 30 t.text 0 []) ⟨s.i,s.dep,s.many + 1⟩
def pR4 (E : Env) (f : Nat) (s : PS) : Res:=if isP E.L 1 s = true then .ok (.mk 31 (textP E.L s) 0 []) ⟨(stepP s).i,(stepP s).dep,(stepP s).many + 1⟩ else heldP E f s
def pR3 (E : Env) (f : Nat) (s : PS) : Res:=if seesP E.L ⟨#[110,101,119]⟩ s = true then pNew E (stepP s) else pR4 E f s
def pR2 (E : Env) (f : Nat) (s : PS) : Res:=if seesP E.L ⟨#[103,97,116,101]⟩ s = true then pLeaf 29 (stepP s) else pR3 E f s
def pR1 (E : Env) (f : Nat) (s : PS) : Res:=if seesP E.L ⟨#[115,101,108,102]⟩ s = true then pLeaf 28 (stepP s) else pR2 E f s
def pR0 (E : Env) (f : Nat) (s : PS) : Res:=if seesP E.L ⟨#[110,105,108]⟩ s = true then pLeaf 27 (stepP s) else pR1 E f s
theorem primary_eq (E : Env) (f : Nat) (s : PS) (h2 : isP E.L 2 s = false) : run E.L E.e (f + 1) .primary s = pR0 E f s:=by
 simp only [run,nodeP,tx_nil,tx_knil,tx_self,tx_gate,tx_new,tx_lp,tx_rp,h2,Bool.false_eq_true,if_false]
 by_cases h1 : isP E.L 1 s = true
 ·rw [if_pos h1]
  unfold pR0 pR1 pR2 pR3 pR4
  rw [if_neg (by rw [sees_name h1];decide),if_neg (by rw [sees_name h1];decide),if_neg (by rw [sees_name h1];decide),if_neg (by rw [sees_name h1];decide),if_pos h1]
 ·rw [if_neg h1]
  unfold pR0 pR1 pR2 pR3 pR4 pLeaf pNew heldP
  rw [if_neg h1]

set_option maxRecDepth 100000 in
set_option maxHeartbeats 3200000 in
theorem pprimary_num {f : Nat} {E : Env} {s : PS} {w : World} (h : PAt w E s) (a2 : isP E.L 2 s = true) : Calls Tryz.prog 142 #[.pointer (some ⟨E.Q,0,none⟩)] w (PEnd E (run E.L E.e (f + 1) .primary s) w):=by
 have hlt:=is_lt a2
 have hok : OkT 2 (textP E.L s):=text_ok h.okt a2
 have hr : run E.L E.e (f + 1) .primary s = .ok (.mk 26 ⟨#[]⟩ (numF 0 (textP E.L s).data.toList : Nat) []) ⟨(stepP s).i,(stepP s).dep,(stepP s).many + 1⟩:=by
  simp only [run,nodeP,tx_nil,a2,if_true]
 rw [hr]
 have HOK:=Lib.hid hok
 obtain ⟨o9,ho9⟩:=oZ
 have HIS:=Lib.hid (pis_any 2 (h.alloc o9))
 subst ho9
 rw [show isP E.L 2 s = true from a2] at HIS
 generalize hrr : Res.ok (.mk 26 ⟨#[]⟩ (numF 0 (textP E.L s).data.toList : Nat) []) ⟨(stepP s).i,(stepP s).dep,(stepP s).many + 1⟩ = rr at *
 have HR:=Lib.hid hrr.symm
 have HQ:=Lib.hid h.old
 have NE : Hid (¬ w.heap.size = E.Q):=by have:=h.old;show ¬ _;omega
 obtain ⟨o9,ho9⟩:=oZ
 have hb0:=bl w o9
 have HT:=Lib.hid (Turned.of_below (fun b => b = E.Q) hb0)
 have HX:=zB w
 have HZ:=zN w o9
 have HAT:=Lib.hid (h.alloc o9)
 subst ho9
 clear hr hrr hok a2 hb0 h
 go_enter Tryz.func142,Tryz.ntmps142
 go_wp2_with fail
 generalize (w.alloc (.cells #[.int .i64 0,.string ⟨#[]⟩,.int .i64 0,.slice none 0 0] 24)) = w1 at *
 refine HIS.out.mono ?_
 rintro e w2 ⟨rfl,hb9⟩
 have ht9:=Turned.of_below (fun b => b = E.Q) hb9
 replace HAT:=Lib.hid (HAT.out.below hb9)
 replace HX:=bT HX ht9 NE
 replace HZ:=zT HZ ht9
 replace HT:=tT HT ht9
 clear hb9 ht9 HIS
 go_wp2_with fail
 refine (pnode_any 26 ⟨#[]⟩ none 0 0 HAT.out).mono ?_
 rintro e w3 ⟨rfl,ht9,hs9⟩
 replace HX:=bT HX ht9 NE
 replace HZ:=zT HZ ht9
 replace HT:=tT HT ht9
 have HB:=Lib.hid (Blk.new w3 24 #[.int .i64 26,.string ⟨#[]⟩,.int .i64 0,.slice none 0 0])
 have HAT2:=Lib.hid (hs9.alloc (.cells #[.int .i64 26,.string ⟨#[]⟩,.int .i64 0,.slice none 0 0] 24))
 have HZB:=HZ
 have NB : Hid (¬ w3.heap.size = E.Q):=by have h1:=HQ.out;have h2:=HZ.out;show ¬ _;omega
 obtain ⟨o9,ho9⟩ : ∃ o : Obj,o = (.cells #[.int .i64 26,.string ⟨#[]⟩,.int .i64 0,.slice none 0 0] 24):=⟨_,rfl⟩
 replace HX:=bA HX o9
 replace HT:=tA HT o9
 subst ho9
 clear ht9 hs9 HAT HZ
 go_wp2_with fail
 generalize (w3.alloc (.cells #[.int .i64 26,.string ⟨#[]⟩,.int .i64 0,.slice none 0 0] 24)) = w4 at *
 generalize w3.heap.size = b1 at *
 refine (pnext_any HAT2.out hlt).mono ?_
 rintro e w5 ⟨rfl,ht9,hs9⟩
 replace HX:=bT HX ht9 NE
 replace HB:=bT HB ht9 NB
 replace HT:=tT HT ht9
 have HAT:=Lib.hid hs9
 clear ht9 hs9 HAT2
 rw [show textP E.L ⟨s.i,s.dep,s.many + 1⟩ = textP E.L s from rfl]
 go_wp2_with fail
 refine (atoi_num _ HOK.out _).mono ?_
 rintro e w6 ⟨rfl,hb9⟩
 have ht9:=Turned.of_below (fun b => b = E.Q) hb9
 replace HAT:=Lib.hid (HAT.out.below hb9)
 replace HX:=bT HX ht9 NE
 replace HB:=bT HB ht9 NB
 replace HT:=tT HT ht9
 clear hb9 ht9
 generalize hnn : numF 0 (textP E.L s).data.toList = nn at *
 obtain ⟨u0,u1,u2,u3,g0,g1,g2,g3,gl⟩:=HX.out.f4
 obtain ⟨y0,y1,y2,y3,e0,e1,e2,e3,el⟩:=HB.out.f4
 have hne : ¬ w.heap.size = b1:=by have h2:=HZB.out;omega
 go_wp2_with fail
 clear u0 u1 u2 u3 g0 g1 g2 g3 gl y0 y1 y2 y3 e0 e1 e2 e3 el
 have HST : Hid (PT1 E rr (w6.setCell ⟨b1,2,none⟩ (.int .i64 (nn : Int))) (fun _ _ _ n s => .ok n s) ByteArray.empty ByteArray.empty [] ⟨26,⟨#[]⟩,(nn : Int),none,0,0⟩ (fun b => w.heap.size < b) 0):=⟨nd0,nd0,[],.mk 26 ⟨#[]⟩ (nn : Int) [],_,HR.out,HAT.out.far (by have h1:=HQ.out;have h2:=HZB.out;omega) _,rfl,rfl,AllN.nil _ _,⟨⟨rfl,rfl,rfl,rfl⟩,.nil _⟩,Nat.zero_le _⟩
 have HX6:=Lib.hid (HX.out.far (p:=⟨b1,2,none⟩) hne (.int .i64 (nn : Int)))
 have HT6:=Lib.hid (HT.out.setCell (p:=⟨b1,2,none⟩) (.inr (Nat.le_of_lt HZB.out)) (.int .i64 (nn : Int)))
 have HEND:=Lib.hid (pt_end (x:=⟨26,⟨#[]⟩,(nn : Int),none,0,0⟩) HQ.out HT6.out HX6.out (fun b h => h) HST.out rfl)
 refine open_post (fun W => Blk W w.heap.size 24 #[.int .i64 26,.string ⟨#[]⟩,.int .i64 (nn : Int),.slice none 0 0] ∧ PEnd E rr w (.returned (nvA ⟨26,⟨#[]⟩,(nn : Int),none,0,0⟩)) W) HEND.out ?_
 rintro W ⟨hb,hE⟩
 obtain ⟨v0,v1,v2,v3,-⟩:=hb.f4
 exact bodyPost_ret (v:=nvA ⟨26,⟨#[]⟩,(nn : Int),none,0,0⟩) (by simp [results,Tryz.results142,go_sem,nvA,v0,v1,v2,v3]) rfl hE
set_option maxRecDepth 100000 in
set_option maxHeartbeats 3200000 in
theorem pprimary_rest {f : Nat} (ihX : PCall f .expr 108) {E : Env} {s : PS} {w : World} (h : PAt w E s) (hout : run E.L E.e (f + 1) .primary s ≠ .out) (a2 : isP E.L 2 s = false) : Calls Tryz.prog 142 #[.pointer (some ⟨E.Q,0,none⟩)] w (PEnd E (run E.L E.e (f + 1) .primary s) w):=by
 obtain ⟨o9,ho9⟩:=oZ
 have HIS:=Lib.hid (pis_any 2 (h.alloc o9))
 subst ho9
 rw [show isP E.L 2 s = false from a2] at HIS
 have HO0:=Lib.hid hout
 generalize hrr : run E.L E.e (f + 1) .primary s = rr at *
 have hr : rr = (fun (_ _ : Nd) (_ : List Nd) s => pR0 E f s) nd0 nd0 [] s:=by rw [← hrr];exact primary_eq E f s a2
 clear hrr hout
 have HQ:=Lib.hid h.old
 have NE : Hid (¬ w.heap.size = E.Q):=by have:=h.old;show ¬ _;omega
 have hfew:=h.few
 obtain ⟨o9,ho9⟩:=oZ
 have hb0:=bl w o9
 have HT:=Lib.hid (Turned.of_below (fun b => b = E.Q) hb0)
 have HX:=zB w
 have HZ:=zN w o9
 have HO:=Lib.hid (OwnN.nil (w.alloc o9) (w.heap.size + 1))
 subst ho9
 have HST : Hid (PT E rr (w.alloc (.cells #[.int .i64 0,.string ⟨#[]⟩,.int .i64 0,.slice none 0 0] 24)) (fun (_ _ : Nd) (_ : List Nd) s => pR0 E f s) ByteArray.empty ByteArray.empty [] (SR w (.slice none 0 0)) 0):=PT.below (K:=(fun (_ _ : Nd) (_ : List Nd) s => pR0 E f s)) ⟨nd0,nd0,[],s,hr,h,rfl,rfl,AllN.nil _ _,Nat.zero_le _⟩ hb0
 clear h hb0 hr
 go_enter Tryz.func142,Tryz.ntmps142
 clear a2
 go_wp2_with fail
 generalize (w.alloc (.cells #[.int .i64 0,.string ⟨#[]⟩,.int .i64 0,.slice none 0 0] 24)) = w1 at *
 refine HIS.out.mono ?_
 rintro e w2 ⟨rfl,hb9⟩
 have ht9:=Turned.of_below (fun b => b = E.Q) hb9
 replace HST:=Lib.hid (HST.out.below hb9)
 replace HX:=bT HX ht9 NE
 replace HO:=Lib.hid (HO.out.turned ht9 (row_ne HO.out HQ.out))
 replace HZ:=zT HZ ht9
 replace HT:=tT HT ht9
 clear hb9 ht9 HIS
 go_wp2_with fail
 refine (pt_takes (A:=(fun (_ _ : Nd) (_ : List Nd) s => pLeaf 27 s)) (B:=(fun (_ _ : Nd) (_ : List Nd) s => pR1 E f s)) (sr_ne HQ.out) ⟨#[110,105,108]⟩ HST.out).mono ?_
 rintro e w11 ⟨b9,rfl,ht9,hy9,hn9⟩
 replace HX:=bT HX ht9 NE
 replace HO:=Lib.hid (HO.out.turned ht9 (row_ne HO.out HQ.out))
 replace HZ:=zT HZ ht9
 replace HT:=tT HT ht9
 clear ht9 HST
 cases b9
 ·have HST:=Lib.hid (hn9 rfl)
  clear hy9 hn9
  go_wp2_with fail
  refine (pt_takes (A:=(fun (_ _ : Nd) (_ : List Nd) s => pLeaf 28 s)) (B:=(fun (_ _ : Nd) (_ : List Nd) s => pR2 E f s)) (sr_ne HQ.out) ⟨#[115,101,108,102]⟩ HST.out).mono ?_
  rintro e w12 ⟨b9,rfl,ht9,hy9,hn9⟩
  replace HX:=bT HX ht9 NE
  replace HO:=Lib.hid (HO.out.turned ht9 (row_ne HO.out HQ.out))
  replace HZ:=zT HZ ht9
  replace HT:=tT HT ht9
  clear ht9 HST
  cases b9
  ·have HST:=Lib.hid (hn9 rfl)
   clear hy9 hn9
   go_wp2_with fail
   refine (pt_takes (A:=(fun (_ _ : Nd) (_ : List Nd) s => pLeaf 29 s)) (B:=(fun (_ _ : Nd) (_ : List Nd) s => pR3 E f s)) (sr_ne HQ.out) ⟨#[103,97,116,101]⟩ HST.out).mono ?_
   rintro e w13 ⟨b9,rfl,ht9,hy9,hn9⟩
   replace HX:=bT HX ht9 NE
   replace HO:=Lib.hid (HO.out.turned ht9 (row_ne HO.out HQ.out))
   replace HZ:=zT HZ ht9
   replace HT:=tT HT ht9
   clear ht9 HST
   cases b9
   ·have HST:=Lib.hid (hn9 rfl)
    clear hy9 hn9
    go_wp2_with fail
    refine (pt_takes (A:=(fun (_ _ : Nd) (_ : List Nd) s => pNew E s)) (B:=(fun (_ _ : Nd) (_ : List Nd) s => pR4 E f s)) (sr_ne HQ.out) ⟨#[110,101,119]⟩ HST.out).mono ?_
    rintro e w14 ⟨b9,rfl,ht9,hy9,hn9⟩
    replace HX:=bT HX ht9 NE
    replace HO:=Lib.hid (HO.out.turned ht9 (row_ne HO.out HQ.out))
    replace HZ:=zT HZ ht9
    replace HT:=tT HT ht9
    clear ht9 HST
    cases b9
    ·have HST:=Lib.hid (hn9 rfl)
     clear hy9 hn9
     obtain ⟨t9,u9,ls9,s9,k1,k2,k3,k4,k5,k6⟩:=HST.out
     have HIS:=Lib.hid (pis_any 1 k2)
     have HAT:=Lib.hid k2
     have HLS:=Lib.hid k5
     have hk : rr = pR4 E f s9:=k1
     have HK:=Lib.hid hk
     clear k1 k2 k5 k6 hk HST
     cases a1 : isP E.L 1 s9
     ·rw [a1] at HIS
      have HRR : Hid (pR4 E f s9 = heldP E f s9):=if_neg (by rw [a1];decide)
      clear a1
      go_wp2_with fail
      refine HIS.out.mono ?_
      rintro e w15 ⟨rfl,hb9⟩
      have ht9:=Turned.of_below (fun b => b = E.Q) hb9
      replace HAT:=Lib.hid (HAT.out.below hb9)
      replace HLS:=Lib.hid (HLS.out.turned ht9 (sr_ne HQ.out))
      replace HX:=bT HX ht9 NE
      replace HO:=Lib.hid (HO.out.turned ht9 (row_ne HO.out HQ.out))
      replace HZ:=zT HZ ht9
      replace HT:=tT HT ht9
      clear ht9 hb9 HIS
      have HST : Hid (PT E rr w15 (fun (t u : Nd) (ls : List Nd) s => (heldP E f s).bind fun k s => (fun (_ _ : Nd) (_ : List Nd) n s => Res.ok n s) t u ls k s) _ _ _ (SR w (.slice none 0 0)) 0):=⟨t9,u9,ls9,s9,(HK.out.trans HRR.out).trans (bind_id _),HAT.out,k3,k4,HLS.out,Nat.zero_le _⟩
      clear HAT HLS HK HRR
      go_wp2_with fail
      refine (pt_callR (sr_ne HQ.out) (fun s w h ho => pheld_any ihX h ho) (mo_held E f) HO0.out (fun b hb => ⟨Nat.lt_of_lt_of_le HZ.out hb,fun e => Nat.lt_irrefl _ (Nat.lt_of_lt_of_le (HO.out.lt _ e).2 hb)⟩) HST.out).mono ?_
      rintro e w16 ⟨ht9,⟨v9,rfl,x_k,rfl,hst9⟩ | ⟨c9,p9,hr9,hc9,rfl⟩⟩
      rotate_left
      ·exact ⟨rfl,HT.out.then ht9,.inr ⟨_,_,hr9,hc9,rfl⟩⟩
      replace HX:=bT HX ht9 NE
      replace HO:=Lib.hid (HO.out.turned ht9 (row_ne HO.out HQ.out))
      replace HZ:=zT HZ ht9
      replace HT:=tT HT ht9
      replace HST:=Lib.hid hst9
      clear ht9 hst9
      obtain ⟨u0,u1,u2,u3,g0,g1,g2,g3,gl⟩:=HX.out.f4
      go_wp2_with fail
      clear u0 u1 u2 u3 g0 g1 g2 g3 gl
      have HEND:=Lib.hid (pt_end (x:=x_k) HQ.out HT.out HX.out (fun b h => h.1) HST.out rfl)
      refine open_post (fun W => Blk W w.heap.size 24 #[.int .i64 x_k.kind,.string x_k.text,.int .i64 x_k.num,.slice x_k.a x_k.len x_k.cap] ∧ PEnd E rr w (.returned (nvA x_k)) W) HEND.out ?_
      rintro W ⟨hb,hE⟩
      obtain ⟨v0,v1,v2,v3,-⟩:=hb.f4
      exact bodyPost_ret (v:=nvA x_k) (by simp [results,Tryz.results142,go_sem,nvA,v0,v1,v2,v3]) rfl hE
     ·rw [a1] at HIS
      have HRR : Hid (pR4 E f s9 = .ok (.mk 31 (textP E.L s9) 0 []) ⟨(stepP s9).i,(stepP s9).dep,(stepP s9).many + 1⟩):=if_pos a1
      have HLT:=Lib.hid (is_lt a1)
      clear a1
      go_wp2_with fail
      refine HIS.out.mono ?_
      rintro e w17 ⟨rfl,hb9⟩
      have ht9:=Turned.of_below (fun b => b = E.Q) hb9
      replace HAT:=Lib.hid (HAT.out.below hb9)
      replace HLS:=Lib.hid (HLS.out.turned ht9 (sr_ne HQ.out))
      replace HX:=bT HX ht9 NE
      replace HO:=Lib.hid (HO.out.turned ht9 (row_ne HO.out HQ.out))
      replace HZ:=zT HZ ht9
      replace HT:=tT HT ht9
      clear ht9 hb9 HIS
      go_wp2_with fail
      refine (pnext_any HAT.out HLT.out).mono ?_
      rintro e w18 ⟨rfl,ht9,hs9⟩
      replace HLS:=Lib.hid (HLS.out.turned ht9 (sr_ne HQ.out))
      replace HAT:=Lib.hid hs9
      replace HX:=bT HX ht9 NE
      replace HO:=Lib.hid (HO.out.turned ht9 (row_ne HO.out HQ.out))
      replace HZ:=zT HZ ht9
      replace HT:=tT HT ht9
      clear ht9 hs9
      have HST : Hid (PT E rr w18 (fun (t _ : Nd) (_ : List Nd) s => Res.ok (.mk 31 t.text 0 []) ⟨s.i,s.dep,s.many + 1⟩) (textP E.L s9) _ _ (SR w (.slice none 0 0)) 0):=⟨ndT (textP E.L s9),u9,ls9,stepP s9,HK.out.trans HRR.out,HAT.out,rfl,k4,HLS.out,Nat.zero_le _⟩
      clear HAT HLS HK HRR HLT
      generalize textP E.L s9 = y9 at *
      go_wp2_with fail
      refine (pt_node (K:=(fun (t u : Nd) (ls : List Nd) s => (fun (_ _ : Nd) (_ : List Nd) n s => Res.ok n s) t u ls (.mk 31 ((fun (t _ : Nd) => t.text) t u) 0 []) s)) (sr_ne HQ.out) 31 y9 _ _ _ HST.out).mono ?_
      rintro e w19 ⟨rfl,ht9,hst9⟩
      replace HX:=bT HX ht9 NE
      replace HO:=Lib.hid (HO.out.turned ht9 (row_ne HO.out HQ.out))
      replace HZ:=zT HZ ht9
      replace HT:=tT HT ht9
      replace HST:=Lib.hid hst9
      clear ht9 hst9
      replace HST:=Lib.hid (PT.leaf (K:=(fun (_ _ : Nd) (_ : List Nd) n s => Res.ok n s)) (fun (t _ : Nd) => t.text) (fun _ _ h _ => h.symm) 0 HST.out)
      obtain ⟨u0,u1,u2,u3,g0,g1,g2,g3,gl⟩:=HX.out.f4
      go_wp2_with fail
      clear u0 u1 u2 u3 g0 g1 g2 g3 gl
      have HEND:=Lib.hid (pt_end (x:=(⟨31,y9,0,none,0,0⟩ : NV)) HQ.out HT.out HX.out (fun b h => h.1) HST.out rfl)
      refine open_post (fun W => Blk W w.heap.size 24 #[.int .i64 (⟨31,y9,0,none,0,0⟩ : NV).kind,.string (⟨31,y9,0,none,0,0⟩ : NV).text,.int .i64 (⟨31,y9,0,none,0,0⟩ : NV).num,.slice (⟨31,y9,0,none,0,0⟩ : NV).a (⟨31,y9,0,none,0,0⟩ : NV).len (⟨31,y9,0,none,0,0⟩ : NV).cap] ∧ PEnd E rr w (.returned (nvA (⟨31,y9,0,none,0,0⟩ : NV))) W) HEND.out ?_
      rintro W ⟨hb,hE⟩
      obtain ⟨v0,v1,v2,v3,-⟩:=hb.f4
      exact bodyPost_ret (v:=nvA (⟨31,y9,0,none,0,0⟩ : NV)) (by simp [results,Tryz.results142,go_sem,nvA,v0,v1,v2,v3]) rfl hE
    ·have HST:=Lib.hid (hy9 rfl)
     clear hy9 hn9
     replace HST : Hid (PT E rr _ (fun (_ u : Nd) (ls : List Nd) s => (nameP E.L E.e s).bind fun t s => (fun (t _ : Nd) (_ : List Nd) s => Res.ok (.mk 30 t.text 0 []) ⟨s.i,s.dep,s.many + 1⟩) t u ls s) _ _ _ _ _):=HST.out
     go_wp2_with fail
     refine (pt_name1 (sr_ne HQ.out) HST.out).mono ?_
     rintro e w20 ⟨ht9,⟨v9,rfl,t9,rfl,hst9⟩ | ⟨c9,p9,hr9,hc9,rfl⟩⟩
     rotate_left
     ·exact ⟨rfl,HT.out.then ht9,.inr ⟨_,_,hr9,hc9,rfl⟩⟩
     replace HX:=bT HX ht9 NE
     replace HO:=Lib.hid (HO.out.turned ht9 (row_ne HO.out HQ.out))
     replace HZ:=zT HZ ht9
     replace HT:=tT HT ht9
     replace HST:=Lib.hid hst9
     clear ht9 hst9
     go_wp2_with fail
     refine (pt_node (K:=(fun (t u : Nd) (ls : List Nd) s => (fun (_ _ : Nd) (_ : List Nd) n s => Res.ok n s) t u ls (.mk 30 ((fun (t _ : Nd) => t.text) t u) 0 []) s)) (sr_ne HQ.out) 30 t9 _ _ _ HST.out).mono ?_
     rintro e w21 ⟨rfl,ht9,hst9⟩
     replace HX:=bT HX ht9 NE
     replace HO:=Lib.hid (HO.out.turned ht9 (row_ne HO.out HQ.out))
     replace HZ:=zT HZ ht9
     replace HT:=tT HT ht9
     replace HST:=Lib.hid hst9
     clear ht9 hst9
     replace HST:=Lib.hid (PT.leaf (K:=(fun (_ _ : Nd) (_ : List Nd) n s => Res.ok n s)) (fun (t _ : Nd) => t.text) (fun _ _ h _ => h.symm) 0 HST.out)
     obtain ⟨u0,u1,u2,u3,g0,g1,g2,g3,gl⟩:=HX.out.f4
     go_wp2_with fail
     clear u0 u1 u2 u3 g0 g1 g2 g3 gl
     have HEND:=Lib.hid (pt_end (x:=(⟨30,t9,0,none,0,0⟩ : NV)) HQ.out HT.out HX.out (fun b h => h.1) HST.out rfl)
     refine open_post (fun W => Blk W w.heap.size 24 #[.int .i64 (⟨30,t9,0,none,0,0⟩ : NV).kind,.string (⟨30,t9,0,none,0,0⟩ : NV).text,.int .i64 (⟨30,t9,0,none,0,0⟩ : NV).num,.slice (⟨30,t9,0,none,0,0⟩ : NV).a (⟨30,t9,0,none,0,0⟩ : NV).len (⟨30,t9,0,none,0,0⟩ : NV).cap] ∧ PEnd E rr w (.returned (nvA (⟨30,t9,0,none,0,0⟩ : NV))) W) HEND.out ?_
     rintro W ⟨hb,hE⟩
     obtain ⟨v0,v1,v2,v3,-⟩:=hb.f4
     exact bodyPost_ret (v:=nvA (⟨30,t9,0,none,0,0⟩ : NV)) (by simp [results,Tryz.results142,go_sem,nvA,v0,v1,v2,v3]) rfl hE
   ·have HST:=Lib.hid (hy9 rfl)
    clear hy9 hn9
    go_wp2_with fail
    refine (pt_node (K:=(fun (t u : Nd) (ls : List Nd) s => (fun (_ _ : Nd) (_ : List Nd) n s => Res.ok n s) t u ls (.mk 29 ((fun _ _ => ⟨#[]⟩) t u) 0 []) s)) (sr_ne HQ.out) 29 ⟨#[]⟩ _ _ _ HST.out).mono ?_
    rintro e w22 ⟨rfl,ht9,hst9⟩
    replace HX:=bT HX ht9 NE
    replace HO:=Lib.hid (HO.out.turned ht9 (row_ne HO.out HQ.out))
    replace HZ:=zT HZ ht9
    replace HT:=tT HT ht9
    replace HST:=Lib.hid hst9
    clear ht9 hst9
    replace HST:=Lib.hid (PT.leaf (K:=(fun (_ _ : Nd) (_ : List Nd) n s => Res.ok n s)) (fun _ _ => ⟨#[]⟩) (fun _ _ _ _ => rfl) 0 HST.out)
    obtain ⟨u0,u1,u2,u3,g0,g1,g2,g3,gl⟩:=HX.out.f4
    go_wp2_with fail
    clear u0 u1 u2 u3 g0 g1 g2 g3 gl
    have HEND:=Lib.hid (pt_end (x:=(⟨29,⟨#[]⟩,0,none,0,0⟩ : NV)) HQ.out HT.out HX.out (fun b h => h.1) HST.out rfl)
    refine open_post (fun W => Blk W w.heap.size 24 #[.int .i64 (⟨29,⟨#[]⟩,0,none,0,0⟩ : NV).kind,.string (⟨29,⟨#[]⟩,0,none,0,0⟩ : NV).text,.int .i64 (⟨29,⟨#[]⟩,0,none,0,0⟩ : NV).num,.slice (⟨29,⟨#[]⟩,0,none,0,0⟩ : NV).a (⟨29,⟨#[]⟩,0,none,0,0⟩ : NV).len (⟨29,⟨#[]⟩,0,none,0,0⟩ : NV).cap] ∧ PEnd E rr w (.returned (nvA (⟨29,⟨#[]⟩,0,none,0,0⟩ : NV))) W) HEND.out ?_
    rintro W ⟨hb,hE⟩
    obtain ⟨v0,v1,v2,v3,-⟩:=hb.f4
    exact bodyPost_ret (v:=nvA (⟨29,⟨#[]⟩,0,none,0,0⟩ : NV)) (by simp [results,Tryz.results142,go_sem,nvA,v0,v1,v2,v3]) rfl hE
  ·have HST:=Lib.hid (hy9 rfl)
   clear hy9 hn9
   go_wp2_with fail
   refine (pt_node (K:=(fun (t u : Nd) (ls : List Nd) s => (fun (_ _ : Nd) (_ : List Nd) n s => Res.ok n s) t u ls (.mk 28 ((fun _ _ => ⟨#[]⟩) t u) 0 []) s)) (sr_ne HQ.out) 28 ⟨#[]⟩ _ _ _ HST.out).mono ?_
   rintro e w23 ⟨rfl,ht9,hst9⟩
   replace HX:=bT HX ht9 NE
   replace HO:=Lib.hid (HO.out.turned ht9 (row_ne HO.out HQ.out))
   replace HZ:=zT HZ ht9
   replace HT:=tT HT ht9
   replace HST:=Lib.hid hst9
   clear ht9 hst9
   replace HST:=Lib.hid (PT.leaf (K:=(fun (_ _ : Nd) (_ : List Nd) n s => Res.ok n s)) (fun _ _ => ⟨#[]⟩) (fun _ _ _ _ => rfl) 0 HST.out)
   obtain ⟨u0,u1,u2,u3,g0,g1,g2,g3,gl⟩:=HX.out.f4
   go_wp2_with fail
   clear u0 u1 u2 u3 g0 g1 g2 g3 gl
   have HEND:=Lib.hid (pt_end (x:=(⟨28,⟨#[]⟩,0,none,0,0⟩ : NV)) HQ.out HT.out HX.out (fun b h => h.1) HST.out rfl)
   refine open_post (fun W => Blk W w.heap.size 24 #[.int .i64 (⟨28,⟨#[]⟩,0,none,0,0⟩ : NV).kind,.string (⟨28,⟨#[]⟩,0,none,0,0⟩ : NV).text,.int .i64 (⟨28,⟨#[]⟩,0,none,0,0⟩ : NV).num,.slice (⟨28,⟨#[]⟩,0,none,0,0⟩ : NV).a (⟨28,⟨#[]⟩,0,none,0,0⟩ : NV).len (⟨28,⟨#[]⟩,0,none,0,0⟩ : NV).cap] ∧ PEnd E rr w (.returned (nvA (⟨28,⟨#[]⟩,0,none,0,0⟩ : NV))) W) HEND.out ?_
   rintro W ⟨hb,hE⟩
   obtain ⟨v0,v1,v2,v3,-⟩:=hb.f4
   exact bodyPost_ret (v:=nvA (⟨28,⟨#[]⟩,0,none,0,0⟩ : NV)) (by simp [results,Tryz.results142,go_sem,nvA,v0,v1,v2,v3]) rfl hE
 ·have HST:=Lib.hid (hy9 rfl)
  clear hy9 hn9
  go_wp2_with fail
  refine (pt_node (K:=(fun (t u : Nd) (ls : List Nd) s => (fun (_ _ : Nd) (_ : List Nd) n s => Res.ok n s) t u ls (.mk 27 ((fun _ _ => ⟨#[]⟩) t u) 0 []) s)) (sr_ne HQ.out) 27 ⟨#[]⟩ _ _ _ HST.out).mono ?_
  rintro e w24 ⟨rfl,ht9,hst9⟩
  replace HX:=bT HX ht9 NE
  replace HO:=Lib.hid (HO.out.turned ht9 (row_ne HO.out HQ.out))
  replace HZ:=zT HZ ht9
  replace HT:=tT HT ht9
  replace HST:=Lib.hid hst9
  clear ht9 hst9
  replace HST:=Lib.hid (PT.leaf (K:=(fun (_ _ : Nd) (_ : List Nd) n s => Res.ok n s)) (fun _ _ => ⟨#[]⟩) (fun _ _ _ _ => rfl) 0 HST.out)
  obtain ⟨u0,u1,u2,u3,g0,g1,g2,g3,gl⟩:=HX.out.f4
  go_wp2_with fail
  clear u0 u1 u2 u3 g0 g1 g2 g3 gl
  have HEND:=Lib.hid (pt_end (x:=(⟨27,⟨#[]⟩,0,none,0,0⟩ : NV)) HQ.out HT.out HX.out (fun b h => h.1) HST.out rfl)
  refine open_post (fun W => Blk W w.heap.size 24 #[.int .i64 (⟨27,⟨#[]⟩,0,none,0,0⟩ : NV).kind,.string (⟨27,⟨#[]⟩,0,none,0,0⟩ : NV).text,.int .i64 (⟨27,⟨#[]⟩,0,none,0,0⟩ : NV).num,.slice (⟨27,⟨#[]⟩,0,none,0,0⟩ : NV).a (⟨27,⟨#[]⟩,0,none,0,0⟩ : NV).len (⟨27,⟨#[]⟩,0,none,0,0⟩ : NV).cap] ∧ PEnd E rr w (.returned (nvA (⟨27,⟨#[]⟩,0,none,0,0⟩ : NV))) W) HEND.out ?_
  rintro W ⟨hb,hE⟩
  obtain ⟨v0,v1,v2,v3,-⟩:=hb.f4
  exact bodyPost_ret (v:=nvA (⟨27,⟨#[]⟩,0,none,0,0⟩ : NV)) (by simp [results,Tryz.results142,go_sem,nvA,v0,v1,v2,v3]) rfl hE
end Go.Proofs.YtbpldfmmlgkfnaaGreatDoor
