/- A text cut into tokens, as the document does it. Conditions: none. -/
import Derived.Test.YtbpldfmmlgkfnaaGreatDoorELxD
namespace Go.Proofs.YtbpldfmmlgkfnaaGreatDoor
open Go.RowKit
set_option linter.unusedVariables false

theorem signN_le2 (b : UInt8) (c : Option UInt8) : signN b c ≤ 2:=by
 unfold signN
 by_cases h : b = 61 ∧ c = some 61
 ·rw [if_pos h];omega
 ·rw [if_neg h];split <;> omega
set_option maxRecDepth 100000 in
set_option maxHeartbeats 8000000 in
theorem rscan_any (s : ByteArray) (hs : s.size ≤ 9223372036854775807) (w : World) : Calls Tryz.prog 16 #[.string s] w (ScanTold s w):=by
 have hx0 : Below w.heap.size w (w.alloc (.cells #[.int .i64 0,.int .i64 0] 27)):=(Below.refl _ _).alloc (Nat.le_refl _) _
 have HX0:=Lib.hid hx0
 have HQ0:=Lib.hid (Blk.new w 27 #[.int .i64 0,.int .i64 0])
 clear hx0
 by_cases hbig : 4000 < s.size
 ·have HS:=Lib.hid (At.big hbig)
  have hw1 : Below w.heap.size w (w.alloc (.cells #[.int .i64 1,.int .i64 0] 27)):=(Below.refl _ _).alloc (Nat.le_refl _) _
  have HW1:=Lib.hid hw1
  have hq1:=Blk.new w 27 #[.int .i64 1,.int .i64 0]
  obtain ⟨q1,q2,q3,q4,q5⟩:=hq1.f2
  clear hw1 hq1
  go_enter Tryz.func16,Tryz.ntmps16
  go_wp2_with fail
  refine bodyPost_ret (v:=.tuple #[.slice none 0 0,.agg #[.int .i64 1,.int .i64 0]]) (by simp [results,Tryz.results16,go_sem,q1,q2]) rfl ⟨HW1.out,none,0,?_,?_⟩
  ·rw [HS.out];rfl
  ·rw [HS.out];exact fun h => absurd h (Nat.lt_irrefl 0)
 have hle : s.size ≤ 4000:=by omega
 have HST:=Lib.hid (At.start hle)
 go_enter Tryz.func16,Tryz.ntmps16
 go_wp2_with fail
 generalize hw1 : (w.alloc (.cells #[.int .i64 0,.int .i64 0] 27)) = w1 at *
 clear hw1
 go_loopw [4,5] (fun v i wr => ∃ (k : Nat) (acc : List Tok),i = .int .i64 (k : Int) ∧ At s k acc ∧ OwnT wr w1.heap.size v acc ∧ Below w1.heap.size w1 wr ∧ acc.length ≤ k) (fun _ i _ => s.size - (intOf i).toNat)
 case atStart => exact ⟨0,[],rfl,HST.out,OwnT.nil _ _,Below.refl _ _,Nat.zero_le _⟩
 case round =>
  obtain ⟨k,acc,rfl,hat,hown,hbw,hac⟩:=hrel
  have HAT:=Lib.hid hat;have HOW:=Lib.hid hown;have HBW:=Lib.hid hbw
  have hks:=hat.1
  have HXW:=Lib.hid (HX0.out.trans (hbw.mono HX0.out.size))
  have HQ:=Lib.hid (HQ0.out.below hbw HQ0.out.lt)
  have hsz : w1.heap.size ≤ wr.heap.size:=hbw.size
  obtain ⟨C,cc,hC,htk,hlo⟩:=hown.toks
  have HTK:=Lib.hid htk;have HLO:=Lib.hid hlo
  subst hC
  clear hat hown hbw htk hlo
  by_cases hlt : k < s.size
  ·have hz:=sub_size s k
   have hx0 : 0 < (s.extract k s.size).size:=by omega
   have hb0 : bt (s.extract k s.size) 0 = bt s k:=by rw [ext_bt (s:=s) (i:=k) (k:=s.size) (j:=0) (by omega) (Nat.le_refl _),Nat.add_zero]
   have hce:=cut_eq hx0
   rw [hb0] at hce
   have HNX:=Lib.hid (fun h => HAT.out.next hlt h)
   have HBAD:=Lib.hid (fun h => HAT.out.bad hlt h)
   have HCE:=Lib.hid hce
   clear hce hb0
   by_cases c1 : bt s k = 32 ∨ bt s k = 9 ∨ bt s k = 10
   ·have HC : Hid (cutF (s.extract k s.size) = (0,1,0)):=by show _ = _;rw [HCE.out,if_pos c1]
    have hnx:=HNX.out (by rw [HC.out])
    rw [HC.out] at hnx
    have HAN:=Lib.hid hnx.2.2
    have hn : (bt s k).toNat = 32 ∨ (bt s k).toNat = 10 ∨ (bt s k).toNat = 9:=by
     rcases c1 with h | h | h <;> rw [h]
     ·exact .inl rfl
     ·exact .inr (.inr rfl)
     ·exact .inr (.inl rfl)
    clear hnx c1 HCE HBAD HNX
    rcases hn with hn | hn | hn
    all_goals
     go_wp2_with fail
     go_roundw
     case rel => exact ⟨k + 1,acc,by go_num,HAN.out,HOW.out,HBW.out,by omega⟩
     case measure => simp [intOf];omega
   have f32 : ((((bt s k).toNat : Nat) : Int) == 32) = false:=not_u8 (k:=32) (by omega) (fun h => c1 (.inl h))
   have f9 : ((((bt s k).toNat : Nat) : Int) == 9) = false:=not_u8 (k:=9) (by omega) (fun h => c1 (.inr (.inl h)))
   have f10 : ((((bt s k).toNat : Nat) : Int) == 10) = false:=not_u8 (k:=10) (by omega) (fun h => c1 (.inr (.inr h)))
   have HCE1:=Lib.hid (HCE.out.trans (if_neg c1))
   clear HCE c1
   by_cases c2 : bt s k = 35
   ·have hn : (bt s k).toNat = 35:=by rw [c2];rfl
    have HCE2:=Lib.hid (HCE1.out.trans (if_pos c2))
    have HNK : Hid (isNl (bt s k) = true):=by show _ = _;rw [c2];decide
    clear HCE1 c2 f32 f9 f10
    go_wp2_with fail
    go_loop [5] (fun i => ∃ p : Nat,i = .int .i64 (p : Int) ∧ k ≤ p ∧ p ≤ s.size ∧ ∀ j,k ≤ j → j < p → isNl (bt s j) = true) (fun i => s.size - (intOf i).toNat)
    case atStart => exact ⟨k,rfl,Nat.le_refl _,hks,fun j h1 h2 => by omega⟩
    case round =>
     obtain ⟨p,rfl,hkp,hps,hall⟩:=hrel
     have HALL:=Lib.hid hall
     clear hall
     by_cases hpl : p < s.size ∧ isNl (bt s p) = true
     ·obtain ⟨hp,hnl⟩:=hpl
      have f10 : ((((bt s p).toNat : Nat) : Int) == 10) = false:=by
       unfold isNl at hnl
       simp only [Bool.not_eq_true',decide_eq_false_iff_not] at hnl
       rw [beq_eq_false_iff_ne];omega
      have HN : Hid (∀ j,k ≤ j → j < p + 1 → isNl (bt s j) = true):=fun j h1 h2 => by
       rcases Nat.lt_or_ge j p with h | h
       ·exact HALL.out j h1 h
       ·obtain rfl : j = p:=by omega
        exact hnl
      clear hnl hn
      go_wp2_with fail
      go_round
      case rel => exact ⟨p + 1,by go_num,by omega,by omega,HN.out⟩
      case measure => simp [intOf];omega
     ·have hsp:=span_off (s:=s) (f:=isNl) hkp hps HALL.out (fun h => by
       cases h2 : isNl (bt s p) with
       | false => rfl
       | true => exact absurd ⟨h,h2⟩ hpl)
      have HC:=Lib.hid HCE2.out
      rw [hsp] at HC
      have hnx:=HNX.out (by rw [HC.out])
      rw [HC.out] at hnx
      dsimp only at hnx
      rw [if_pos rfl,show k + (p - k) = p by omega] at hnx
      have HAN:=Lib.hid hnx.2.2
      have hgt:=hnx.1
      have hq : (¬ p < s.size) ∨ (p < s.size ∧ ((((bt s p).toNat : Nat) : Int) == 10) = true):=by
       by_cases h : p < s.size
       ·right
        refine ⟨h,?_⟩
        cases h2 : isNl (bt s p) with
        | true => exact absurd ⟨h,h2⟩ hpl
        | false =>
         unfold isNl at h2
         simp only [Bool.not_eq_false',decide_eq_true_eq] at h2
         rw [beq_iff_eq];omega
       ·exact .inl h
      clear hsp hnx hpl hn
      rcases hq with hq | ⟨hq,hq2⟩
      all_goals
       go_wp2_with fail
       go_roundw
       case rel => exact ⟨p,acc,rfl,HAN.out,HOW.out,HBW.out,by omega⟩
       case measure => simp [intOf];omega
   have f35 : ((((bt s k).toNat : Nat) : Int) == 35) = false:=not_u8 (k:=35) (by omega) c2
   have HCE2:=Lib.hid (HCE1.out.trans (if_neg c2))
   clear HCE1 c2
   have HLT:=Lib.hid (rletter_any (bt s k) wr)
   have HDG:=Lib.hid (rdigit_any (bt s k) wr)
   cases c3 : isLt (bt s k)
   case true => as_aux_lemma =>
    rw [c3] at HLT
    have HCE3:=Lib.hid (HCE2.out.trans (if_pos c3))
    have HLK : Hid (isLd (bt s k) = true):=by show _ = _;unfold isLd;rw [c3];rfl
    clear HCE2 c3
    go_wp2_with (first
     | (go_at_call 31;refine HLT.out.mono ?_;rintro e w' ⟨rfl,rfl⟩)
     | (go_at_call 32;refine HDG.out.mono ?_;rintro e w' ⟨rfl,rfl⟩))
    go_loop [7] (fun i => ∃ p : Nat,i = .int .i64 (p : Int) ∧ k ≤ p ∧ p ≤ s.size ∧ ∀ j,k ≤ j → j < p → isLd (bt s j) = true) (fun i => s.size - (intOf i).toNat)
    case atStart => exact ⟨k,rfl,Nat.le_refl _,hks,fun j h1 h2 => by omega⟩
    case round =>
     obtain ⟨p,rfl,hkp,hps,hall⟩:=hrel
     have HALL:=Lib.hid hall
     clear hall
     have HL2:=Lib.hid (rletter_any (bt s p) wr)
     have HD2:=Lib.hid (rdigit_any (bt s p) wr)
     by_cases hpl : p < s.size ∧ isLd (bt s p) = true
     ·obtain ⟨hp,hnl⟩:=hpl
      have HN : Hid (∀ j,k ≤ j → j < p + 1 → isLd (bt s j) = true):=fun j h1 h2 => by
       rcases Nat.lt_or_ge j p with h | h
       ·exact HALL.out j h1 h
       ·obtain rfl : j = p:=by omega
        exact hnl
      have hab : isLt (bt s p) = true ∨ (isLt (bt s p) = false ∧ isDg (bt s p) = true):=by
       unfold isLd at hnl
       cases h : isLt (bt s p)
       ·rw [h] at hnl;exact .inr ⟨rfl,hnl⟩
       ·exact .inl rfl
      clear hnl
      rcases hab with ha | ⟨ha,hb⟩
      ·rw [ha] at HL2
       generalize isDg (bt s p) = y at *
       clear ha
       go_wp2_with (first
        | (go_at_call 31;refine HL2.out.mono ?_;rintro e w' ⟨rfl,rfl⟩)
        | (go_at_call 32;refine HD2.out.mono ?_;rintro e w' ⟨rfl,rfl⟩))
       go_round
       case rel => exact ⟨p + 1,by go_num,by omega,by omega,HN.out⟩
       case measure => simp [intOf];omega
      ·rw [ha] at HL2;rw [hb] at HD2
       clear ha hb
       go_wp2_with (first
        | (go_at_call 31;refine HL2.out.mono ?_;rintro e w' ⟨rfl,rfl⟩)
        | (go_at_call 32;refine HD2.out.mono ?_;rintro e w' ⟨rfl,rfl⟩))
       go_round
       case rel => exact ⟨p + 1,by go_num,by omega,by omega,HN.out⟩
       case measure => simp [intOf];omega
     ·have hsp:=span_off (s:=s) (f:=isLd) hkp hps HALL.out (fun h => by
       cases h2 : isLd (bt s p) with
       | false => rfl
       | true => exact absurd ⟨h,h2⟩ hpl)
      have hkp2 : k < p:=by
       rcases Nat.lt_or_ge k p with h | h
       ·exact h
       ·obtain rfl : k = p:=by omega
        exact absurd ⟨hlt,HLK.out⟩ hpl
      have hee : (s.extract k s.size).extract 0 (p - k) = s.extract k p:=by rw [ext_ext (s:=s) (i:=k) (n:=p - k) (by omega),show k + (p - k) = p by omega]
      have HC:=Lib.hid HCE3.out
      rw [hsp,hee] at HC
      have HWD:=Lib.hid (rword_any (s.extract k p) wr)
      have hq : (¬ p < s.size) ∨ (p < s.size ∧ isLt (bt s p) = false ∧ isDg (bt s p) = false):=by
       by_cases h : p < s.size
       ·right
        refine ⟨h,?_⟩
        have h2 : ¬ isLd (bt s p) = true:=fun h2 => hpl ⟨h,h2⟩
        unfold isLd at h2
        simpa using h2
       ·exact .inl h
      clear hsp hee hpl
      generalize wordB (s.extract k p) = wb at *
      rcases hq with hq | ⟨hq,ha,hb⟩
      rotate_left
      ·rw [ha] at HL2;rw [hb] at HD2
       clear ha hb
       go_wp2_with (first
        | (go_at_call 31;refine HL2.out.mono ?_;rintro e w' ⟨rfl,rfl⟩)
        | (go_at_call 32;refine HD2.out.mono ?_;rintro e w' ⟨rfl,rfl⟩))
       refine HWD.out.mono ?_
       rintro e w2 ⟨rfl,hb2⟩
       have HOW2:=Lib.hid (ownT_grown0 HOW.out (grownBy_below hb2))
       have HBW2:=Lib.hid (HBW.out.trans (hb2.mono HBW.out.size))
       have hsz2 : w1.heap.size ≤ w2.heap.size:=HBW2.out.size
       clear hb2 HWD
       cases wb
       case false =>
        have HC1 : Hid (cutF (s.extract k s.size) = (1,p - k,0)):=HC.out
        have hnx:=HNX.out (by rw [HC1.out])
        rw [HC1.out] at hnx
        dsimp only at hnx
        rw [if_neg (by decide),show k + (p - k) = p by omega] at hnx
        have HAN:=Lib.hid hnx.2.2
        have HOA:=Lib.hid (HOW2.out.alloc (.cells #[.int .i64 1,.string (s.extract k p),.int .i64 (k : Int)] 87))
        have HNW:=Lib.hid (tok_news w2 ⟨1,s.extract k p,k⟩)
        have hsa : w1.heap.size ≤ (w2.alloc (.cells #[.int .i64 1,.string (s.extract k p),.int .i64 (k : Int)] 87)).heap.size:=by rw [World.size_alloc];omega
        have HBA : Hid (Below w1.heap.size w1 (w2.alloc (.cells #[.int .i64 1,.string (s.extract k p),.int .i64 (k : Int)] 87))):=HBW2.out.alloc hsz2 _
        clear hnx
        go_wp2_with (at_builtin;refine wpList_pushT rfl _ _ rfl w1.heap.size _ acc rfl HOA.out ⟨1,s.extract k p,k⟩ ⟨w2.heap.size,0,none⟩ 1 rfl HNW.out (by omega) hsa ?_;intro v9 w9 hown9 hgr9;have HOW9:=Lib.hid hown9;have HB9:=Lib.hid (HBA.out.grown hgr9 hsa (fun q hq => (HOA.out.lt q hq).1));clear hown9 hgr9)
        go_roundw
        case rel => exact ⟨p,_,rfl,HAN.out,HOW9.out,HB9.out,by simp;omega⟩
        case measure => simp [intOf];omega
       case true =>
        have HC1 : Hid (cutF (s.extract k s.size) = (3,p - k,0)):=HC.out
        have hnx:=HNX.out (by rw [HC1.out])
        rw [HC1.out] at hnx
        dsimp only at hnx
        rw [if_neg (by decide),show k + (p - k) = p by omega] at hnx
        have HAN:=Lib.hid hnx.2.2
        have HOA:=Lib.hid (HOW2.out.alloc (.cells #[.int .i64 3,.string (s.extract k p),.int .i64 (k : Int)] 87))
        have HNW:=Lib.hid (tok_news w2 ⟨3,s.extract k p,k⟩)
        have hsa : w1.heap.size ≤ (w2.alloc (.cells #[.int .i64 3,.string (s.extract k p),.int .i64 (k : Int)] 87)).heap.size:=by rw [World.size_alloc];omega
        have HBA : Hid (Below w1.heap.size w1 (w2.alloc (.cells #[.int .i64 3,.string (s.extract k p),.int .i64 (k : Int)] 87))):=HBW2.out.alloc hsz2 _
        clear hnx
        go_wp2_with (at_builtin;refine wpList_pushT rfl _ _ rfl w1.heap.size _ acc rfl HOA.out ⟨3,s.extract k p,k⟩ ⟨w2.heap.size,0,none⟩ 1 rfl HNW.out (by omega) hsa ?_;intro v9 w9 hown9 hgr9;have HOW9:=Lib.hid hown9;have HB9:=Lib.hid (HBA.out.grown hgr9 hsa (fun q hq => (HOA.out.lt q hq).1));clear hown9 hgr9)
        go_roundw
        case rel => exact ⟨p,_,rfl,HAN.out,HOW9.out,HB9.out,by simp;omega⟩
        case measure => simp [intOf];omega
      ·go_wp2_with (first
        | (go_at_call 31;refine HL2.out.mono ?_;rintro e w' ⟨rfl,rfl⟩)
        | (go_at_call 32;refine HD2.out.mono ?_;rintro e w' ⟨rfl,rfl⟩))
       refine HWD.out.mono ?_
       rintro e w2 ⟨rfl,hb2⟩
       have HOW2:=Lib.hid (ownT_grown0 HOW.out (grownBy_below hb2))
       have HBW2:=Lib.hid (HBW.out.trans (hb2.mono HBW.out.size))
       have hsz2 : w1.heap.size ≤ w2.heap.size:=HBW2.out.size
       clear hb2 HWD
       cases wb
       case false =>
        have HC1 : Hid (cutF (s.extract k s.size) = (1,p - k,0)):=HC.out
        have hnx:=HNX.out (by rw [HC1.out])
        rw [HC1.out] at hnx
        dsimp only at hnx
        rw [if_neg (by decide),show k + (p - k) = p by omega] at hnx
        have HAN:=Lib.hid hnx.2.2
        have HOA:=Lib.hid (HOW2.out.alloc (.cells #[.int .i64 1,.string (s.extract k p),.int .i64 (k : Int)] 87))
        have HNW:=Lib.hid (tok_news w2 ⟨1,s.extract k p,k⟩)
        have hsa : w1.heap.size ≤ (w2.alloc (.cells #[.int .i64 1,.string (s.extract k p),.int .i64 (k : Int)] 87)).heap.size:=by rw [World.size_alloc];omega
        have HBA : Hid (Below w1.heap.size w1 (w2.alloc (.cells #[.int .i64 1,.string (s.extract k p),.int .i64 (k : Int)] 87))):=HBW2.out.alloc hsz2 _
        clear hnx
        go_wp2_with (at_builtin;refine wpList_pushT rfl _ _ rfl w1.heap.size _ acc rfl HOA.out ⟨1,s.extract k p,k⟩ ⟨w2.heap.size,0,none⟩ 1 rfl HNW.out (by omega) hsa ?_;intro v9 w9 hown9 hgr9;have HOW9:=Lib.hid hown9;have HB9:=Lib.hid (HBA.out.grown hgr9 hsa (fun q hq => (HOA.out.lt q hq).1));clear hown9 hgr9)
        go_roundw
        case rel => exact ⟨p,_,rfl,HAN.out,HOW9.out,HB9.out,by simp;omega⟩
        case measure => simp [intOf];omega
       case true =>
        have HC1 : Hid (cutF (s.extract k s.size) = (3,p - k,0)):=HC.out
        have hnx:=HNX.out (by rw [HC1.out])
        rw [HC1.out] at hnx
        dsimp only at hnx
        rw [if_neg (by decide),show k + (p - k) = p by omega] at hnx
        have HAN:=Lib.hid hnx.2.2
        have HOA:=Lib.hid (HOW2.out.alloc (.cells #[.int .i64 3,.string (s.extract k p),.int .i64 (k : Int)] 87))
        have HNW:=Lib.hid (tok_news w2 ⟨3,s.extract k p,k⟩)
        have hsa : w1.heap.size ≤ (w2.alloc (.cells #[.int .i64 3,.string (s.extract k p),.int .i64 (k : Int)] 87)).heap.size:=by rw [World.size_alloc];omega
        have HBA : Hid (Below w1.heap.size w1 (w2.alloc (.cells #[.int .i64 3,.string (s.extract k p),.int .i64 (k : Int)] 87))):=HBW2.out.alloc hsz2 _
        clear hnx
        go_wp2_with (at_builtin;refine wpList_pushT rfl _ _ rfl w1.heap.size _ acc rfl HOA.out ⟨3,s.extract k p,k⟩ ⟨w2.heap.size,0,none⟩ 1 rfl HNW.out (by omega) hsa ?_;intro v9 w9 hown9 hgr9;have HOW9:=Lib.hid hown9;have HB9:=Lib.hid (HBA.out.grown hgr9 hsa (fun q hq => (HOA.out.lt q hq).1));clear hown9 hgr9)
        go_roundw
        case rel => exact ⟨p,_,rfl,HAN.out,HOW9.out,HB9.out,by simp;omega⟩
        case measure => simp [intOf];omega
   case false =>
    rw [c3] at HLT
    have HCE3:=Lib.hid (HCE2.out.trans (if_neg (by rw [c3];decide)))
    clear HCE2 c3
    cases c4 : isDg (bt s k)
    case true => as_aux_lemma =>
     rw [c4] at HDG
     have HCE4:=Lib.hid (HCE3.out.trans (if_pos c4))
     have HDK : Hid (isDg (bt s k) = true):=c4
     have HB48:=Lib.hid (is_u8 (bt s k) 48 (by omega))
     have hxs:=sub_size s k
     clear HCE3 c4
     go_wp2_with (first
      | (go_at_call 31;refine HLT.out.mono ?_;rintro e w' ⟨rfl,rfl⟩)
      | (go_at_call 32;refine HDG.out.mono ?_;rintro e w' ⟨rfl,rfl⟩))
     go_loop [7,12] (fun i v => ∃ (p n : Nat),i = .int .i64 (p : Int) ∧ v = .int .i64 (n : Int) ∧ k ≤ p ∧ p ≤ s.size ∧ (∀ j,k ≤ j → j < p → isDg (bt s j) = true) ∧ n = capF 0 ((s.extract k s.size).data.toList.take (p - k)) ∧ n ≤ 10737418245) (fun i _ => s.size - (intOf i).toNat)
     case atStart => exact ⟨k,0,rfl,rfl,Nat.le_refl _,hks,fun j h1 h2 => by omega,by rw [Nat.sub_self];rfl,by omega⟩
     case round =>
      obtain ⟨p,n,rfl,rfl,hkp,hps,hall,hn,hn9⟩:=hrel
      have HALL:=Lib.hid hall
      have HNN:=Lib.hid hn
      clear hall hn
      have HD2:=Lib.hid (rdigit_any (bt s p) wr)
      by_cases hpl : p < s.size ∧ isDg (bt s p) = true
      ·obtain ⟨hp,hnl⟩:=hpl
       have HN : Hid (∀ j,k ≤ j → j < p + 1 → isDg (bt s j) = true):=fun j h1 h2 => by
        rcases Nat.lt_or_ge j p with h | h
        ·exact HALL.out j h1 h
        ·obtain rfl : j = p:=by omega
         exact hnl
       have hst : capF 0 ((s.extract k s.size).data.toList.take (p + 1 - k)) = if n ≤ 1073741823 then 10 * n + ((bt s p).toNat - 48) else n:=by
        rw [show p + 1 - k = p - k + 1 by omega,take_bt (x:=s.extract k s.size) (by omega),capF_snoc,← HNN.out,ext_bt (s:=s) (i:=k) (k:=s.size) (j:=p - k) (by omega) (Nat.le_refl _),show k + (p - k) = p by omega]
       have HSTP:=Lib.hid hst
       rw [hnl] at HD2
       have hdig : 48 ≤ (bt s p).toNat ∧ (bt s p).toNat ≤ 57:=by
        unfold isDg at hnl
        simpa using hnl
       clear hnl hst
       by_cases hnm : n ≤ 1073741823
       ·have HS2:=Lib.hid (HSTP.out.trans (if_pos hnm))
        have hw1' : IntKind.i64.wrap (10 * (n : Int)) = 10 * (n : Int):=IntWalk.i64_in _ (by omega)
        have hw2' : IntKind.i64.wrap (10 * (n : Int) + ((bt s p).toNat : Int)) = 10 * (n : Int) + ((bt s p).toNat : Int):=IntWalk.i64_in _ (by omega)
        have hw3' : IntKind.i64.wrap (10 * (n : Int) + ((bt s p).toNat : Int) - 48) = 10 * (n : Int) + ((bt s p).toNat : Int) - 48:=IntWalk.i64_in _ (by omega)
        go_wp2_with (go_at_call 32;refine HD2.out.mono ?_;rintro e w' ⟨rfl,rfl⟩)
        go_round
        case rel => exact ⟨p + 1,10 * n + ((bt s p).toNat - 48),by go_num,by congr 1;omega,by omega,by omega,HN.out,HS2.out.symm,by omega⟩
        case measure => simp [intOf];omega
       ·have HS2:=Lib.hid (HSTP.out.trans (if_neg hnm))
        go_wp2_with (go_at_call 32;refine HD2.out.mono ?_;rintro e w' ⟨rfl,rfl⟩)
        go_round
        case rel => exact ⟨p + 1,n,by go_num,rfl,by omega,by omega,HN.out,HS2.out.symm,hn9⟩
        case measure => simp [intOf];omega
      ·have hsp:=span_off (s:=s) (f:=isDg) hkp hps HALL.out (fun h => by
        cases h2 : isDg (bt s p) with
        | false => rfl
        | true => exact absurd ⟨h,h2⟩ hpl)
       have hkp2 : k < p:=by
        rcases Nat.lt_or_ge k p with h | h
        ·exact h
        ·obtain rfl : k = p:=by omega
         exact absurd ⟨hlt,HDK.out⟩ hpl
       have hcap:=cap_iff ((s.extract k s.size).data.toList.take (p - k)) 0
       rw [← HNN.out] at hcap
       have hC:=HCE4.out
       rw [hsp] at hC
       have hlb : p < s.size → bt (s.extract k s.size) (p - k) = bt s p:=fun h => by rw [ext_bt (s:=s) (i:=k) (k:=s.size) (j:=p - k) (by omega) (Nat.le_refl _),show k + (p - k) = p by omega]
       have hwr : IntKind.i64.wrap ((p : Int) - (k : Int)) = (p : Int) - (k : Int):=IntWalk.i64_in _ (by omega)
       have hq : (¬ p < s.size) ∨ (p < s.size ∧ isDg (bt s p) = false):=by
        by_cases h : p < s.size
        ·right
         refine ⟨h,?_⟩
         cases h2 : isDg (bt s p) with
         | false => rfl
         | true => exact absurd ⟨h,h2⟩ hpl
        ·exact .inl h
       have hG : bt s k = 48 ↔ ((((bt s k).toNat : Nat) : Int) == 48) = true:=by
        have h:=HB48.out
        rw [show ((((bt s k).toNat : Nat) : Int) == 48) = decide (bt s k = UInt8.ofNat 48) from h]
        simp only [decide_eq_true_eq]
        exact Iff.rfl
       have HL2:=Lib.hid (rletter_any (bt s p) wr)
       have hcs : (cutF (s.extract k s.size) = (0,0,2) ∧ (1073741823 < n ∨ (¬ 1073741823 < n ∧ 1 < (p : Int) - (k : Int) ∧ ((((bt s k).toNat : Nat) : Int) == 48) = true) ∨ (¬ 1073741823 < n ∧ ¬ 1 < (p : Int) - (k : Int) ∧ p < s.size ∧ isLt (bt s p) = true) ∨ (¬ 1073741823 < n ∧ 1 < (p : Int) - (k : Int) ∧ ((((bt s k).toNat : Nat) : Int) == 48) = false ∧ p < s.size ∧ isLt (bt s p) = true)))
         ∨ (cutF (s.extract k s.size) = (2,p - k,0) ∧ (p < s.size → isLt (bt s p) = false) ∧ ((¬ 1073741823 < n ∧ ¬ 1 < (p : Int) - (k : Int)) ∨ (¬ 1073741823 < n ∧ 1 < (p : Int) - (k : Int) ∧ ((((bt s k).toNat : Nat) : Int) == 48) = false))):=by
        by_cases hE : 1073741823 < n
        ·exact .inl ⟨hC.trans (if_pos (.inl (hcap.1 hE))),.inl hE⟩
        have hE2 : ¬ 1073741823 < numF 0 ((s.extract k s.size).data.toList.take (p - k)):=fun h => hE (hcap.2 h)
        by_cases hF : 1 < (p : Int) - (k : Int)
        ·cases hg : ((((bt s k).toNat : Nat) : Int) == 48)
         ·have hG2 : ¬ bt s k = 48:=fun h => by rw [hG.1 h] at hg;cases hg
          by_cases hI : p < s.size ∧ isLt (bt s p) = true
          ·exact .inl ⟨hC.trans (if_pos (.inr (.inr ⟨by omega,by rw [hlb hI.1];exact hI.2⟩))),.inr (.inr (.inr ⟨hE,hF,rfl,hI⟩))⟩
          ·refine .inr ⟨hC.trans (if_neg ?_),fun h => ?_,.inr ⟨hE,hF,rfl⟩⟩
           ·rintro (h | h | h)
            ·exact hE2 h
            ·exact hG2 h.2
            ·have hp : p < s.size:=by omega
             rw [hlb hp] at h
             exact hI ⟨hp,h.2⟩
           ·cases h2 : isLt (bt s p) with
            | false => rfl
            | true => exact absurd ⟨h,h2⟩ hI
         ·exact .inl ⟨hC.trans (if_pos (.inr (.inl ⟨by omega,hG.2 hg⟩))),.inr (.inl ⟨hE,hF,rfl⟩)⟩
        ·by_cases hI : p < s.size ∧ isLt (bt s p) = true
         ·exact .inl ⟨hC.trans (if_pos (.inr (.inr ⟨by omega,by rw [hlb hI.1];exact hI.2⟩))),.inr (.inr (.inl ⟨hE,hF,hI⟩))⟩
         ·refine .inr ⟨hC.trans (if_neg ?_),fun h => ?_,.inl ⟨hE,hF⟩⟩
          ·rintro (h | h | h)
           ·exact hE2 h
           ·omega
           ·have hp : p < s.size:=by omega
            rw [hlb hp] at h
            exact hI ⟨hp,h.2⟩
          ·cases h2 : isLt (bt s p) with
           | false => rfl
           | true => exact absurd ⟨h,h2⟩ hI
       clear hsp hcap hC hlb hG hpl hxs
       rcases hcs with ⟨hc,hcs⟩ | ⟨hc,hil,hcs⟩
       ·have HC:=Lib.hid hc
        have hbad:=HBAD.out (by rw [HC.out];decide)
        rw [HC.out] at hbad
        have HS:=Lib.hid hbad
        have hfs:=fault_store HXW.out HQ.out (Nat.le_refl _) (.int .i64 2) (.int .i64 (k : Int))
        have HFS:=Lib.hid hfs
        obtain ⟨q1,q2,q3,q4,q5⟩:=HQ.out.f2
        have hFw : w.heap.size < w1.heap.size:=HQ0.out.lt
        clear hfs hbad hc
        rcases hq with hq | ⟨hq,hdg⟩
        ·rcases hcs with hE | ⟨hE,hF,hG⟩ | ⟨-,-,h,-⟩ | ⟨-,-,-,h,-⟩
         rotate_left 2
         ·exact absurd h hq
         ·exact absurd h hq
         all_goals as_aux_lemma =>
          go_wp2_with fail
          have hfs:=HFS.out
          refine open_post (fun W => Below w.heap.size w W ∧ Blk W w.heap.size 27 #[.int .i64 2,.int .i64 (k : Int)] ∧ (∀ j,j ≠ w.heap.size → W.heap[j]? = wr.heap[j]?) ∧ wr.heap.size ≤ W.heap.size) hfs ?_
          rintro W ⟨hbW,hqW,-,-⟩
          obtain ⟨u1,u2,-⟩:=hqW.f2
          refine bodyPost_ret (v:=.tuple #[.slice none 0 0,.agg #[.int .i64 2,.int .i64 (k : Int)]]) (by simp [results,Tryz.results16,go_sem,u1,u2]) rfl ⟨hbW,none,0,?_,?_⟩
          ·rw [HS.out];rfl
          ·rw [HS.out];exact fun h => absurd h (Nat.lt_irrefl 0)
        ·rw [hdg] at HD2
         generalize hil : isLt (bt s p) = il at *
         clear hdg hil
         rcases hcs with hE | ⟨hE,hF,hG⟩ | ⟨hE,hF,-,hI⟩ | ⟨hE,hF,hG,-,hI⟩
         rotate_left 2
         all_goals first | subst hI | skip
         all_goals as_aux_lemma =>
          go_wp2_with (first
           | (go_at_call 31;refine HL2.out.mono ?_;rintro e w' ⟨rfl,rfl⟩)
           | (go_at_call 32;refine HD2.out.mono ?_;rintro e w' ⟨rfl,rfl⟩))
          have hfs:=HFS.out
          refine open_post (fun W => Below w.heap.size w W ∧ Blk W w.heap.size 27 #[.int .i64 2,.int .i64 (k : Int)] ∧ (∀ j,j ≠ w.heap.size → W.heap[j]? = wr.heap[j]?) ∧ wr.heap.size ≤ W.heap.size) hfs ?_
          rintro W ⟨hbW,hqW,-,-⟩
          obtain ⟨u1,u2,-⟩:=hqW.f2
          refine bodyPost_ret (v:=.tuple #[.slice none 0 0,.agg #[.int .i64 2,.int .i64 (k : Int)]]) (by simp [results,Tryz.results16,go_sem,u1,u2]) rfl ⟨hbW,none,0,?_,?_⟩
          ·rw [HS.out];rfl
          ·rw [HS.out];exact fun h => absurd h (Nat.lt_irrefl 0)
       ·have HC:=Lib.hid hc
        have hnx:=HNX.out (by rw [HC.out])
        rw [HC.out] at hnx
        dsimp only at hnx
        rw [if_neg (by decide),show k + (p - k) = p by omega] at hnx
        have HAN:=Lib.hid hnx.2.2
        have HOA:=Lib.hid (HOW.out.alloc (.cells #[.int .i64 2,.string (s.extract k p),.int .i64 (k : Int)] 87))
        have HNW:=Lib.hid (tok_news wr ⟨2,s.extract k p,k⟩)
        have hsa : w1.heap.size ≤ (wr.alloc (.cells #[.int .i64 2,.string (s.extract k p),.int .i64 (k : Int)] 87)).heap.size:=by rw [World.size_alloc];omega
        have HBA : Hid (Below w1.heap.size w1 (wr.alloc (.cells #[.int .i64 2,.string (s.extract k p),.int .i64 (k : Int)] 87))):=HBW.out.alloc hsz _
        clear hnx hc
        rcases hq with hq | ⟨hq,hdg⟩
        ·clear hil
         rcases hcs with ⟨hE,hF⟩ | ⟨hE,hF,hG⟩
         all_goals as_aux_lemma =>
          go_wp2_with (at_builtin;refine wpList_pushT rfl _ _ rfl w1.heap.size _ acc rfl HOA.out ⟨2,s.extract k p,k⟩ ⟨wr.heap.size,0,none⟩ 1 rfl HNW.out (by omega) hsa ?_;intro v9 w9 hown9 hgr9;have HOW9:=Lib.hid hown9;have HB9:=Lib.hid (HBA.out.grown hgr9 hsa (fun q hq => (HOA.out.lt q hq).1));clear hown9 hgr9)
          go_roundw
          case rel => exact ⟨p,_,rfl,HAN.out,HOW9.out,HB9.out,by simp;omega⟩
          case measure => simp [intOf];omega
        ·rw [hil hq] at HL2
         rw [hdg] at HD2
         clear hil hdg
         rcases hcs with ⟨hE,hF⟩ | ⟨hE,hF,hG⟩
         all_goals as_aux_lemma =>
          go_wp2_with (first
           | (go_at_call 31;refine HL2.out.mono ?_;rintro e w' ⟨rfl,rfl⟩)
           | (go_at_call 32;refine HD2.out.mono ?_;rintro e w' ⟨rfl,rfl⟩)
           | (at_builtin;refine wpList_pushT rfl _ _ rfl w1.heap.size _ acc rfl HOA.out ⟨2,s.extract k p,k⟩ ⟨wr.heap.size,0,none⟩ 1 rfl HNW.out (by omega) hsa ?_;intro v9 w9 hown9 hgr9;have HOW9:=Lib.hid hown9;have HB9:=Lib.hid (HBA.out.grown hgr9 hsa (fun q hq => (HOA.out.lt q hq).1));clear hown9 hgr9))
          go_roundw
          case rel => exact ⟨p,_,rfl,HAN.out,HOW9.out,HB9.out,by simp;omega⟩
          case measure => simp [intOf];omega
    case false => as_aux_lemma =>
     rw [c4] at HDG
     have hce:=HCE3.out.trans (if_neg (by rw [c4];decide))
     have hb0 : bt (s.extract k s.size) 0 = bt s k:=by rw [ext_bt (s:=s) (i:=k) (k:=s.size) (j:=0) (by omega) (Nat.le_refl _),Nat.add_zero]
     have HSG:=Lib.hid (sign_any (s.extract k s.size) hx0 (by omega) wr)
     rw [hb0] at HSG
     clear HCE3 c4 hb0
     have hle2 : signN (bt s k) (if 1 < (s.extract k s.size).size then some (bt (s.extract k s.size) 1) else none) ≤ 2:=signN_le2 _ _
     generalize signN (bt s k) (if 1 < (s.extract k s.size).size then some (bt (s.extract k s.size) 1) else none) = q at *
     by_cases hq0 : q = 0
     ·subst hq0
      have HC : Hid (cutF (s.extract k s.size) = (0,0,11)):=hce.trans (if_pos rfl)
      have hbad:=HBAD.out (by rw [HC.out];decide)
      rw [HC.out] at hbad
      have HS:=Lib.hid hbad
      clear hce hbad
      go_wp2_with (first
       | (go_at_call 31;refine HLT.out.mono ?_;rintro e w' ⟨rfl,rfl⟩)
       | (go_at_call 32;refine HDG.out.mono ?_;rintro e w' ⟨rfl,rfl⟩))
      refine HSG.out.mono ?_
      rintro e w2 ⟨rfl,m,rfl⟩
      have hfs:=fault_store (HXW.out.trans ((belowN wr.heap.size wr m).mono HXW.out.size)) (HQ.out.drewN m) (Nat.le_refl _) (.int .i64 11) (.int .i64 (k : Int))
      have HFS:=Lib.hid hfs
      obtain ⟨q1,q2,q3,q4,q5⟩:=HQ.out.f2
      have hFw : w.heap.size < w1.heap.size:=HQ0.out.lt
      clear hfs
      go_wp2_with fail
      have hfs:=HFS.out
      refine open_post (fun W => Below w.heap.size w W ∧ Blk W w.heap.size 27 #[.int .i64 11,.int .i64 (k : Int)] ∧ (∀ j,j ≠ w.heap.size → W.heap[j]? = (wr.drewN m).heap[j]?) ∧ (wr.drewN m).heap.size ≤ W.heap.size) hfs ?_
      rintro W ⟨hbW,hqW,-,-⟩
      obtain ⟨u1,u2,-⟩:=hqW.f2
      refine bodyPost_ret (v:=.tuple #[.slice none 0 0,.agg #[.int .i64 11,.int .i64 (k : Int)]]) (by simp [results,Tryz.results16,go_sem,u1,u2]) rfl ⟨hbW,none,0,?_,?_⟩
      ·rw [HS.out];rfl
      ·rw [HS.out];exact fun h => absurd h (Nat.lt_irrefl 0)
     ·have HC : Hid (cutF (s.extract k s.size) = (4,q,0)):=hce.trans (if_neg hq0)
      have hnx:=HNX.out (by rw [HC.out])
      rw [HC.out] at hnx
      dsimp only at hnx
      rw [if_neg (by decide)] at hnx
      have HAN:=Lib.hid hnx.2.2
      have hn1:=hnx.1
      have hn2:=hnx.2.1
      clear hce hnx
      go_wp2_with (first
       | (go_at_call 31;refine HLT.out.mono ?_;rintro e w' ⟨rfl,rfl⟩)
       | (go_at_call 32;refine HDG.out.mono ?_;rintro e w' ⟨rfl,rfl⟩))
      refine HSG.out.mono ?_
      rintro e w2 ⟨rfl,m,rfl⟩
      have hb2:=belowN wr.heap.size wr m
      have HOW2:=Lib.hid (ownT_grown0 HOW.out (grownBy_below hb2))
      have HBW2:=Lib.hid (HBW.out.trans (hb2.mono HBW.out.size))
      generalize wr.drewN m = w2 at *
      have hsz2 : w1.heap.size ≤ w2.heap.size:=HBW2.out.size
      clear hb2 HSG
      have HOA:=Lib.hid (HOW2.out.alloc (.cells #[.int .i64 4,.string (s.extract k (k + q)),.int .i64 (k : Int)] 87))
      have HNW:=Lib.hid (tok_news w2 ⟨4,s.extract k (k + q),k⟩)
      have hsa : w1.heap.size ≤ (w2.alloc (.cells #[.int .i64 4,.string (s.extract k (k + q)),.int .i64 (k : Int)] 87)).heap.size:=by rw [World.size_alloc];omega
      have HBA : Hid (Below w1.heap.size w1 (w2.alloc (.cells #[.int .i64 4,.string (s.extract k (k + q)),.int .i64 (k : Int)] 87))):=HBW2.out.alloc hsz2 _
      have hq0' : ((q : Int) == 0) = false:=by rw [beq_eq_false_iff_ne];omega
      go_wp2_with (at_builtin;refine wpList_pushT rfl _ _ rfl w1.heap.size _ acc rfl HOA.out ⟨4,s.extract k (k + q),k⟩ ⟨w2.heap.size,0,none⟩ 1 rfl HNW.out (by omega) hsa ?_;intro v9 w9 hown9 hgr9;have HOW9:=Lib.hid hown9;have HB9:=Lib.hid (HBA.out.grown hgr9 hsa (fun q hq => (HOA.out.lt q hq).1));clear hown9 hgr9)
      go_roundw
      case rel => exact ⟨k + q,_,by go_num,HAN.out,HOW9.out,HB9.out,by simp;omega⟩
      case measure => simp [intOf];omega
  ·have hend:=HAT.out.stop hlt
   have HEND:=Lib.hid hend
   have hFw : w.heap.size < w1.heap.size:=HQ0.out.lt
   have hfs:=fault_store HXW.out HQ.out (Nat.le_refl _) (.int .i64 0) (.int .i64 0)
   have HFS:=Lib.hid hfs
   obtain ⟨q1,q2,q3,q4,q5⟩:=HQ.out.f2
   clear hend hfs
   go_wp2_with fail
   have hfs:=HFS.out
   refine open_post (fun W => Below w.heap.size w W ∧ Blk W w.heap.size 27 #[.int .i64 0,.int .i64 0] ∧ (∀ j,j ≠ w.heap.size → W.heap[j]? = wr.heap[j]?) ∧ wr.heap.size ≤ W.heap.size) hfs ?_
   rintro W ⟨hbW,hqW,hkW,hzW⟩
   obtain ⟨u1,u2,-⟩:=hqW.f2
   refine bodyPost_ret (v:=.tuple #[.slice C acc.length cc,.agg #[.int .i64 0,.int .i64 0]]) (by simp [results,Tryz.results16,go_sem,u1,u2]) rfl ⟨hbW,C,cc,?_,?_⟩
   ·rw [HEND.out];rfl
   ·rw [HEND.out];exact HTK.out.far HLO.out hFw hzW hkW
end Go.Proofs.YtbpldfmmlgkfnaaGreatDoor
