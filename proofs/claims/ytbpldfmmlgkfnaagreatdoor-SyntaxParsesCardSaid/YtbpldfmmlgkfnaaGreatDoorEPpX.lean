/- The program's parser, whole: each command at any fuel; a text. What SyntaxParses' code computes. Conditions: as each theorem says. -/
import Derived.Test.YtbpldfmmlgkfnaaGreatDoorEPpO
import Derived.Test.YtbpldfmmlgkfnaaGreatDoorEPpN
import Derived.Test.YtbpldfmmlgkfnaaGreatDoorEPpJ
import Derived.Test.YtbpldfmmlgkfnaaGreatDoorEPpF
import Derived.Test.YtbpldfmmlgkfnaaGreatDoorEPpT
import Derived.Test.YtbpldfmmlgkfnaaGreatDoorESmB
namespace Go.Proofs.YtbpldfmmlgkfnaaGreatDoor
open Go.RowKit
set_option linter.unusedVariables false
structure PAll (f : Nat) : Prop where
 expr : PCall f .expr 108
 sum : PCall f .sum 120
 term : PCall f .term 126
 unary : PCall f .unary 129
 call : PCall f .call 135
 primary : PCall f .primary 142
 block : PCall f .block 64
 stmt : PCall f .stmt 94
 cls : PCall f .cls 62
theorem pcall_zero (c : Cmd) (fn : FuncId) : PCall 0 c fn:=fun E s w h hout => absurd (by simp only [run]) hout
theorem pprimary_all {f : Nat} (ihX : PCall f .expr 108) : PCall (f + 1) .primary 142:=fun E s w h hout => by
 cases h2 : isP E.L 2 s with
 | true => exact pprimary_num h h2
 | false => exact pprimary_rest ihX h hout h2
theorem pall_le : ∀ (f g : Nat),g ≤ f → PAll g
 | 0,g,h => by
  obtain rfl : g = 0:=Nat.le_zero.1 h
  exact ⟨pcall_zero _ _,pcall_zero _ _,pcall_zero _ _,pcall_zero _ _,pcall_zero _ _,pcall_zero _ _,pcall_zero _ _,pcall_zero _ _,pcall_zero _ _⟩
 | f + 1,g,h => by
  have ih:=pall_le f
  rcases Nat.lt_or_ge f g with hg | hg
  ·obtain rfl : g = f + 1:=Nat.le_antisymm h hg
   have hf:=ih f (Nat.le_refl f)
   exact ⟨fun E s w h hout => pexpr_any hf.sum h hout,fun E s w h hout => psum_any (fun g hg => (ih g hg).term) h hout,fun E s w h hout => pterm_any (fun g hg => (ih g hg).unary) h hout,
    fun E s w h hout => punary_any hf.unary hf.call h hout,fun E s w h hout => pcall_any hf.primary (fun g hg => (ih g hg).expr) h hout,pprimary_all hf.expr,fun E s w h hout => pblock_any (fun g hg => (ih g hg).stmt) h hout,
    fun E s w h hout => pstmt_any hf.expr hf.block h hout,fun E s w h hout => pclass_any (fun g hg => (ih g hg).block) h hout⟩
  ·exact ih g hg
theorem pprog_all (f : Nat) (E : Env) (s : PS) (w : World) (h : PAt w E s) (hout : progX E f s ≠ .out) : Calls Tryz.prog 30 #[.pointer (some ⟨E.Q,0,none⟩)] w (PEnd E (progX E f s) w) :=
 pprogram_any (fun g hg => (pall_le f g hg).cls) (pall_le f f (Nat.le_refl f)).block h hout
theorem pparse_all (s : ByteArray) (hs : s.size ≤ 9223372036854775807) (w : World) (hv : LV w) : Calls Tryz.prog 6 #[.string s] w (ParseEnd (parseT s) w):=pparse_any pprog_all s hs w hv
end Go.Proofs.YtbpldfmmlgkfnaaGreatDoor

namespace Go.Proofs.YtbpldfmmlgkfnaaGreatDoor
open Go.RowKit
set_option linter.unusedVariables false
set_option maxRecDepth 100000 in
set_option maxHeartbeats 3200000 in
theorem syntaxParses_walk (s : ByteArray) (W : World) (hs : s.size ≤ 9223372036854775807) (hv : LV W) : Calls Tryz.prog 3 #[.string s] W fun e w' => e = .returned (.bool true) ∧ Below W.heap.size W w':=by
 have HP1:=Lib.hid ((pparse_all s hs W hv).mono (fun _ _ h => parse_one h (parse_no_out s)))
 have HP2:=Lib.hid (fun w => (rparse_any s hs w).mono (fun _ _ h => parse_one h (parse_no_out s)))
 have HF:=Lib.hid (parse_one_few s)
 clear hv
 generalize resN (parseT s) = n at *
 generalize resC (parseT s) = c at *
 generalize resP (parseT s) = p at *
 go_enter Tryz.func3,Tryz.ntmps3
 go_wp2_with fail
 refine HP1.out.mono ?_
 rintro e w1 ⟨hb1,x,rfl,hn1⟩
 have HBX:=Lib.hid ((Blk.new w1 24 #[.int .i64 x.kind,.string x.text,.int .i64 x.num,.slice x.a x.len x.cap]).alloc (.cells #[.int .i64 c,.int .i64 (p : Nat)] 27))
 have HBF:=Lib.hid (Blk.new (w1.alloc (.cells #[.int .i64 x.kind,.string x.text,.int .i64 x.num,.slice x.a x.len x.cap] 24)) 27 #[.int .i64 c,.int .i64 (p : Nat)])
 have hsz : (w1.alloc (.cells #[.int .i64 x.kind,.string x.text,.int .i64 x.num,.slice x.a x.len x.cap] 24)).heap.size = w1.heap.size + 1:=World.size_alloc _ _
 rw [hsz] at HBF
 have HN1:=Lib.hid ((hn1.alloc (.cells #[.int .i64 x.kind,.string x.text,.int .i64 x.num,.slice x.a x.len x.cap] 24)).alloc (.cells #[.int .i64 c,.int .i64 (p : Nat)] 27))
 have HB1:=Lib.hid ((hb1.alloc hb1.size (.cells #[.int .i64 x.kind,.string x.text,.int .i64 x.num,.slice x.a x.len x.cap] 24)).alloc (by rw [hsz];exact Nat.le_succ_of_le hb1.size) (.cells #[.int .i64 c,.int .i64 (p : Nat)] 27))
 clear hn1 hb1 hsz HP1
 go_wp2_with fail
 generalize (w1.alloc (.cells #[.int .i64 x.kind,.string x.text,.int .i64 x.num,.slice x.a x.len x.cap] 24)).alloc (.cells #[.int .i64 c,.int .i64 (p : Nat)] 27) = w2 at *
 generalize w1.heap.size = b1 at *
 refine (HP2.out w2).mono ?_
 rintro e w3 ⟨hb3,y,rfl,hn2⟩
 have hsz : (w3.alloc (.cells #[.int .i64 y.kind,.string y.text,.int .i64 y.num,.slice y.a y.len y.cap] 24)).heap.size = w3.heap.size + 1:=World.size_alloc _ _
 have hb4 : Below w2.heap.size w2 ((w3.alloc (.cells #[.int .i64 y.kind,.string y.text,.int .i64 y.num,.slice y.a y.len y.cap] 24)).alloc (.cells #[.int .i64 c,.int .i64 (p : Nat)] 27)):=(hb3.alloc hb3.size (.cells #[.int .i64 y.kind,.string y.text,.int .i64 y.num,.slice y.a y.len y.cap] 24)).alloc (by rw [hsz];exact Nat.le_succ_of_le hb3.size) (.cells #[.int .i64 c,.int .i64 (p : Nat)] 27)
 have HBX2:=Lib.hid (HBX.out.below hb4 HBX.out.lt)
 have HBF2:=Lib.hid (HBF.out.below hb4 HBF.out.lt)
 have HN2:=Lib.hid (HN1.out.kept hb4.size (fun b hb _ => hb4.block b hb) (fun b _ h => h))
 have HM2:=Lib.hid ((hn2.alloc (.cells #[.int .i64 y.kind,.string y.text,.int .i64 y.num,.slice y.a y.len y.cap] 24)).alloc (.cells #[.int .i64 c,.int .i64 (p : Nat)] 27))
 have HB2:=Lib.hid (HB1.out.trans (hb4.mono HB1.out.size))
 have HBY:=Lib.hid ((Blk.new w3 24 #[.int .i64 y.kind,.string y.text,.int .i64 y.num,.slice y.a y.len y.cap]).alloc (.cells #[.int .i64 c,.int .i64 (p : Nat)] 27))
 have HBG:=Lib.hid (Blk.new (w3.alloc (.cells #[.int .i64 y.kind,.string y.text,.int .i64 y.num,.slice y.a y.len y.cap] 24)) 27 #[.int .i64 c,.int .i64 (p : Nat)])
 rw [hsz] at HBG
 clear hn2 hb3 hb4 hsz HP2 HBX HBF HN1 HB1
 obtain ⟨u0,u1,u2,u3,-,-,-,-,-⟩:=HBX2.out.f4
 obtain ⟨q0,q1,q2,q3,q4⟩:=HBF2.out.f2
 obtain ⟨v0,v1,v2,v3,-,-,-,-,-⟩:=HBY.out.f4
 obtain ⟨r0,r1,r2,r3,r4⟩:=HBG.out.f2
 go_wp2_with fail
 clear u0 u1 u2 u3 v0 v1 v2 v3 q0 q1 q2 q3 q4 r0 r1 r2 r3 r4
 have HSM:=Lib.hid (same_any (M:=4003) (by omega) _ n (Nat.lt_succ_self _) HF.out x y _ _ _ HN2.out HM2.out)
 generalize (w3.alloc (.cells #[.int .i64 y.kind,.string y.text,.int .i64 y.num,.slice y.a y.len y.cap] 24)).alloc (.cells #[.int .i64 c,.int .i64 (p : Nat)] 27) = w4 at *
 generalize w3.heap.size = b3 at *
 refine HSM.out.mono ?_
 rintro e w5 ⟨rfl,hb5⟩
 obtain ⟨q0,q1,q2,q3,q4⟩:=(HBF2.out.below hb5 HBF2.out.lt).f2
 obtain ⟨r0,r1,r2,r3,r4⟩:=(HBG.out.below hb5 HBG.out.lt).f2
 have HE:=Lib.hid (HB2.out.trans (hb5.mono HB2.out.size))
 clear hb5
 go_wp2_with fail
 go_returns
 exact ⟨rfl,HE.out⟩
end Go.Proofs.YtbpldfmmlgkfnaaGreatDoor
