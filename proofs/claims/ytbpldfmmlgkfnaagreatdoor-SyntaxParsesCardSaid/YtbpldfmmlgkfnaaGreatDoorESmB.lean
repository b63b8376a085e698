/- gessoref9.Same on two nodes that are the same plain node: it answers true. No node of what is parsed has many more kids than there are tokens. No program in sight. What comes of a text, in one form: a node (or none), a fault. Conditions: as each theorem says. -/
import Derived.Test.YtbpldfmmlgkfnaaGreatDoorEMemZ
import Derived.BigRegion
import Derived.Handy
import Derived.StillTailTactics
import Derived.Deep.LoopGhost
import Derived.Test.YtbpldfmmlgkfnaaGreatDoorEPaSpec4
import Derived.Test.YtbpldfmmlgkfnaaGreatDoorERpR
namespace Go.Proofs.YtbpldfmmlgkfnaaGreatDoor
open Go.RowKit
set_option linter.unusedVariables false
/-- No node in it has more than M kids. -/
inductive FewN (M : Nat) : Nd → Prop where
 | mk (k : Int) (t : ByteArray) (m : Int) (l : List Nd) : l.length ≤ M → (∀ x,x ∈ l → FewN M x) → FewN M (.mk k t m l)
theorem FewN.len {M : Nat} {n : Nd} (h : FewN M n) : n.kids.length ≤ M:=by cases h;assumption
theorem FewN.kid {M : Nat} {n x : Nd} (h : FewN M n) (hx : x ∈ n.kids) : FewN M x:=by
 cases h with
 | mk k t m l h1 h2 => exact h2 x hx
theorem FewN.more {M M' : Nat} {n : Nd} (h : FewN M n) (hm : M ≤ M') : FewN M' n:=by
 induction h with
 | mk k t m l h1 h2 ih => exact .mk k t m l (Nat.le_trans h1 hm) ih
/-- The row of a node's kids. -/
theorem Nodes.at {w : World} {S : Nat → Prop} {A : Option Addr} {l : List Nd} (h : Nodes w S A l) (i : Nat) (hi : i < l.length) : ∃ b o x,A = some ⟨b,o,none⟩ ∧ S b ∧ b < w.heap.size ∧ CellN w b (o + i * 4) x ∧ IsN w S x (l[i]):=by
 cases h with
 | nil A => simp at hi
 | row b o l xs h1 h2 h3 h4 h5 h6 =>
  have hx : i < xs.length:=by omega
  exact ⟨b,o,xs[i],rfl,h1,h2,h4 i _ (List.getElem?_eq_getElem hx),h5 i _ _ (List.getElem?_eq_getElem hx) (List.getElem?_eq_getElem hi),h6 i _ _ (List.getElem?_eq_getElem hx) (List.getElem?_eq_getElem hi)⟩
theorem size_kid {k : Int} {t : ByteArray} {m : Int} {l : List Nd} {x : Nd} (h : x ∈ l) : SizeOf.sizeOf x < SizeOf.sizeOf (Nd.mk k t m l):=by
 have:=List.sizeOf_lt_of_mem h
 simp only [Nd.mk.sizeOf_spec]
 omega
set_option maxRecDepth 100000 in
set_option maxHeartbeats 3200000 in
theorem same_any {M : Nat} (hM : M ≤ 100000) : ∀ (N : Nat) (n : Nd),SizeOf.sizeOf n < N → FewN M n → ∀ (x y : NV) (w : World) (S S' : Nat → Prop),IsN w S x n → IsN w S' y n → Calls Tryz.prog 8 #[nvA x,nvA y] w fun e w' => e = .returned (.bool true) ∧ Below w.heap.size w w':=by
 intro N
 induction N with
 | zero => intro n h;omega
 | succ N ih =>
  intro n hN hf x y w S S' hx hy
  obtain ⟨⟨h1,h2,h3,h4⟩,hnx⟩:=hx
  obtain ⟨⟨g1,g2,g3,g4⟩,hny⟩:=hy
  have hlen:=hf.len
  have hkid : ∀ i (hi : i < n.kids.length),SizeOf.sizeOf (n.kids[i]) < N ∧ FewN M (n.kids[i]):=fun i hi => by
   refine ⟨?_,hf.kid (List.getElem_mem hi)⟩
   have h9 : n.kids[i] ∈ n.kids:=List.getElem_mem hi
   cases n with
   | mk k t m l => have:=size_kid (k:=k) (t:=t) (m:=m) h9;exact Nat.lt_of_lt_of_le this (Nat.le_of_lt_succ hN)
  obtain ⟨xk,xt,xn,xa,xl,xc⟩:=x
  obtain ⟨yk,yt,yn,ya,yl,yc⟩:=y
  dsimp only at h1 h2 h3 h4 g1 g2 g3 g4 hnx hny
  subst h1 h2 h3 h4 g1 g2 g3
  generalize n.kids = ls at *
  subst g4
  have hb2 : Below w.heap.size w ((w.alloc (.cells #[.int .i64 n.kind,.string n.text,.int .i64 n.num,.slice xa ls.length xc] 24)).alloc (.cells #[.int .i64 n.kind,.string n.text,.int .i64 n.num,.slice ya ls.length yc] 24)):=((Below.refl _ _).alloc (Nat.le_refl _) _).alloc (by rw [World.size_alloc];omega) _
  have HBX:=Lib.hid ((Blk.new w 24 #[.int .i64 n.kind,.string n.text,.int .i64 n.num,.slice xa ls.length xc]).alloc (.cells #[.int .i64 n.kind,.string n.text,.int .i64 n.num,.slice ya ls.length yc] 24))
  have HBY:=Lib.hid (Blk.new (w.alloc (.cells #[.int .i64 n.kind,.string n.text,.int .i64 n.num,.slice xa ls.length xc] 24)) 24 #[.int .i64 n.kind,.string n.text,.int .i64 n.num,.slice ya ls.length yc])
  have HB:=Lib.hid hb2
  have HNX:=Lib.hid hnx;have HNY:=Lib.hid hny;have HK:=Lib.hid hkid;have HIH:=Lib.hid ih
  have hz : (w.alloc (.cells #[.int .i64 n.kind,.string n.text,.int .i64 n.num,.slice xa ls.length xc] 24)).heap.size = w.heap.size + 1:=World.size_alloc _ _
  rw [hz] at HBY
  clear hb2 hnx hny hkid ih hf hN
  obtain ⟨u0,u1,u2,u3,-,-,-,-,-⟩:=HBX.out.f4
  obtain ⟨v0,v1,v2,v3,-,-,-,-,-⟩:=HBY.out.f4
  go_enter Tryz.func8,Tryz.ntmps8
  go_wp2_with fail
  clear u0 u1 u2 u3 v0 v1 v2 v3
  generalize (w.alloc (.cells #[.int .i64 n.kind,.string n.text,.int .i64 n.num,.slice xa ls.length xc] 24)).alloc (.cells #[.int .i64 n.kind,.string n.text,.int .i64 n.num,.slice ya ls.length yc] 24) = w2 at *
  have HLEN:=Lib.hid hlen
  clear hz hlen
  go_loopg [5] ls.length (fun gk v wr => ∃ i : Nat,v = .int .i64 (i : Int) ∧ i ≤ ls.length ∧ ls.length - i ≤ gk ∧ Below w.heap.size w wr ∧ Blk wr w.heap.size 24 #[.int .i64 n.kind,.string n.text,.int .i64 n.num,.slice xa ls.length xc] ∧ Blk wr (w.heap.size + 1) 24 #[.int .i64 n.kind,.string n.text,.int .i64 n.num,.slice ya ls.length yc])
  case atStart => exact ⟨0,rfl,Nat.zero_le _,Nat.le_refl _,HB.out,HBX.out,HBY.out⟩
  case round =>
   clear HB HBX HBY
   obtain ⟨i,rfl,hi,hgk,hb,hbx,hby⟩:=hrel
   have HB:=Lib.hid hb;have HBX:=Lib.hid hbx;have HBY:=Lib.hid hby;have HGK:=Lib.hid hgk;have HI:=Lib.hid hi
   clear hb hbx hby hgk hi
   obtain ⟨u0,u1,u2,u3,-,-,-,-,-⟩:=HBX.out.f4
   obtain ⟨v0,v1,v2,v3,-,-,-,-,-⟩:=HBY.out.f4
   by_cases hlt : i < ls.length
   ·have hx9:=HNX.out.kept (w':=wr) HB.out.size (fun b hb hs => HB.out.block b hb) (fun b _ hs => hs)
    have hy9:=HNY.out.kept (w':=wr) HB.out.size (fun b hb hs => HB.out.block b hb) (fun b _ hs => hs)
    obtain ⟨b1,o1,x1,rfl,hs1,hb1,⟨c0,c1,c2,c3⟩,hn1⟩:=hx9.at i hlt
    obtain ⟨b2,o2,y1,rfl,hs2,hb2,⟨d0,d1,d2,d3⟩,hn2⟩:=hy9.at i hlt
    have HC:=Lib.hid (HIH.out _ (HK.out i hlt).1 (HK.out i hlt).2 x1 y1 wr.drew S S' (hn1.kept (w':=wr.drew) (Nat.le_refl _) (fun _ _ _ => rfl) (fun b _ hs => hs)) (hn2.kept (w':=wr.drew) (Nat.le_refl _) (fun _ _ _ => rfl) (fun b _ hs => hs)))
    clear hx9 hy9 hs1 hs2 hb1 hb2 hn1 hn2
    have e1 : ((i : Int) < (ls.length : Int)):=by omega
    have e2 : ((0 : Int) ≤ (i : Int)):=by omega
    go_wp2_with fail
    go_still_tail 10,(by kernel_rfl)
    change wpList _ _ _ _ _ (World.drew wr)
    go_wp2_with fail
    refine HC.out.mono ?_
    rintro e w9 ⟨rfl,hb9'⟩
    have hb9 : Below wr.heap.size wr w9:=(belowN wr.heap.size wr 1).trans hb9'
    clear hb9'
    have hb0 : Below w.heap.size w w9:=HB.out.trans ((hb9.mono (B':=w.heap.size) HB.out.size))
    have hx9:=HBX.out.below hb9 HBX.out.lt
    have hy9:=HBY.out.below hb9 HBY.out.lt
    have hgk:=HGK.out;have hlen:=HLEN.out
    clear u0 u1 u2 u3 v0 v1 v2 v3 c0 c1 c2 c3 d0 d1 d2 d3 HBX HBY HC HNX HNY HB HIH HK
    go_wp2_with fail
    go_roundg (gk - 1)
    case measure => omega
    case rel => exact ⟨i + 1,by go_num,by omega,by omega,hb0,hx9,hy9⟩
   ·go_wp2_with fail
    go_ret
    exact ⟨rfl,HB.out⟩
end Go.Proofs.YtbpldfmmlgkfnaaGreatDoor

namespace Go.Proofs.YtbpldfmmlgkfnaaGreatDoor
open Go
set_option linter.unusedVariables false
theorem few0 {M : Nat} (k : Int) (t : ByteArray) (m : Int) : FewN M (.mk k t m []):=.mk _ _ _ _ (Nat.zero_le _) (fun x h => absurd h List.not_mem_nil)
/-- A list of such, not longer than i. -/
def LL (M i : Nat) (l : List Nd) : Prop:=l.length ≤ i ∧ ∀ x,x ∈ l → FewN M x
theorem LL.nil (M i : Nat) : LL M i []:=⟨Nat.zero_le _,fun x h => absurd h List.not_mem_nil⟩
theorem LL.up {M i j : Nat} {l : List Nd} (h : LL M i l) (hij : i ≤ j) : LL M j l:=⟨Nat.le_trans h.1 hij,h.2⟩
theorem LL.snoc {M i : Nat} {l : List Nd} {k : Nd} (h : LL M i l) (hk : FewN M k) : LL M (i + 1) (l ++ [k]) :=
 ⟨by rw [List.length_append];exact Nat.succ_le_succ h.1,fun x hx => by
  rcases List.mem_append.1 hx with hx | hx
  ·exact h.2 x hx
  ·obtain rfl:=List.mem_singleton.1 hx
   exact hk⟩
theorem LL.cons {M i : Nat} {l : List Nd} {k : Nd} (h : LL M i l) (hk : FewN M k) : LL M (i + 1) (k :: l) :=
 ⟨Nat.succ_le_succ h.1,fun x hx => by
  rcases List.mem_cons.1 hx with rfl | hx
  ·exact hk
  ·exact h.2 x hx⟩
theorem LL.node {M i : Nat} {l : List Nd} (h : LL M i l) (hi : i ≤ M) (k : Int) (t : ByteArray) (m : Int) : FewN M (.mk k t m l):=.mk _ _ _ _ (Nat.le_trans h.1 hi) h.2
theorem few1 {M : Nat} {a : Nd} (hM : 3 ≤ M) (ha : FewN M a) (k : Int) (t : ByteArray) (m : Int) : FewN M (.mk k t m [a]):=((LL.nil M 0).cons ha).node (by omega) _ _ _
theorem few2 {M : Nat} {a b : Nd} (hM : 3 ≤ M) (ha : FewN M a) (hb : FewN M b) (k : Int) (t : ByteArray) (m : Int) : FewN M (.mk k t m [a,b]):=(((LL.nil M 0).cons hb).cons ha).node (by omega) _ _ _
theorem few3 {M : Nat} {a b c : Nd} (hM : 3 ≤ M) (ha : FewN M a) (hb : FewN M b) (hc : FewN M c) (k : Int) (t : ByteArray) (m : Int) : FewN M (.mk k t m [a,b,c]):=((((LL.nil M 0).cons hc).cons hb).cons ha).node (by omega) _ _ _
section
variable {L : List Tok} {e : Nat}
def Fw (L : List Tok) (lo : Nat) (P : Nd → Nat → Prop) (r : Res) : Prop:=∀ n s',r = .ok n s' → lo ≤ s'.i ∧ s'.i ≤ L.length ∧ P n s'.i
theorem fw_bind {lo lo2 : Nat} {P Q : Nd → Nat → Prop} {r : Res} {k : Nd → PS → Res} (h : Fw L lo Q r) (hk : ∀ n s',lo ≤ s'.i → s'.i ≤ L.length → Q n s'.i → Fw L lo2 P (k n s')) : Fw L lo2 P (r.bind k):=by
 cases r with
 | ok n s => exact hk n s (h n s rfl).1 (h n s rfl).2.1 (h n s rfl).2.2
 | no c p => intro n s' h';cases h'
 | out => intro n s' h';cases h'
theorem fw_no {lo : Nat} {P : Nd → Nat → Prop} {c : Int} {p : Nat} : Fw L lo P (.no c p):=fun n s' h => by cases h
theorem fw_out {lo : Nat} {P : Nd → Nat → Prop} : Fw L lo P .out:=fun n s' h => by cases h
theorem fw_ok {lo : Nat} {P : Nd → Nat → Prop} {n : Nd} {s : PS} (h1 : lo ≤ s.i) (h2 : s.i ≤ L.length) (h3 : P n s.i) : Fw L lo P (.ok n s):=fun n' s' e => by cases e;exact ⟨h1,h2,h3⟩
theorem fw_node {lo : Nat} {P : Nd → Nat → Prop} {k : Int} {t : ByteArray} {m : Int} {l : List Nd} {s : PS} (h1 : lo ≤ s.i) (h2 : s.i ≤ L.length) (h3 : P (.mk k t m l) s.i) : Fw L lo P (nodeP k t m l s):=fw_ok h1 h2 h3
theorem fw_ifs {lo : Nat} {P : Nd → Nat → Prop} {x : ByteArray} {s : PS} {a b : Res} (h1 : s.i + 1 ≤ L.length → Fw L lo P a) (h2 : Fw L lo P b) : Fw L lo P (if seesP L x s = true then a else b):=by
 split
 ·exact h1 (sees_lt (by assumption))
 ·exact h2
theorem fw_ifk {lo : Nat} {P : Nd → Nat → Prop} {k : Int} {s : PS} {a b : Res} (h1 : s.i + 1 ≤ L.length → Fw L lo P a) (h2 : Fw L lo P b) : Fw L lo P (if isP L k s = true then a else b):=by
 split
 ·exact h1 (is_lt (by assumption))
 ·exact h2
theorem fw_if {lo : Nat} {P : Nd → Nat → Prop} {c : Prop} [Decidable c] {a b : Res} (h1 : Fw L lo P a) (h2 : Fw L lo P b) : Fw L lo P (if c then a else b):=by
 split
 ·exact h1
 ·exact h2
theorem fw_want {x : ByteArray} {s : PS} : Fw L (s.i + 1) (fun _ _ => True) (wantP L e x s):=by
 unfold wantP
 refine fw_ifs (fun h => ?_) fw_no
 refine fw_if (fw_if fw_no ?_) (fw_if ?_ ?_)
 ·exact fw_ok (Nat.le_refl _) h trivial
 ·exact fw_ok (Nat.le_refl _) h trivial
 ·exact fw_ok (Nat.le_refl _) h trivial
theorem fw_name {s : PS} : Fw L (s.i + 1) (fun _ _ => True) (nameP L e s):=by
 unfold nameP
 exact fw_ifk (fun h => fw_ok (Nat.le_refl _) h trivial) fw_no
theorem fw_bifL {M lo : Nat} {P : Nd → Nat → Prop} {x : ByteArray} {s : PS} {a b : Res} {k : Nd → PS → Res} (h1 : s.i + 1 ≤ L.length → Fw L s.i (fun n i => LL M i n.kids) a) (h2 : Fw L s.i (fun n i => LL M i n.kids) b) (hk : ∀ n s',s.i ≤ s'.i → s'.i ≤ L.length → LL M s'.i n.kids → Fw L lo P (k n s')) : Fw L lo P ((if seesP L x s = true then a else b).bind k):=fw_bind (fw_ifs h1 h2) hk
def preF (M : Nat) : Cmd → Nat → Prop
 | .sumL n,_ => FewN M n
 | .termL n,_ => FewN M n
 | .callL n,_ => FewN M n
 | .argsL l,i => LL M i l
 | .stmtsL l,i => LL M i l
 | .slotsL l,i => LL M i l
 | .parmsL l,i => LL M i l
 | .methsL l,i => LL M i l
 | .clsL l,i => LL M i l
 | _,_ => True
def postF (M : Nat) : Cmd → Nd → Nat → Prop
 | .argsL _,n,i => LL M i n.kids
 | .stmtsL _,n,i => LL M i n.kids
 | .slotsL _,n,i => LL M i n.kids
 | .parmsL _,n,i => LL M i n.kids
 | .methsL _,n,i => LL M i n.kids
 | .clsL _,n,i => LL M i n.kids
 | _,n,_ => FewN M n
end
set_option maxHeartbeats 4000000 in
theorem run_few (L : List Tok) (e : Nat) {M : Nat} (hM : M = L.length + 3) : ∀ (f : Nat) (c : Cmd) (s : PS),s.i ≤ L.length → preF M c s.i → Fw L (s.i + str c) (postF M c) (run L e f c s):=by
 have h3 : 3 ≤ M:=by omega
 intro f
 induction f with
 | zero => intro c s hs hp;exact fw_out
 | succ f ih =>
  intro c s hs hp
  cases c
  all_goals
   simp only [run,str]
   simp only [preF] at hp
   repeat' (first
    | exact fw_no
    | (refine fw_bind fw_want ?_;intro _ _ _ _ _)
    | (refine fw_bind fw_name ?_;intro _ _ _ _ _)
    | (refine fw_bind (ih _ _ (by (try simp only [step_i] at *);omega) (by first | trivial | assumption | exact LL.nil _ _ | exact LL.up (by assumption) (by (try simp only [step_i] at *);omega))) ?_;simp only [str,postF];intro _ _ _ _ _)
    | (refine fw_bind (Q:=fun n _ => FewN M n) (fw_node (Nat.le_refl _) (by (try simp only [step_i] at *);omega) (by first | exact few0 _ _ _ | exact few2 h3 (by assumption) (by assumption) _ _ _ | exact LL.node (LL.cons (by assumption) hp) (by omega) _ _ _)) ?_;intro _ _ _ _ _)
    | (refine fw_bifL (M:=M) (fun _ => ?_) ?_ (fun _ _ _ _ _ => ?_))
    | (refine fw_ifs (fun _ => ?_) ?_)
    | (refine fw_ifk (fun _ => ?_) ?_)
    | (refine fw_if ?_ ?_)
    | exact fw_ok (by (try simp only [step_i] at *);omega) (by (try simp only [step_i] at *);omega) (by first | assumption | exact LL.nil _ _ | exact hp | exact ((LL.nil _ 0).cons (by assumption)).up (by (try simp only [step_i] at *);omega) | exact (LL.snoc hp (by assumption)).up (by (try simp only [step_i] at *);omega))
    | exact fw_node (by (try simp only [step_i] at *);omega) (by (try simp only [step_i] at *);omega) (by first | exact few0 _ _ _ | exact few1 h3 (by assumption) _ _ _ | exact few2 h3 (by assumption) (by assumption) _ _ _ | exact few3 h3 (by assumption) (by assumption) (by assumption) _ _ _ | exact LL.node (by assumption) (by omega) _ _ _ | exact LL.node (LL.snoc (by assumption) (by assumption)) (by omega) _ _ _)
    | exact fun n s' h => (fun ⟨h1,h2,h3⟩ => ⟨by (try simp only [str,step_i] at *);omega,h2,h3⟩) (ih _ _ (by (try simp only [step_i] at *);omega) (by first | trivial | assumption | exact LL.nil _ _ | exact LL.up (by assumption) (by (try simp only [step_i] at *);omega) | exact (LL.snoc hp (by assumption)).up (by (try simp only [step_i] at *);omega)) n s' h))
theorem parse_few (L : List Tok) (e f : Nat) (n : Nd) (s : PS) (h : parseP L e f = .ok n s) : FewN (L.length + 3) n:=by
 have h9 : Fw L 0 (fun n _ => FewN (L.length + 3) n) (parseP L e f):=by
  unfold parseP
  refine fw_bind (Q:=fun n _ => FewN (L.length + 3) n) (lo:=0) (fw_bind (run_few L e rfl f (.clsL []) ⟨0,0,0⟩ (Nat.zero_le _) (LL.nil _ _)) ?_) ?_
  ·intro l s1 h1 h2 hl
   refine fw_bind fw_want ?_
   intro _ s2 h3 h4 _
   refine fw_bind (run_few L e rfl f .block s2 h4 trivial) ?_
   intro b s3 h5 h6 hb
   refine fw_if fw_no (fw_node (Nat.zero_le _) h6 ?_)
   exact LL.node (LL.snoc hl hb) (by omega) _ _ _
  ·intro n s1 h1 h2 hn
   exact fw_if fw_no (fw_ok (Nat.zero_le _) h2 hn)
 exact (h9 n s h).2.2
end Go.Proofs.YtbpldfmmlgkfnaaGreatDoor

namespace Go.Proofs.YtbpldfmmlgkfnaaGreatDoor
open Go.RowKit
set_option linter.unusedVariables false
def resN : Res → Nd | .ok n _ => n | _ => nd0
def resC : Res → Int | .no c _ => c | _ => 0
def resP : Res → Nat | .no _ p => p | _ => 0
theorem parse_one {r : Res} {w w' : World} {e : Ending} (h : ParseEnd r w e w') (hr : r ≠ .out) : Below w.heap.size w w' ∧ ∃ x,e = .returned (.tuple #[nvA x,.agg #[.int .i64 (resC r),.int .i64 (resP r : Nat)]]) ∧ IsN w' (fun b => w.heap.size ≤ b) x (resN r):=by
 obtain ⟨hb,⟨n,s,x,rfl,rfl,hn⟩ | ⟨c,p,rfl,hc,rfl⟩⟩:=h
 ·exact ⟨hb,x,rfl,hn⟩
 ·exact ⟨hb,⟨0,⟨#[]⟩,0,none,0,0⟩,rfl,⟨rfl,rfl,rfl,rfl⟩,.nil _⟩
theorem parse_no_out (s : ByteArray) : parseT s ≠ .out:=by
 unfold parseT
 split
 ·exact parse_out _ _
 ·exact fun h => by cases h
theorem parse_one_few (s : ByteArray) : FewN 4003 (resN (parseT s)):=by
 cases hp : parseT s with
 | ok n s' =>
  unfold parseT at hp
  split at hp
  ·have h:=parse_few _ _ _ _ _ hp
   have h2:=scan_few s
   exact h.more (by omega)
  ·cases hp
 | no c p => exact few0 _ _ _
 | out => exact few0 _ _ _
end Go.Proofs.YtbpldfmmlgkfnaaGreatDoor
