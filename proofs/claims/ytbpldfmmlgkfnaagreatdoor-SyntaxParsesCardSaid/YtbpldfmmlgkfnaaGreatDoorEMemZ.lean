/- Words for memory that all later texts of this seat share. Rows of tokens of one's own; tokens that lie in memory. Rows of nodes of one's own; nodes that lie in memory, with all that is in them. Short words for the steps of a printed walk: a fact behind a call, behind a new block. Conditions: as each theorem says. -/
import Derived.Test.YtbpldfmmlgkfnaaGreatDoorEKit
import Derived.WalkSmall
import Derived.Deep.QuietTactic
import Derived.BigQuiet
import Derived.Maps.OwnOps
import Derived.Laws.DeepStrings4
import Derived.Laws.OwnMore
import Derived.Test.YtbpldfmmlgkfnaaGreatDoorELxSpec4
import Derived.Test.YtbpldfmmlgkfnaaGreatDoorEPaSpec4
import Derived.Maps.AppendAt
import Derived.OwnWalk
namespace Go.Proofs.YtbpldfmmlgkfnaaGreatDoor
open Go.RowKit
set_option linter.unusedVariables false

/-- The cells of a block that has just been made; of the blocks below it. -/
theorem cell_new (w : World) (cs : Array Value) (t : TypeId) (fr : Nat × Nat) (j : Nat) : (w.alloc (.cells cs t fr)).cell? ⟨w.heap.size,j,none⟩ = cs[j]? :=
 cell_of_row _ _ _ cs t fr (heap_alloc_new w _)
theorem cell_old (w : World) (o : Obj) (b j : Nat) (h : b < w.heap.size) : (w.alloc o).cell? ⟨b,j,none⟩ = w.cell? ⟨b,j,none⟩:=World.cell?_alloc_lt w o ⟨b,j,none⟩ h
theorem cell_new2 (w : World) (o : Obj) (cs : Array Value) (t : TypeId) (fr : Nat × Nat) (j : Nat) : ((w.alloc o).alloc (.cells cs t fr)).cell? ⟨w.heap.size + 1,j,none⟩ = cs[j]?:=by
 have h:=cell_new (w.alloc o) cs t fr j
 have e : (w.alloc o).heap.size = w.heap.size + 1:=by simp
 rw [e] at h;exact h

theorem belowN (B : Nat) (w : World) (n : Nat) : Below B w (w.drewN n):=⟨rfl,rfl,rfl,Nat.le_refl _,fun _ _ => rfl⟩

theorem quiet_add {P : Program} {f : FuncId} {args : Array Value} {w : World} {a n : Nat} {v : Value}
  (h : Calls P f args (w.drewN (a + n)) fun e w' => e = .returned v ∧ ∃ m,w' = (w.drewN (a + n)).drewN m) :
  Calls P f args (w.drewN (a + n)) fun e w'' => e = .returned v ∧ ∃ m,w'' = w.drewN (a + m) :=
 h.mono fun _ _ ⟨he,m,hm⟩ => ⟨he,n + m,by rw [hm,World.drewN_drewN,Nat.add_assoc]⟩
theorem quiet_add_left {P : Program} {f : FuncId} {args : Array Value} {w : World} {a n : Nat} {v : Value}
  (h : Calls P f args (w.drewN (a + n)) fun e w' => e = .returned v ∧ w.drewN (a + n) = w') :
  Calls P f args (w.drewN (a + n)) fun e w'' => e = .returned v ∧ ∃ m,w'' = w.drewN (a + m) :=
 h.mono fun _ _ ⟨he,hm⟩ => ⟨he,n,hm.symm⟩
theorem quiet_left {P : Program} {f : FuncId} {args : Array Value} {w : World} {n : Nat} {v : Value}
  (h : Calls P f args (w.drewN n) fun e w' => e = .returned v ∧ w.drewN n = w') : Calls P f args (w.drewN n) fun e w'' => e = .returned v ∧ ∃ m,w'' = w.drewN m :=
 h.mono fun _ _ ⟨he,hm⟩ => ⟨he,n,hm.symm⟩
/-- A contract that only draws, stated without the world before. -/
theorem quiet_draws {P : Program} {f : FuncId} {args : Array Value} {w : World} {n : Nat} {v : Value}
  (h : Calls P f args (w.drewN n) fun e w' => e = .returned v ∧ ∃ m,w' = (w.drewN n).drewN m) :
  Calls P f args (w.drewN n) fun e w'' => e = .returned v ∧ ∃ m,w'' = w.drewN m :=
 h.mono fun _ _ ⟨he,m,hm⟩ => ⟨he,n + m,by rw [hm,World.drewN_drewN]⟩

theorem grownBy_trans {a b c : World} {r : Option Nat} (h : a.grownBy b r) (k : b.grownBy c r) : a.grownBy c r :=
 ⟨k.os.trans h.os,k.tape.trans h.tape,k.output.trans h.output,Nat.le_trans h.size k.size,fun i hi hr => (k.block i (Nat.lt_of_lt_of_le hi h.size) hr).trans (h.block i hi hr)⟩
theorem grownBy_below {w w' : World} {r : Option Nat} (h : Below w.heap.size w w') : w.grownBy w' r:=⟨h.os,h.tape,h.output,h.size,fun k hk _ => h.block k hk⟩
/-- A block that is known whole. -/
def Blk (w : World) (g : Nat) (t : TypeId) (cs : Array Value) : Prop:=w.heap[g]? = some (.cells cs t (0,0))

section
variable {w w' : World} {g : Nat} {t : TypeId} {cs : Array Value}
theorem Blk.lt (h : Blk w g t cs) : g < w.heap.size:=by
 rcases Nat.lt_or_ge g w.heap.size with hlt | hge
 ·exact hlt
 ·unfold Blk at h;rw [Array.getElem?_eq_none hge] at h;cases h
theorem Blk.cell (h : Blk w g t cs) (i : Nat) : w.cell? ⟨g,i,none⟩ = cs[i]?:=cell_of_row w g i cs t (0,0) h
theorem Blk.frozen (h : Blk w g t cs) (i : Nat) : w.frozen? ⟨g,i,none⟩ = false:=by
 unfold Blk at h
 simp [World.frozen?,h]
theorem Blk.new (w : World) (t : TypeId) (cs : Array Value) : Blk (w.alloc (.cells cs t)) w.heap.size t cs:=heap_alloc_new w _
theorem Blk.drew (h : Blk w g t cs) : Blk w.drew g t cs:=h
theorem Blk.drewN (h : Blk w g t cs) (n : Nat) : Blk (w.drewN n) g t cs:=h
theorem Blk.alloc (h : Blk w g t cs) (o : Obj) : Blk (w.alloc o) g t cs:=(Below.heap_alloc w o g h.lt).trans h
theorem Blk.set_ (h : Blk w g t cs) (i : Nat) (u : Value) : Blk (w.setCell ⟨g,i,none⟩ u) g t (cs.setIfInBounds i u):=by
 unfold Blk at h ⊢
 simp [World.setCell,Array.getElem?_modify,h]
theorem Blk.far (h : Blk w g t cs) {p : Addr} (hp : g ≠ p.block) (u : Value) : Blk (w.setCell p u) g t cs:=(Below.heap_setCell w p u g hp).trans h
theorem Blk.below {B : Nat} (h : Blk w g t cs) (hb : Below B w w') (hg : g < B) : Blk w' g t cs:=(hb.block g hg).trans h
theorem Blk.grown {row : Option Nat} (h : Blk w g t cs) (hb : w.grownBy w' row) (hg : some g ≠ row) : Blk w' g t cs:=(hb.block g h.lt hg).trans h
end
theorem grownBy_setCell {a w : World} {r : Option Nat} (h : a.grownBy w r) {p : Addr} (hp : a.heap.size ≤ p.block ∨ r = some p.block) (u : Value) : a.grownBy (w.setCell p u) r :=
 ⟨h.os,h.tape,h.output,by simpa [World.setCell] using h.size,fun k hk hr => (Below.heap_setCell w p u k (fun e => by subst e;rcases hp with hp | hp;exact absurd hk (by omega);exact hr hp.symm)).trans (h.block k hk hr)⟩
theorem grownBy_drewN {a w : World} {r : Option Nat} (h : a.grownBy w r) (n : Nat) : a.grownBy (w.drewN n) r:=⟨h.os,h.tape,h.output,h.size,h.block⟩
theorem grownBy_alloc' {a w : World} {r : Option Nat} (h : a.grownBy w r) (o : Obj) : a.grownBy (w.alloc o) r:=grownBy_trans h (World.grownBy_alloc w o r)

section
variable {w : World} {g : Nat} {t : TypeId} {a b c d : Value}
theorem Blk.f1 (h : Blk w g t #[a]) : w.cell? ⟨g,0,none⟩ = some a ∧ w.frozen? ⟨g,0,none⟩ = false ∧ g < w.heap.size:=⟨h.cell 0,h.frozen 0,h.lt⟩
theorem Blk.f2 (h : Blk w g t #[a,b]) : w.cell? ⟨g,0,none⟩ = some a ∧ w.cell? ⟨g,1,none⟩ = some b ∧ w.frozen? ⟨g,0,none⟩ = false ∧ w.frozen? ⟨g,1,none⟩ = false ∧ g < w.heap.size :=
 ⟨h.cell 0,h.cell 1,h.frozen 0,h.frozen 1,h.lt⟩
theorem Blk.f3 (h : Blk w g t #[a,b,c]) : w.cell? ⟨g,0,none⟩ = some a ∧ w.cell? ⟨g,1,none⟩ = some b ∧ w.cell? ⟨g,2,none⟩ = some c ∧ w.frozen? ⟨g,0,none⟩ = false ∧ w.frozen? ⟨g,1,none⟩ = false ∧ w.frozen? ⟨g,2,none⟩ = false ∧ g < w.heap.size :=
 ⟨h.cell 0,h.cell 1,h.cell 2,h.frozen 0,h.frozen 1,h.frozen 2,h.lt⟩
theorem Blk.f4 (h : Blk w g t #[a,b,c,d]) : w.cell? ⟨g,0,none⟩ = some a ∧ w.cell? ⟨g,1,none⟩ = some b ∧ w.cell? ⟨g,2,none⟩ = some c ∧ w.cell? ⟨g,3,none⟩ = some d ∧ w.frozen? ⟨g,0,none⟩ = false ∧ w.frozen? ⟨g,1,none⟩ = false ∧ w.frozen? ⟨g,2,none⟩ = false ∧ w.frozen? ⟨g,3,none⟩ = false ∧ g < w.heap.size :=
 ⟨h.cell 0,h.cell 1,h.cell 2,h.cell 3,h.frozen 0,h.frozen 1,h.frozen 2,h.frozen 3,h.lt⟩
end

end Go.Proofs.YtbpldfmmlgkfnaaGreatDoor

namespace Go.Proofs.YtbpldfmmlgkfnaaGreatDoor
open Go.RowKit
set_option linter.unusedVariables false

/-- The cells of a token; of tokens. -/
def tokV (t : Tok) : List Value:=[.int .i64 t.kind,.string t.text,.int .i64 (t.at_ : Nat)]
def toksV : List Tok → List Value
 | [] => []
 | t :: l => tokV t ++ toksV l
theorem toksV_len : ∀ l : List Tok,(toksV l).length = l.length * 3
 | [] => rfl
 | t :: l => by
  show (tokV t ++ toksV l).length = _
  rw [List.length_append,toksV_len l,List.length_cons]
  show 3 + l.length * 3 = _;omega
theorem toksV_snoc : ∀ (l : List Tok) (t : Tok),toksV (l ++ [t]) = toksV l ++ tokV t
 | [],t => rfl
 | a :: l,t => by
  show tokV a ++ toksV (l ++ [t]) = tokV a ++ toksV l ++ tokV t
  rw [toksV_snoc l t,List.append_assoc]
theorem toksV_get : ∀ (l : List Tok) (i j : Nat) (hi : i < l.length),j < 3 → (toksV l)[i * 3 + j]? = (tokV l[i])[j]?
 | t :: l,0,j,_,hj => by
  show (tokV t ++ toksV l)[0 * 3 + j]? = _
  rw [List.getElem?_append_left (by show 0 * 3 + j < 3;omega)]
  simp
 | t :: l,i + 1,j,hi,hj => by
  show (tokV t ++ toksV l)[(i + 1) * 3 + j]? = _
  rw [List.getElem?_append_right (by show 3 ≤ _;omega)]
  rw [show (i + 1) * 3 + j - (tokV t).length = i * 3 + j by show (i + 1) * 3 + j - 3 = _;omega]
  exact toksV_get l i j (by simpa using hi) hj
/-- Tokens that lie in memory. -/
def Toks (w : World) (A : Option Addr) (l : List Tok) : Prop:=0 < l.length → ∃ b o,A = some ⟨b,o,none⟩ ∧ b < w.heap.size ∧ ∀ i (hi : i < l.length),w.cell? ⟨b,o + i * 3,none⟩ = some (.int .i64 l[i].kind) ∧ w.cell? ⟨b,o + i * 3 + 1,none⟩ = some (.string l[i].text) ∧ w.cell? ⟨b,o + i * 3 + 2,none⟩ = some (.int .i64 (l[i].at_ : Nat))
theorem Toks.below {w w' : World} {A : Option Addr} {l : List Tok} (h : Toks w A l) (hb : Below w.heap.size w w') : Toks w' A l:=fun hl => by
 obtain ⟨b,o,e,hlt,hc⟩:=h hl
 refine ⟨b,o,e,Nat.lt_of_lt_of_le hlt hb.size,fun i hi => ?_⟩
 obtain ⟨h1,h2,h3⟩:=hc i hi
 exact ⟨(hb.cell (p:=⟨b,o + i * 3,none⟩) hlt).trans h1,(hb.cell (p:=⟨b,o + i * 3 + 1,none⟩) hlt).trans h2,(hb.cell (p:=⟨b,o + i * 3 + 2,none⟩) hlt).trans h3⟩
def OwnT (w : World) (base : Nat) (v : Value) (l : List Tok) : Prop:=w.ownsRow base 87 3 v l.length (toksV l)
theorem OwnT.nil (w : World) (base : Nat) : OwnT w base (.slice none 0 0) []:=World.ownsRow_nil w base 87 3
theorem OwnT.alloc {w : World} {base : Nat} {v : Value} {l : List Tok} (h : OwnT w base v l) (o : Obj) : OwnT (w.alloc o) base v l:=World.ownsRow.alloc h o
theorem OwnT.lt {w : World} {base : Nat} {v : Value} {l : List Tok} (h : OwnT w base v l) : ∀ k,v.ownBlock = some k → base ≤ k ∧ k < w.heap.size:=World.ownsRow.lt h
theorem OwnT.grown {w w' : World} {base : Nat} {v : Value} {l : List Tok} {r : Option Nat} (h : OwnT w base v l) (hg : w.grownBy w' r) (hne : v.ownBlock = none ∨ v.ownBlock ≠ r) : OwnT w' base v l:=World.ownsRow.kept h hg hne
theorem OwnT.toks {w : World} {base : Nat} {v : Value} {l : List Tok} (h : OwnT w base v l) : ∃ C c,v = .slice C l.length c ∧ Toks w C l ∧ (∀ a,C = some a → base ≤ a.block):=by
 rcases h.2 with ⟨rfl,h0⟩ | ⟨g,cap,cur,rfl,hb,hh,hn,_,hc,ht⟩
 ·exact ⟨none,0,by rw [h0],fun hx => by omega,fun a ha => by cases ha⟩
 ·refine ⟨_,cap,rfl,fun hx => ⟨g,0,rfl,(Array.getElem?_eq_some_iff.1 hh).1,fun i hi => ?_⟩,fun a ha => by cases ha;exact hb⟩
  have hk : ∀ j,j < 3 → w.cell? ⟨g,0 + i * 3 + j,none⟩ = (tokV l[i])[j]?:=fun j hj => by
   rw [Nat.zero_add,cell_of_row w g (i * 3 + j) cur 87 (0,0) hh]
   have : (cur.toList.take (l.length * 3))[i * 3 + j]? = (tokV l[i])[j]?:=by rw [ht];exact toksV_get l i j hi hj
   rw [List.getElem?_take,if_pos (by omega)] at this
   simpa using this
  exact ⟨hk 0 (by omega),hk 1 (by omega),hk 2 (by omega)⟩
theorem infoT : (Tryz.prog.info? 87).map (fun i => (i.zero,i.size,i.bytes)) = some (some (.agg #[.int .i64 0,.string ByteArray.empty,.int .i64 0]),3,32):=by kernel_rfl
theorem wpList_pushT {w : World} {ops : Array Oper} {rest : List Oper} {o : Oper} {a : Act} {Q : Exit → Act → World → Prop} (hgd : o.guard = none) (s x : Operand)
  (ho : o.op = .call { callee:=.builtin .append,args:=#[s,x],argTypes:=#[42,42] }) (base : Nat) (v : Value) (l : List Tok) (hs : a.eval s = v) (hown : OwnT w base v l) (t : Tok)
  (ad : Addr) (c : Nat) (hx : a.eval x = .slice (some ad) 1 c) (hc : ∀ j u,(tokV t)[j]? = some u → w.cell? (ad.add j) = some u) (hlen : l.length ≤ 1000000) (hbase : base ≤ w.heap.size)
  (h : ∀ v' w',OwnT w' base v' (l ++ [t]) → w.grownBy w' v.ownBlock → wpList Tryz.prog ops Q rest (a.put o.dst v') w') :
  wpList Tryz.prog ops Q (o :: rest) a w:=by
 obtain ⟨i,hi,hz0,hz1,hz2⟩:=info_parts infoT
 refine wpList_append_own w hgd s x 42 ho base 87 i (.agg #[.int .i64 0,.string ByteArray.empty,.int .i64 0]) 3 32 Tryz.underlying42 hi hz0 hz1 hz2 rfl (by decide) v l.length _ hs hown ad 1 c (tokV t) hx rfl hc ?_ ?_ ?_ hbase ?_
 ·intro u hu
  simp only [tokV,List.mem_cons,List.not_mem_nil,or_false] at hu
  rcases hu with rfl | rfl | rfl <;> rfl
 ·simp only [maxLen];omega
 ·omega
 ·intro v' w' h1 h2 _
  refine h v' w' ?_ h2
  unfold OwnT;rw [toksV_snoc,List.length_append];exact h1
theorem tok_news (w : World) (t : Tok) : ∀ j u,(tokV t)[j]? = some u → (w.alloc (.cells #[.int .i64 t.kind,.string t.text,.int .i64 (t.at_ : Nat)] 87)).cell? ((⟨w.heap.size,0,none⟩ : Addr).add j) = some u:=by
 intro j u hj
 have e : ((⟨w.heap.size,0,none⟩ : Addr).add j) = ⟨w.heap.size,j,none⟩:=by
  unfold Addr.add
  split
  ·rename_i h;subst h;rfl
  ·simp
 rw [e,cell_new,← hj]
 simp [tokV]
end Go.Proofs.YtbpldfmmlgkfnaaGreatDoor

namespace Go.Proofs.YtbpldfmmlgkfnaaGreatDoor
open Go.RowKit
set_option linter.unusedVariables false

/-- A world turned at some blocks alone, and made longer. -/
structure Turned (w w' : World) (S : Nat → Prop) : Prop where
 os : w'.os = w.os
 tape : w'.tape = w.tape
 output : w'.output = w.output
 size : w.heap.size ≤ w'.heap.size
 block : ∀ k,k < w.heap.size → ¬ S k → w'.heap[k]? = w.heap[k]?
theorem Turned.refl (w : World) (S : Nat → Prop) : Turned w w S:=⟨rfl,rfl,rfl,Nat.le_refl _,fun _ _ _ => rfl⟩
theorem Turned.grown {w w' w'' : World} {S : Nat → Prop} {r : Option Nat} (h : Turned w w' S) (hg : w'.grownBy w'' r) (hr : ∀ k,r = some k → S k ∨ w.heap.size ≤ k) : Turned w w'' S :=
 ⟨hg.os.trans h.os,hg.tape.trans h.tape,hg.output.trans h.output,Nat.le_trans h.size hg.size,fun k hk hS => (hg.block k (Nat.lt_of_lt_of_le hk h.size) (fun e => by
  rcases hr k e.symm with h' | h'
  ·exact hS h'
  ·omega)).trans (h.block k hk hS)⟩
theorem Turned.setCell {w w' : World} {S : Nat → Prop} (h : Turned w w' S) {p : Addr} (hp : S p.block ∨ w.heap.size ≤ p.block) (u : Value) : Turned w (w'.setCell p u) S :=
 ⟨h.os,h.tape,h.output,by simpa [World.setCell] using h.size,fun k hk hS => (Below.heap_setCell w' p u k (fun e => by subst e;rcases hp with hp | hp;exact hS hp;omega)).trans (h.block k hk hS)⟩
theorem Turned.drewN {w w' : World} {S : Nat → Prop} (h : Turned w w' S) (n : Nat) : Turned w (w'.drewN n) S:=⟨h.os,h.tape,h.output,h.size,h.block⟩
theorem Turned.alloc {w w' : World} {S : Nat → Prop} (h : Turned w w' S) (o : Obj) : Turned w (w'.alloc o) S:=h.grown (World.grownBy_alloc w' o none) (fun k e => by cases e)
theorem Turned.then {w w' w'' : World} {S : Nat → Prop} (h : Turned w w' S) (h' : Turned w' w'' S) : Turned w w'' S :=
 ⟨h'.os.trans h.os,h'.tape.trans h.tape,h'.output.trans h.output,Nat.le_trans h.size h'.size,fun k hk hS => (h'.block k (Nat.lt_of_lt_of_le hk h.size) hS).trans (h.block k hk hS)⟩
theorem Turned.weak {w w' : World} {S S' : Nat → Prop} (h : Turned w w' S) (hs : ∀ k,S k → S' k) : Turned w w' S':=⟨h.os,h.tape,h.output,h.size,fun k hk hS => h.block k hk (fun e => hS (hs k e))⟩
theorem Turned.below {w w' : World} {S : Nat → Prop} (h : Turned w w' S) {B : Nat} (hB : B ≤ w.heap.size) (hS : ∀ k,k < B → ¬ S k) : Below B w w' :=
 ⟨h.os,h.tape,h.output,h.size,fun k hk => h.block k (Nat.lt_of_lt_of_le hk hB) (hS k hk)⟩
theorem Turned.of_below {w w' : World} (S : Nat → Prop) (h : Below w.heap.size w w') : Turned w w' S:=⟨h.os,h.tape,h.output,h.size,fun k hk _ => h.block k hk⟩
theorem Turned.blk {w w' : World} {S : Nat → Prop} (h : Turned w w' S) {g : Nat} {t : TypeId} {cs : Array Value} (hb : Blk w g t cs) (hS : ¬ S g) : Blk w' g t cs:=(h.block g hb.lt hS).trans hb

/-- A node's cells. -/
structure NV where
 kind : Int
 text : ByteArray
 num : Int
 a : Option Addr
 len : Nat
 cap : Nat
def nvV (x : NV) : List Value:=[.int .i64 x.kind,.string x.text,.int .i64 x.num,.slice x.a x.len x.cap]
abbrev nvA (x : NV) : Value:=.agg #[.int .i64 x.kind,.string x.text,.int .i64 x.num,.slice x.a x.len x.cap]
def nvsV : List NV → List Value
 | [] => []
 | t :: l => nvV t ++ nvsV l
theorem nvsV_len : ∀ l : List NV,(nvsV l).length = l.length * 4
 | [] => rfl
 | t :: l => by
  show (nvV t ++ nvsV l).length = _
  rw [List.length_append,nvsV_len l,List.length_cons]
  show 4 + l.length * 4 = _;omega
theorem nvsV_app : ∀ (l m : List NV),nvsV (l ++ m) = nvsV l ++ nvsV m
 | [],m => rfl
 | a :: l,m => by
  show nvV a ++ nvsV (l ++ m) = nvV a ++ nvsV l ++ nvsV m
  rw [nvsV_app l m,List.append_assoc]
theorem nvsV_snoc (l : List NV) (t : NV) : nvsV (l ++ [t]) = nvsV l ++ nvV t:=by
 rw [nvsV_app];show _ ++ (nvV t ++ []) = _;rw [List.append_nil]
theorem nvsV_get : ∀ (l : List NV) (i j : Nat) (x : NV),l[i]? = some x → j < 4 → (nvsV l)[i * 4 + j]? = (nvV x)[j]?
 | t :: l,0,j,x,h,hj => by
  have h' : t = x:=by simpa using h
  subst h'
  show (nvV t ++ nvsV l)[0 * 4 + j]? = _
  rw [List.getElem?_append_left (by show 0 * 4 + j < 4;omega)]
  simp
 | t :: l,i + 1,j,x,h,hj => by
  show (nvV t ++ nvsV l)[(i + 1) * 4 + j]? = _
  rw [List.getElem?_append_right (by show 4 ≤ _;omega)]
  rw [show (i + 1) * 4 + j - (nvV t).length = i * 4 + j by show (i + 1) * 4 + j - 4 = _;omega]
  exact nvsV_get l i j x (by simpa using h) hj
/-- The cells of a node at a place. -/
def CellN (w : World) (b o : Nat) (x : NV) : Prop:=w.cell? ⟨b,o,none⟩ = some (.int .i64 x.kind) ∧ w.cell? ⟨b,o + 1,none⟩ = some (.string x.text) ∧ w.cell? ⟨b,o + 2,none⟩ = some (.int .i64 x.num) ∧ w.cell? ⟨b,o + 3,none⟩ = some (.slice x.a x.len x.cap)
theorem CellN.same {w w' : World} {b o : Nat} {x : NV} (h : CellN w b o x) (hb : w'.heap[b]? = w.heap[b]?) : CellN w' b o x :=
 ⟨(World.cell?_of_block (a:=⟨b,o,none⟩) hb).trans h.1,(World.cell?_of_block (a:=⟨b,o + 1,none⟩) hb).trans h.2.1,(World.cell?_of_block (a:=⟨b,o + 2,none⟩) hb).trans h.2.2.1,(World.cell?_of_block (a:=⟨b,o + 3,none⟩) hb).trans h.2.2.2⟩
/-- What a node's own cells say. -/
def HeadN (x : NV) (n : Nd) : Prop:=x.kind = n.kind ∧ x.text = n.text ∧ x.num = n.num ∧ x.len = n.kids.length
/-- Nodes that lie in memory, with all that is in them, in blocks of S. -/
inductive Nodes (w : World) (S : Nat → Prop) : Option Addr → List Nd → Prop where
 | nil (A : Option Addr) : Nodes w S A []
 | row (b o : Nat) (l : List Nd) (xs : List NV) : S b → b < w.heap.size → xs.length = l.length → (∀ (i : Nat) (x : NV),xs[i]? = some x → CellN w b (o + i * 4) x) →
   (∀ (i : Nat) (x : NV) (n : Nd),xs[i]? = some x → l[i]? = some n → HeadN x n) → (∀ (i : Nat) (x : NV) (n : Nd),xs[i]? = some x → l[i]? = some n → Nodes w S x.a n.kids) → Nodes w S (some ⟨b,o,none⟩) l
theorem Nodes.kept {w w' : World} {S S' : Nat → Prop} {A : Option Addr} {l : List Nd} (h : Nodes w S A l) (hz : w.heap.size ≤ w'.heap.size) (hb : ∀ b,b < w.heap.size → S b → w'.heap[b]? = w.heap[b]?) (hS : ∀ b,b < w.heap.size → S b → S' b) : Nodes w' S' A l:=by
 induction h with
 | nil A => exact .nil A
 | row b o l xs h1 h2 h3 h4 h5 h6 ih => exact .row b o l xs (hS b h2 h1) (Nat.lt_of_lt_of_le h2 hz) h3 (fun i x hx => (h4 i x hx).same (hb b h2 h1)) h5 (fun i x n hx hn => ih i x n hx hn)
/-- A node, with all that is in it. -/
def IsN (w : World) (S : Nat → Prop) (x : NV) (n : Nd) : Prop:=HeadN x n ∧ Nodes w S x.a n.kids
theorem IsN.kept {w w' : World} {S S' : Nat → Prop} {x : NV} {n : Nd} (h : IsN w S x n) (hz : w.heap.size ≤ w'.heap.size) (hb : ∀ b,b < w.heap.size → S b → w'.heap[b]? = w.heap[b]?) (hS : ∀ b,b < w.heap.size → S b → S' b) : IsN w' S' x n:=⟨h.1,h.2.kept hz hb hS⟩
theorem IsN.turned {w w' : World} {S D : Nat → Prop} {x : NV} {n : Nd} (h : IsN w S x n) (ht : Turned w w' D) (hS : ∀ b,S b → ¬ D b) : IsN w' S x n:=h.kept ht.size (fun b hb hs => ht.block b hb (hS b hs)) (fun b _ hs => hs)
theorem IsN.alloc {w : World} {S : Nat → Prop} {x : NV} {n : Nd} (h : IsN w S x n) (o : Obj) : IsN (w.alloc o) S x n:=h.turned ((Turned.refl w (fun _ => False)).alloc o) (fun _ _ e => e)
theorem IsN.weak {w : World} {S S' : Nat → Prop} {x : NV} {n : Nd} (h : IsN w S x n) (hS : ∀ b,b < w.heap.size → S b → S' b) : IsN w S' x n:=h.kept (Nat.le_refl _) (fun _ _ _ => rfl) hS
/-- Many. -/
def AllN (w : World) (S : Nat → Prop) (xs : List NV) (l : List Nd) : Prop:=xs.length = l.length ∧ ∀ (i : Nat) (x : NV) (n : Nd),xs[i]? = some x → l[i]? = some n → IsN w S x n
theorem AllN.nil (w : World) (S : Nat → Prop) : AllN w S [] []:=⟨rfl,fun i x n h => by simp at h⟩
theorem AllN.kept {w w' : World} {S S' : Nat → Prop} {xs : List NV} {l : List Nd} (h : AllN w S xs l) (hz : w.heap.size ≤ w'.heap.size) (hb : ∀ b,b < w.heap.size → S b → w'.heap[b]? = w.heap[b]?) (hS : ∀ b,b < w.heap.size → S b → S' b) : AllN w' S' xs l:=⟨h.1,fun i x n hx hn => (h.2 i x n hx hn).kept hz hb hS⟩
theorem AllN.turned {w w' : World} {S D : Nat → Prop} {xs : List NV} {l : List Nd} (h : AllN w S xs l) (ht : Turned w w' D) (hS : ∀ b,S b → ¬ D b) : AllN w' S xs l:=h.kept ht.size (fun b hb hs => ht.block b hb (hS b hs)) (fun b _ hs => hs)
theorem AllN.app {w : World} {S : Nat → Prop} {xs ys : List NV} {l m : List Nd} (h : AllN w S xs l) (h' : AllN w S ys m) : AllN w S (xs ++ ys) (l ++ m) :=
 ⟨by rw [List.length_append,List.length_append,h.1,h'.1],fun i x n hx hn => by
  rcases Nat.lt_or_ge i xs.length with hi | hi
  ·rw [List.getElem?_append_left hi] at hx
   rw [List.getElem?_append_left (by rw [← h.1];exact hi)] at hn
   exact h.2 i x n hx hn
  ·rw [List.getElem?_append_right hi] at hx
   rw [List.getElem?_append_right (by rw [← h.1];exact hi),← h.1] at hn
   exact h'.2 _ x n hx hn⟩
theorem AllN.one {w : World} {S : Nat → Prop} {x : NV} {n : Nd} (h : IsN w S x n) : AllN w S [x] [n]:=⟨rfl,fun i y m hy hm => by
 cases i with
 | zero =>
  have e1 : x = y:=by simpa using hy
  have e2 : n = m:=by simpa using hm
  subst e1;subst e2;exact h
 | succ i => simp at hy⟩
theorem AllN.snoc {w : World} {S : Nat → Prop} {xs : List NV} {l : List Nd} {x : NV} {n : Nd} (h : AllN w S xs l) (h' : IsN w S x n) : AllN w S (xs ++ [x]) (l ++ [n]):=h.app (.one h')
theorem AllN.two {w : World} {S : Nat → Prop} {x y : NV} {n m : Nd} (h : IsN w S x n) (h' : IsN w S y m) : AllN w S [x,y] [n,m]:=(AllN.one h).app (.one h')
/-- A row of nodes of one's own. -/
def OwnN (w : World) (base : Nat) (v : Value) (l : List NV) : Prop:=w.ownsRow base 24 4 v l.length (nvsV l)
theorem OwnN.nil (w : World) (base : Nat) : OwnN w base (.slice none 0 0) []:=World.ownsRow_nil w base 24 4
theorem OwnN.alloc {w : World} {base : Nat} {v : Value} {l : List NV} (h : OwnN w base v l) (o : Obj) : OwnN (w.alloc o) base v l:=World.ownsRow.alloc h o
theorem OwnN.lt {w : World} {base : Nat} {v : Value} {l : List NV} (h : OwnN w base v l) : ∀ k,v.ownBlock = some k → base ≤ k ∧ k < w.heap.size:=World.ownsRow.lt h
theorem OwnN.grown {w w' : World} {base : Nat} {v : Value} {l : List NV} {r : Option Nat} (h : OwnN w base v l) (hg : w.grownBy w' r) (hne : v.ownBlock = none ∨ v.ownBlock ≠ r) : OwnN w' base v l:=World.ownsRow.kept h hg hne
theorem OwnN.turned {w w' : World} {D : Nat → Prop} {base : Nat} {v : Value} {l : List NV} (ho : OwnN w base v l) (h : Turned w w' D) (hS : ∀ k,v.ownBlock = some k → ¬ D k) : OwnN w' base v l:=by
 refine ⟨ho.1,?_⟩
 rcases ho.2 with h2 | ⟨g,cap,cur,hv',hg,hh,r⟩
 ·exact Or.inl h2
 ·exact Or.inr ⟨g,cap,cur,hv',hg,(h.block g (Array.getElem?_eq_some_iff.1 hh).1 (hS g (by rw [hv'];rfl))).trans hh,r⟩
/-- A row that has just been laid whole. -/
theorem OwnN.new (w : World) (base : Nat) (l : List NV) (hl : 0 < l.length) (hm : l.length ≤ 1000000) (hb : base ≤ w.heap.size) (cs : Array Value) (hcs : cs.toList = nvsV l) : OwnN (w.alloc (.cells cs 24)) base (.slice (some ⟨w.heap.size,0,none⟩) l.length l.length) l:=by
 refine ⟨?_,.inr ⟨w.heap.size,l.length,cs,rfl,hb,heap_alloc_new w _,Nat.le_refl _,by simp only [maxLen];omega,?_,?_⟩⟩
 ·rw [nvsV_len]
 ·have:=congrArg List.length hcs
  rw [nvsV_len] at this
  simpa using this
 ·rw [hcs]
  exact List.take_of_length_le (by rw [nvsV_len];exact Nat.le_refl _)
theorem OwnN.form {w : World} {base : Nat} {v : Value} {l : List NV} (h : OwnN w base v l) : ∃ A c,v = .slice A l.length c ∧ l.length ≤ c ∧ (0 < l.length → ∃ g,A = some ⟨g,0,none⟩ ∧ v.ownBlock = some g ∧ base ≤ g ∧ g < w.heap.size ∧ ∀ i x,l[i]? = some x → CellN w g (0 + i * 4) x):=by
 rcases h.2 with ⟨rfl,h0⟩ | ⟨g,cap,cur,rfl,hb,hh,hn,_,hc,ht⟩
 ·exact ⟨none,0,by rw [h0],by omega,fun hx => by omega⟩
 ·refine ⟨_,cap,rfl,hn,fun hx => ⟨g,rfl,rfl,hb,(Array.getElem?_eq_some_iff.1 hh).1,fun i x hi => ?_⟩⟩
  have hil : i < l.length:=(List.getElem?_eq_some_iff.1 hi).1
  have hk : ∀ j,j < 4 → w.cell? ⟨g,0 + i * 4 + j,none⟩ = (nvV x)[j]?:=fun j hj => by
   rw [Nat.zero_add,cell_of_row w g (i * 4 + j) cur 24 (0,0) hh]
   have : (cur.toList.take (l.length * 4))[i * 4 + j]? = (nvV x)[j]?:=by rw [ht];exact nvsV_get l i j x hi hj
   rw [List.getElem?_take,if_pos (by omega)] at this
   simpa using this
  exact ⟨hk 0 (by omega),hk 1 (by omega),hk 2 (by omega),hk 3 (by omega)⟩
/-- What a row of one's own holds lies in memory. -/
theorem OwnN.nodes {w : World} {base : Nat} {v : Value} {xs : List NV} {l : List Nd} {S S' : Nat → Prop} (h : OwnN w base v xs) (ha : AllN w S xs l) (hS : ∀ b,S b → S' b) (hv : ∀ k,v.ownBlock = some k → S' k) : ∃ A c,v = .slice A l.length c ∧ l.length ≤ c ∧ Nodes w S' A l:=by
 obtain ⟨A,c,e,hc,hf⟩:=h.form
 refine ⟨A,c,by rw [e,ha.1],by rw [← ha.1];exact hc,?_⟩
 cases l with
 | nil => exact .nil A
 | cons n l =>
  obtain ⟨g,rfl,ho,-,hlt,hcell⟩:=hf (by rw [ha.1];simp)
  exact .row g 0 _ xs (hv g ho) hlt ha.1 hcell (fun i x m hx hm => (ha.2 i x m hx hm).1) (fun i x m hx hm => (ha.2 i x m hx hm).2.kept (Nat.le_refl _) (fun _ _ _ => rfl) (fun b _ hb => hS b hb))
theorem infoN : (Tryz.prog.info? 24).map (fun i => (i.zero,i.size,i.bytes)) = some (some (.agg #[.int .i64 0,.string ByteArray.empty,.int .i64 0,.slice none 0 0]),4,56):=by kernel_rfl
theorem one_nvsV : ∀ (m : List NV) (u : Value),u ∈ nvsV m → (∃ k n,u = .int k n) ∨ (∃ t,u = .string t) ∨ (∃ a n c,u = .slice a n c):=by
 intro m
 induction m with
 | nil => intro u hu;cases hu
 | cons t m ih =>
  intro u hu
  rcases List.mem_append.1 (show u ∈ nvV t ++ nvsV m from hu) with h | h
  ·simp only [nvV,List.mem_cons,List.not_mem_nil,or_false] at h
   rcases h with rfl | rfl | rfl | rfl
   ·exact .inl ⟨_,_,rfl⟩
   ·exact .inr (.inl ⟨_,rfl⟩)
   ·exact .inl ⟨_,_,rfl⟩
   ·exact .inr (.inr ⟨_,_,_,rfl⟩)
  ·exact ih u h
/-- A slice whose cells are these. -/
def LieN (w : World) (A : Option Addr) (m : List NV) : Prop:=0 < m.length → ∃ ad,A = some ad ∧ ∀ j u,(nvsV m)[j]? = some u → w.cell? (ad.add j) = some u
theorem run_joinNd {w : World} {base : Nat} {v : Value} {xs : List NV} (hown : OwnN w base v xs) {A : Option Addr} {m : List NV} (c : Nat) (hy : LieN w A m) (h1 : xs.length ≤ 1000000) (h2 : m.length ≤ 1000000) (hbase : base ≤ w.heap.size) (ty : TypeId) :
  ∃ A' n c' w',(Builtin.append_ #[22,22] ty #[v,.slice A m.length c]).run Tryz.prog w = .ok (.slice A' n c') w' ∧ OwnN w' base (.slice A' n c') (xs ++ m) ∧ w.grownBy w' v.ownBlock ∧
   (∀ k,(Value.slice A' n c').ownBlock = some k → v.ownBlock = some k ∨ k = w.heap.size):=by
 obtain ⟨i,hi,hz0,hz1,hz2⟩:=info_parts infoN
 obtain ⟨A0,c0,hv0,hn0,hf0⟩:=hown.form
 rcases Nat.eq_zero_or_pos m.length with hm | hm
 ·have hm:=List.eq_nil_of_length_eq_zero hm
  subst hm
  refine ⟨A0,xs.length,c0,w,?_,by rw [List.append_nil,← hv0];exact hown,World.grownBy.refl w _,fun k hk => .inl (by rw [hv0];exact hk)⟩
  subst hv0
  rcases Nat.eq_zero_or_pos xs.length with hx | hx
  ·rcases hown.2 with ⟨h1,h2⟩ | ⟨g,cap,cur,h1,_,_,hnc,_⟩
   ·simp at h1
    obtain ⟨rfl,hx,rfl⟩:=h1
    cases A <;> simp [Builtin.append_,run_underlying Tryz.underlying22,sizeOf,typeInfo,hi,Builtin.lenOf,Builtin.firstCells,loadCells,loadCellsFrom,hx]
   ·simp at h1
    obtain ⟨rfl,rfl⟩:=h1
    cases A <;> simp [Builtin.append_,run_underlying Tryz.underlying22,sizeOf,typeInfo,hi,Builtin.lenOf,Builtin.firstCells,loadCells,loadCellsFrom,hnc,storeCells]
  ·obtain ⟨g,rfl,-⟩:=hf0 hx
   cases A <;> simp [Builtin.append_,run_underlying Tryz.underlying22,sizeOf,typeInfo,hi,Builtin.lenOf,Builtin.firstCells,loadCells,loadCellsFrom,hn0,storeCells]
 ·obtain ⟨ad,rfl,hc⟩:=hy hm
  obtain ⟨v',w',hrun,g2,g3,_,g5⟩:=run_append_own_at (P:=Tryz.prog) w base 22 ty 24 i (.agg #[.int .i64 0,.string ByteArray.empty,.int .i64 0,.slice none 0 0]) 4 56 Tryz.underlying22 hi hz0 hz1 hz2 rfl (by decide) v xs.length _ hown ad m.length c (nvsV m) (by rw [nvsV_len]) hc
   (fun u hu => by rcases one_nvsV m u hu with ⟨_,_,e⟩ | ⟨_,e⟩ | ⟨_,_,_,e⟩ <;> rw [e] <;> rfl) (by simp only [maxLen];omega) (by omega) hbase
  have h6 : OwnN w' base v' (xs ++ m):=by unfold OwnN;rw [List.length_append,nvsV_app];exact g2
  obtain ⟨A',c',rfl,-⟩:=h6.form
  refine ⟨A',_,c',w',hrun,h6,g3,fun k hk => ?_⟩
  rcases g5 with g5 | g5
  ·exact .inl (g5 ▸ hk)
  ·rw [g5] at hk;cases hk;exact .inr rfl
theorem wpList_joinNd {w : World} {ops : Array Oper} {rest : List Oper} {o : Oper} {a : Act} {Q : Exit → Act → World → Prop} (hgd : o.guard = none) (s x : Operand)
  (ho : o.op = .call { callee:=.builtin .append,args:=#[s,x],argTypes:=#[22,22] }) (base : Nat) (v : Value) (xs : List NV) (hs : a.eval s = v) (hown : OwnN w base v xs) (A : Option Addr) (m : List NV) (c : Nat)
  (hx : a.eval x = .slice A m.length c) (hy : LieN w A m) (h1 : xs.length ≤ 1000000) (h2 : m.length ≤ 1000000) (hbase : base ≤ w.heap.size)
  (h : ∀ A' n c' w',OwnN w' base (.slice A' n c') (xs ++ m) → w.grownBy w' v.ownBlock → (∀ k,(Value.slice A' n c').ownBlock = some k → v.ownBlock = some k ∨ k = w.heap.size) → wpList Tryz.prog ops Q rest (a.put o.dst (.slice A' n c')) w') :
  wpList Tryz.prog ops Q (o :: rest) a w:=by
 refine wpList_plain hgd fun K hK => ?_
 obtain ⟨A',n,c',w',hrun,g2,g3,g4⟩:=run_joinNd hown c hy h1 h2 hbase o.type
 unfold Oper.wp execOp
 simp only [ho,resolve,invoke,builtin,Sem.run_bind,Sem.run_pure,Result.andThen_ok,List.map_toArray,List.map_cons,List.map_nil,hs,hx,hrun]
 exact hK _ _ (h A' n c' w' g2 g3 g4)
theorem lie_new (w : World) (m : List NV) (cs : Array Value) (t : TypeId) (hcs : cs.toList = nvsV m) : LieN (w.alloc (.cells cs t)) (some ⟨w.heap.size,0,none⟩) m:=fun _ => ⟨_,rfl,fun j u hj => by
 have e : ((⟨w.heap.size,0,none⟩ : Addr).add j) = ⟨w.heap.size,j,none⟩:=by
  unfold Addr.add
  cases j with
  | zero => rfl
  | succ j => simp
 rw [e,cell_new]
 rw [← hcs] at hj
 simpa using hj⟩
end Go.Proofs.YtbpldfmmlgkfnaaGreatDoor

namespace Go.Proofs.YtbpldfmmlgkfnaaGreatDoor
open Go.RowKit
set_option linter.unusedVariables false
theorem zT {a : Nat} {w w' : World} {D : Nat → Prop} (h : Hid (a < w.heap.size)) (t : Turned w w' D) : Hid (a < w'.heap.size):=Lib.hid (Nat.lt_of_lt_of_le h.out t.size)
theorem bT {w w' : World} {D : Nat → Prop} {g : Nat} {t : TypeId} {cs : Array Value} (h : Hid (Blk w g t cs)) (ht : Turned w w' D) (hd : Hid (¬ D g)) : Hid (Blk w' g t cs):=Lib.hid (ht.blk h.out hd.out)
theorem tT {w w' w'' : World} {D : Nat → Prop} (h : Hid (Turned w w' D)) (t : Turned w' w'' D) : Hid (Turned w w'' D):=Lib.hid (h.out.then t)
theorem zA {a : Nat} {w : World} (h : Hid (a < w.heap.size)) (o : Obj) : Hid (a < (w.alloc o).heap.size):=by
 show _ < _
 rw [World.size_alloc]
 exact Nat.lt_succ_of_lt h.out
theorem zN (w : World) (o : Obj) : Hid (w.heap.size < (w.alloc o).heap.size):=by
 show _ < _
 rw [World.size_alloc]
 exact Nat.lt_succ_self _
theorem bA {w : World} {g : Nat} {t : TypeId} {cs : Array Value} (h : Hid (Blk w g t cs)) (o : Obj) : Hid (Blk (w.alloc o) g t cs):=Lib.hid (h.out.alloc o)
theorem tA {w w' : World} {D : Nat → Prop} (h : Hid (Turned w w' D)) (o : Obj) : Hid (Turned w (w'.alloc o) D):=Lib.hid (h.out.alloc o)
theorem oA {w : World} {b : Nat} {v : Value} {xs : List NV} (h : Hid (OwnN w b v xs)) (o : Obj) : Hid (OwnN (w.alloc o) b v xs):=Lib.hid (h.out.alloc o)
theorem nA {w : World} {S : Nat → Prop} {x : NV} {n : Nd} (h : Hid (IsN w S x n)) (o : Obj) : Hid (IsN (w.alloc o) S x n):=Lib.hid (h.out.alloc o)
theorem nT {w w' : World} {S D : Nat → Prop} {x : NV} {n : Nd} (h : Hid (IsN w S x n)) (ht : Turned w w' D) (hs : Hid (∀ b,S b → ¬ D b)) : Hid (IsN w' S x n):=Lib.hid (h.out.turned ht hs.out)
theorem bl (w : World) (o : Obj) : Below w.heap.size w (w.alloc o):=(Below.refl _ _).alloc (Nat.le_refl _) o
theorem nB (w : World) (x : NV) : Hid (Blk (w.alloc (.cells #[.int .i64 x.kind,.string x.text,.int .i64 x.num,.slice x.a x.len x.cap] 24)) w.heap.size 24 #[.int .i64 x.kind,.string x.text,.int .i64 x.num,.slice x.a x.len x.cap]):=Lib.hid (Blk.new w _ _)
theorem zB (w : World) : Hid (Blk (w.alloc (.cells #[.int .i64 0,.string ⟨#[]⟩,.int .i64 0,.slice none 0 0] 24)) w.heap.size 24 #[.int .i64 0,.string ⟨#[]⟩,.int .i64 0,.slice none 0 0]):=Lib.hid (Blk.new w _ _)
theorem nE {q a b : Nat} (h1 : Hid (q < a)) (h2 : Hid (a < b)) : Hid (¬ b = q):=by
 have h3:=h1.out
 have h4:=h2.out
 show ¬ _
 omega
theorem oN (x : NV) : ∃ o : Obj,o = (.cells #[.int .i64 x.kind,.string x.text,.int .i64 x.num,.slice x.a x.len x.cap] 24):=⟨_,rfl⟩
theorem oNN (x y : NV) : ∃ o : Obj,o = (.cells #[.int .i64 x.kind,.string x.text,.int .i64 x.num,.slice x.a x.len x.cap,.int .i64 y.kind,.string y.text,.int .i64 y.num,.slice y.a y.len y.cap] 24):=⟨_,rfl⟩
theorem oZ : ∃ o : Obj,o = (.cells #[.int .i64 0,.string ⟨#[]⟩,.int .i64 0,.slice none 0 0] 24):=⟨_,rfl⟩
theorem lN1 (w : World) (x : NV) : Hid (LieN (w.alloc (.cells #[.int .i64 x.kind,.string x.text,.int .i64 x.num,.slice x.a x.len x.cap] 24)) (some ⟨w.heap.size,0,none⟩) [x]):=Lib.hid (lie_new w [x] #[.int .i64 x.kind,.string x.text,.int .i64 x.num,.slice x.a x.len x.cap] 24 rfl)
theorem lN2 (w : World) (x : NV) : Hid (LieN ((w.alloc (.cells #[.int .i64 x.kind,.string x.text,.int .i64 x.num,.slice x.a x.len x.cap] 24)).alloc (.cells #[.int .i64 x.kind,.string x.text,.int .i64 x.num,.slice x.a x.len x.cap] 24)) (some ⟨w.heap.size + 1,0,none⟩) [x]):=by
 have h:=lie_new (w.alloc (.cells #[.int .i64 x.kind,.string x.text,.int .i64 x.num,.slice x.a x.len x.cap] 24)) [x] #[.int .i64 x.kind,.string x.text,.int .i64 x.num,.slice x.a x.len x.cap] 24 rfl
 rw [World.size_alloc] at h
 exact h
end Go.Proofs.YtbpldfmmlgkfnaaGreatDoor
