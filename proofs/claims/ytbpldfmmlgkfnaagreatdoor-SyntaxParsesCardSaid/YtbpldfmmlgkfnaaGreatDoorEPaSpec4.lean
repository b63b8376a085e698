/- The plain parser of tokens: one function, its fuel a number; where fuel suffices it is never out. No program in sight. Plain laws of the parser: where fuel suffices it is never out; its place never falls back, nor runs past the end. No program in sight. Plain laws of the parser: its place never falls back, whatever the fuel. No program in sight. Plain laws of the parser: no more nodes than tokens. No program in sight. Plain laws of the parser: what is parsed depends on the tokens' kinds and texts alone. No program in sight. Plain laws of the parser: what is parsed is formed as nodes are. No program in sight. Conditions: as each theorem says. -/
import Derived.Test.YtbpldfmmlgkfnaaGreatDoorELxSpec4
namespace Go.Proofs.YtbpldfmmlgkfnaaGreatDoor
open Go
set_option linter.unusedVariables false

/-- A node. -/
inductive Nd where
 | mk (kind : Int) (text : ByteArray) (num : Int) (kids : List Nd)
def Nd.kind : Nd → Int | .mk k _ _ _ => k
def Nd.text : Nd → ByteArray | .mk _ t _ _ => t
def Nd.num : Nd → Int | .mk _ _ n _ => n
def Nd.kids : Nd → List Nd | .mk _ _ _ l => l
def tx (s : String) : ByteArray:=s.toUTF8
/-- Where a parser stands: its place, its depth, how many nodes. -/
structure PS where
 i : Nat
 dep : Int
 many : Nat
/-- What comes of it. -/
inductive Res where
 | ok (n : Nd) (s : PS)
 | no (c : Int) (p : Nat)
 | out
def Res.bind : Res → (Nd → PS → Res) → Res
 | .ok n s,f => f n s
 | .no c p,_ => .no c p
 | .out,_ => .out
def nd0 : Nd:=.mk 0 ByteArray.empty 0 []
/-- A list, carried as a node. -/
def ndL (l : List Nd) : Nd:=.mk 0 ByteArray.empty 0 l
/-- A text, carried as a node. -/
def ndT (t : ByteArray) : Nd:=.mk 0 t 0 []

section
variable (L : List Tok) (e : Nat)
def posP (s : PS) : Nat:=match L[s.i]? with | some t => t.at_ | none => e
def failP (c : Int) (s : PS) : Res:=.no c (posP L e s)
def sameT (x y : ByteArray) : Bool:=x.toList == y.toList
/-- Is a word or sign next? -/
def seesP (x : ByteArray) (s : PS) : Bool:=match L[s.i]? with | some t => sameT t.text x && (t.kind == 3 || t.kind == 4) | none => false
def isP (k : Int) (s : PS) : Bool:=match L[s.i]? with | some t => t.kind == k | none => false
def textP (s : PS) : ByteArray:=match L[s.i]? with | some t => t.text | none => ByteArray.empty
def stepP (s : PS) : PS:=⟨s.i + 1,s.dep,s.many⟩
def wantP (x : ByteArray) (s : PS) : Res :=
 if seesP L x s = true then
  if x = tx "(" ∨ x = tx "\x7b" then (if 20 < s.dep + 1 then failP L e 13 s else .ok nd0 ⟨s.i + 1,s.dep + 1,s.many⟩)
  else if x = tx ")" ∨ x = tx "\x7d" then .ok nd0 ⟨s.i + 1,s.dep - 1,s.many⟩
  else .ok nd0 (stepP s)
 else failP L e 12 s
def nameP (s : PS) : Res:=if isP L 1 s = true then .ok (ndT (textP L s)) (stepP s) else failP L e 12 s
def nodeP (k : Int) (t : ByteArray) (num : Int) (kids : List Nd) (s : PS) : Res:=.ok (.mk k t num kids) ⟨s.i,s.dep,s.many + 1⟩

inductive Cmd where
 | expr | sum | sumL (n : Nd) | term | termL (n : Nd) | unary | call | callL (n : Nd) | primary | argsL (l : List Nd)
 | block | stmtsL (l : List Nd) | stmt | slotsL (l : List Nd) | parmsL (l : List Nd) | meth | methsL (l : List Nd) | cls | clsL (l : List Nd)

/-- An expression in parentheses, a sign behind; what is done with it. -/
def run : Nat → Cmd → PS → Res
 | 0,_,_ => .out
 | f + 1,.expr,s => (run f .sum s).bind fun n s =>
   if seesP L (tx "<") s = true then (run f .sum (stepP s)).bind fun k s => nodeP 18 (tx "") 0 [n,k] s
   else if seesP L (tx "==") s = true then (run f .sum (stepP s)).bind fun k s => nodeP 19 (tx "") 0 [n,k] s
   else .ok n s
 | f + 1,.sum,s => (run f .term s).bind fun n s => run f (.sumL n) s
 | f + 1,.sumL n,s =>
   if seesP L (tx "+") s = true then (run f .term (stepP s)).bind fun k s => (nodeP 20 (tx "") 0 [n,k] s).bind fun n s => run f (.sumL n) s
   else if seesP L (tx "-") s = true then (run f .term (stepP s)).bind fun k s => (nodeP 21 (tx "") 0 [n,k] s).bind fun n s => run f (.sumL n) s
   else .ok n s
 | f + 1,.term,s => (run f .unary s).bind fun n s => run f (.termL n) s
 | f + 1,.termL n,s =>
   if seesP L (tx "*") s = true then (run f .unary (stepP s)).bind fun k s => (nodeP 22 (tx "") 0 [n,k] s).bind fun n s => run f (.termL n) s
   else .ok n s
 | f + 1,.unary,s =>
   if seesP L (tx "-") s = true then (run f .unary (stepP s)).bind fun k s => nodeP 23 (tx "") 0 [k] s
   else if seesP L (tx "!") s = true then (run f .unary (stepP s)).bind fun k s => nodeP 24 (tx "") 0 [k] s
   else run f .call s
 | f + 1,.call,s => (run f .primary s).bind fun n s => run f (.callL n) s
 | f + 1,.callL n,s =>
   if seesP L (tx ".") s = true then
    (nameP L e (stepP s)).bind fun t s => (wantP L e (tx "(") s).bind fun _ s =>
     (if seesP L (tx ")") s = true then .ok (ndL []) s else run f (.argsL []) s).bind fun a s =>
      (wantP L e (tx ")") s).bind fun _ s => (nodeP 25 t.text 0 (n :: a.kids) s).bind fun n s => run f (.callL n) s
   else .ok n s
 | f + 1,.argsL l,s => (run f .expr s).bind fun k s =>
   if seesP L (tx ",") s = true then run f (.argsL (l ++ [k])) (stepP s) else .ok (ndL (l ++ [k])) s
 | f + 1,.primary,s =>
   if isP L 2 s = true then nodeP 26 (tx "") (numF 0 (textP L s).data.toList : Nat) [] (stepP s)
   else if isP L 1 s = true then nodeP 31 (textP L s) 0 [] (stepP s)
   else if seesP L (tx "nil") s = true then nodeP 27 (tx "") 0 [] (stepP s)
   else if seesP L (tx "self") s = true then nodeP 28 (tx "") 0 [] (stepP s)
   else if seesP L (tx "gate") s = true then nodeP 29 (tx "") 0 [] (stepP s)
   else if seesP L (tx "new") s = true then (nameP L e (stepP s)).bind fun t s => nodeP 30 t.text 0 [] s
   else (wantP L e (tx "(") s).bind fun _ s => (run f .expr s).bind fun n s => (wantP L e (tx ")") s).bind fun _ s => .ok n s
 | f + 1,.block,s => (wantP L e (tx "\x7b") s).bind fun _ s => (run f (.stmtsL []) s).bind fun a s => (wantP L e (tx "\x7d") s).bind fun _ s => nodeP 6 (tx "") 0 a.kids s
 | f + 1,.stmtsL l,s => if seesP L (tx "\x7d") s = true then .ok (ndL l) s else (run f .stmt s).bind fun k s => run f (.stmtsL (l ++ [k])) s
 | f + 1,.stmt,s =>
   if seesP L (tx "var") s = true then (nameP L e (stepP s)).bind fun t s => (wantP L e (tx "=") s).bind fun _ s => (run f .expr s).bind fun k s => (wantP L e (tx ";") s).bind fun _ s => nodeP 7 t.text 0 [k] s
   else if seesP L (tx "if") s = true then
    (wantP L e (tx "(") (stepP s)).bind fun _ s => (run f .expr s).bind fun k s => (wantP L e (tx ")") s).bind fun _ s => (run f .block s).bind fun b s =>
     if seesP L (tx "else") s = true then (run f .block (stepP s)).bind fun c s => nodeP 9 (tx "") 0 [k,b,c] s else nodeP 9 (tx "") 0 [k,b] s
   else if seesP L (tx "while") s = true then
    (wantP L e (tx "(") (stepP s)).bind fun _ s => (run f .expr s).bind fun k s => (wantP L e (tx ")") s).bind fun _ s => (run f .block s).bind fun b s => nodeP 10 (tx "") 0 [k,b] s
   else if seesP L (tx "return") s = true then (run f .expr (stepP s)).bind fun k s => (wantP L e (tx ";") s).bind fun _ s => nodeP 11 (tx "") 0 [k] s
   else if seesP L (tx "print") s = true then
    (wantP L e (tx "(") (stepP s)).bind fun _ s => (run f .expr s).bind fun k s => (wantP L e (tx ")") s).bind fun _ s => (wantP L e (tx ";") s).bind fun _ s => nodeP 12 (tx "") 0 [k] s
   else if seesP L (tx "fork") s = true then (run f .block (stepP s)).bind fun b s => nodeP 13 (tx "") 0 [b] s
   else if seesP L (tx "wait") s = true then
    (wantP L e (tx "(") (stepP s)).bind fun _ s => (run f .expr s).bind fun k s => (wantP L e (tx ")") s).bind fun _ s => (wantP L e (tx ";") s).bind fun _ s => nodeP 14 (tx "") 0 [k] s
   else if seesP L (tx "signal") s = true then
    (wantP L e (tx "(") (stepP s)).bind fun _ s => (run f .expr s).bind fun k s => (wantP L e (tx ")") s).bind fun _ s => (wantP L e (tx ";") s).bind fun _ s => nodeP 15 (tx "") 0 [k] s
   else if seesP L (tx "swap") s = true then
    (wantP L e (tx "(") (stepP s)).bind fun _ s => (run f .expr s).bind fun k s => (wantP L e (tx ",") s).bind fun _ s => (run f .expr s).bind fun m s => (wantP L e (tx ")") s).bind fun _ s =>
     (wantP L e (tx ";") s).bind fun _ s => nodeP 16 (tx "") 0 [k,m] s
   else if isP L 1 s = true ∧ sameT (textP L (stepP s)) (tx "=") = true then
    (nameP L e s).bind fun t s => (wantP L e (tx "=") s).bind fun _ s => (run f .expr s).bind fun k s => (wantP L e (tx ";") s).bind fun _ s => nodeP 8 t.text 0 [k] s
   else (run f .expr s).bind fun k s => (wantP L e (tx ";") s).bind fun _ s => nodeP 17 (tx "") 0 [k] s
 | f + 1,.slotsL l,s =>
   if seesP L (tx "slot") s = true then (nameP L e (stepP s)).bind fun t s => (wantP L e (tx ";") s).bind fun _ s => (nodeP 3 t.text 0 [] s).bind fun k s => run f (.slotsL (l ++ [k])) s
   else .ok (ndL l) s
 | f + 1,.parmsL l,s => (nameP L e s).bind fun t s => (nodeP 5 t.text 0 [] s).bind fun k s =>
   if seesP L (tx ",") s = true then run f (.parmsL (l ++ [k])) (stepP s) else .ok (ndL (l ++ [k])) s
 | f + 1,.meth,s => (nameP L e s).bind fun t s => (wantP L e (tx "(") s).bind fun _ s =>
   (if seesP L (tx ")") s = true then .ok (ndL []) s else run f (.parmsL []) s).bind fun a s =>
    (wantP L e (tx ")") s).bind fun _ s => (run f .block s).bind fun b s => nodeP 4 t.text a.kids.length (a.kids ++ [b]) s
 | f + 1,.methsL l,s => if seesP L (tx "to") s = true then (run f .meth (stepP s)).bind fun k s => run f (.methsL (l ++ [k])) s else .ok (ndL l) s
 | f + 1,.cls,s => (nameP L e s).bind fun t s =>
   (if seesP L (tx ":") s = true then (nameP L e (stepP s)).bind fun u s => (nodeP 31 u.text 0 [] s).bind fun k s => .ok (ndL [k]) s else .ok (ndL []) s).bind fun o s =>
    (wantP L e (tx "\x7b") s).bind fun _ s => (run f (.slotsL o.kids) s).bind fun a s => (run f (.methsL a.kids) s).bind fun b s => (wantP L e (tx "\x7d") s).bind fun _ s => nodeP 2 t.text 0 b.kids s
 | f + 1,.clsL l,s => if seesP L (tx "class") s = true then (run f .cls (stepP s)).bind fun k s => run f (.clsL (l ++ [k])) s else .ok (ndL l) s
/-- The whole. -/
def parseP (f : Nat) : Res :=
 ((run L e f (.clsL []) ⟨0,0,0⟩).bind fun l s => (wantP L e (tx "main") s).bind fun _ s => (run L e f .block s).bind fun b s =>
  if s.i < L.length then failP L e 12 s else nodeP 1 (tx "") 0 (l.kids ++ [b]) s).bind fun n s => if 600 < s.many then .no 1 0 else .ok n s
end
end Go.Proofs.YtbpldfmmlgkfnaaGreatDoor

namespace Go.Proofs.YtbpldfmmlgkfnaaGreatDoor
open Go
set_option linter.unusedVariables false

section
variable {L : List Tok} {e : Nat}
/-- Not out; where it ends well, its place lies from lo on and not past the end. -/
def Fine (L : List Tok) (lo : Nat) (r : Res) : Prop:=r ≠ .out ∧ ∀ n s',r = .ok n s' → lo ≤ s'.i ∧ s'.i ≤ L.length
theorem fine_bind {lo lo2 : Nat} {r : Res} {k : Nd → PS → Res} (h : Fine L lo r) (hk : ∀ n s',lo ≤ s'.i → s'.i ≤ L.length → Fine L lo2 (k n s')) : Fine L lo2 (r.bind k):=by
 cases r with
 | ok n s' => obtain ⟨h1,h2⟩:=h.2 n s' rfl;exact hk n s' h1 h2
 | no c p => exact ⟨(fun h => by cases h),(fun n s' h => by cases h)⟩
 | out => exact absurd rfl h.1
theorem fine_no {lo : Nat} {c : Int} {p : Nat} : Fine L lo (.no c p):=⟨(fun h => by cases h),(fun n s' h => by cases h)⟩
theorem fine_ok {lo : Nat} {n : Nd} {s : PS} (h1 : lo ≤ s.i) (h2 : s.i ≤ L.length) : Fine L lo (.ok n s):=⟨(fun h => by cases h),(fun n s' h => by cases h;exact ⟨h1,h2⟩)⟩
theorem sees_lt {x : ByteArray} {s : PS} (h : seesP L x s = true) : s.i < L.length:=by
 unfold seesP at h
 split at h
 ·rename_i t ht;exact (List.getElem?_eq_some_iff.1 ht).1
 ·cases h
theorem is_lt {k : Int} {s : PS} (h : isP L k s = true) : s.i < L.length:=by
 unfold isP at h
 split at h
 ·rename_i t ht;exact (List.getElem?_eq_some_iff.1 ht).1
 ·cases h
theorem fine_want {x : ByteArray} {s : PS} : Fine L (s.i + 1) (wantP L e x s):=by
 unfold wantP
 split
 ·rename_i h
  have hl:=sees_lt h
  split
  ·split
   ·exact fine_no
   ·exact fine_ok (Nat.le_refl _) hl
  ·split
   ·exact fine_ok (Nat.le_refl _) hl
   ·exact fine_ok (Nat.le_refl _) hl
 ·exact fine_no
theorem fine_name {s : PS} : Fine L (s.i + 1) (nameP L e s):=by
 unfold nameP
 split
 ·rename_i h
  exact fine_ok (Nat.le_refl _) (is_lt h)
 ·exact fine_no
theorem fine_node {lo : Nat} {k : Int} {t : ByteArray} {num : Int} {kids : List Nd} {s : PS} (h1 : lo ≤ s.i) (h2 : s.i ≤ L.length) : Fine L lo (nodeP k t num kids s):=fine_ok h1 h2
theorem fine_if {lo : Nat} {x : ByteArray} {s : PS} {a b : Res} (h1 : s.i < L.length → Fine L lo a) (h2 : Fine L lo b) : Fine L lo (if seesP L x s = true then a else b):=by
 split
 ·rename_i h;exact h1 (sees_lt h)
 ·exact h2
theorem fine_ifk {lo : Nat} {k : Int} {s : PS} {a b : Res} (h1 : s.i < L.length → Fine L lo a) (h2 : Fine L lo b) : Fine L lo (if isP L k s = true then a else b):=by
 split
 ·rename_i h;exact h1 (is_lt h)
 ·exact h2
theorem fine_ifc {lo : Nat} {c : Prop} [Decidable c] {a b : Res} (h1 : Fine L lo a) (h2 : Fine L lo b) : Fine L lo (if c then a else b):=by
 split
 ·exact h1
 ·exact h2
theorem fine_bif {lo : Nat} {x : ByteArray} {s : PS} {a b : Res} {k : Nd → PS → Res} (h1 : s.i < L.length → Fine L s.i a) (h2 : Fine L s.i b) (hk : ∀ n s',s.i ≤ s'.i → s'.i ≤ L.length → Fine L lo (k n s')) : Fine L lo ((if seesP L x s = true then a else b).bind k):=fine_bind (fine_if h1 h2) hk
theorem fine_run {lo lo2 : Nat} {r : Res} (h : Fine L lo r) (hl : lo2 ≤ lo) : Fine L lo2 r:=⟨h.1,fun n s' e => ⟨Nat.le_trans hl (h.2 n s' e).1,(h.2 n s' e).2⟩⟩
theorem step_i (s : PS) : (stepP s).i = s.i + 1:=rfl

def rank : Cmd → Nat
 | .expr => 6 | .sum => 5 | .sumL _ => 1 | .term => 4 | .termL _ => 1 | .unary => 3 | .call => 2 | .callL _ => 1 | .primary => 1 | .argsL _ => 7
 | .block => 1 | .stmtsL _ => 9 | .stmt => 8 | .slotsL _ => 1 | .parmsL _ => 1 | .meth => 1 | .methsL _ => 1 | .cls => 1 | .clsL _ => 1
/-- Does a command take a token at least? -/
def str : Cmd → Nat
 | .sumL _ => 0 | .termL _ => 0 | .callL _ => 0 | .stmtsL _ => 0 | .slotsL _ => 0 | .methsL _ => 0 | .clsL _ => 0 | _ => 1

set_option maxHeartbeats 2000000 in
theorem run_fine (L : List Tok) (e : Nat) : ∀ (f : Nat) (c : Cmd) (s : PS),s.i ≤ L.length → 12 * (L.length - s.i) + rank c ≤ f → Fine L (s.i + str c) (run L e f c s):=by
 intro f
 induction f with
 | zero => intro c s _ h;cases c <;> (simp only [rank] at h;omega)
 | succ f ih =>
  intro c s hs hf
  cases c
  all_goals
   simp only [rank] at hf
   simp only [run,str]
   repeat' (first
    | exact fine_no
    | (refine fine_bind fine_want ?_;intro _ _ _ _)
    | (refine fine_bind fine_name ?_;intro _ _ _ _)
    | (refine fine_bind (ih _ _ (by (try simp only [step_i] at *);omega) (by (try simp only [rank,step_i] at *);omega)) ?_;simp only [str];intro _ _ _ _)
    | (refine fine_bind (fine_node (Nat.le_refl _) (by (try simp only [step_i] at *);omega)) ?_;intro _ _ _ _)
    | (refine fine_bif (fun _ => ?_) ?_ (fun _ _ _ _ => ?_))
    | (refine fine_if (fun _ => ?_) ?_)
    | (refine fine_ifk (fun _ => ?_) ?_)
    | exact fine_ok (by (try simp only [step_i] at *);omega) (by (try simp only [step_i] at *);omega)
    | exact fine_node (by (try simp only [step_i] at *);omega) (by (try simp only [step_i] at *);omega)
    | refine fine_ifc ?_ ?_
    | exact fine_run (ih _ _ (by (try simp only [step_i] at *);omega) (by (try simp only [rank,step_i] at *);omega)) (by (try simp only [str,step_i] at *);omega))
/-- Fuel enough for the whole. -/
def fuelP (L : List Tok) : Nat:=12 * L.length + 12
theorem fine_nb {lo : Nat} {r : Res} {k : Nd → PS → Res} (h : Fine L lo r) (hk : ∀ n s',lo ≤ s'.i → s'.i ≤ L.length → k n s' ≠ .out) : r.bind k ≠ .out:=by
 cases r with
 | ok n s' => obtain ⟨h1,h2⟩:=h.2 n s' rfl;exact hk n s' h1 h2
 | no c p => exact fun h => by cases h
 | out => exact absurd rfl h.1
theorem parse_out (L : List Tok) (e : Nat) : parseP L e (fuelP L) ≠ .out:=by
 unfold parseP
 have h1:=run_fine L e (fuelP L) (.clsL []) ⟨0,0,0⟩ (Nat.zero_le _) (by simp only [rank,fuelP];omega)
 have h2 : Fine L 0 ((run L e (fuelP L) (.clsL []) ⟨0,0,0⟩).bind fun l s => (wantP L e (tx "main") s).bind fun _ s => (run L e (fuelP L) .block s).bind fun b s =>
   if s.i < L.length then failP L e 12 s else nodeP 1 (tx "") 0 (l.kids ++ [b]) s):=by
  refine fine_bind h1 (fun l s a1 a2 => fine_bind fine_want (fun _ s b1 b2 => fine_bind (run_fine L e (fuelP L) .block s b2 (by simp only [rank,fuelP];omega)) (fun b s c1 c2 => ?_)))
  exact fine_ifc fine_no (fine_node (Nat.zero_le _) c2)
 refine fine_nb h2 (fun n s _ _ => ?_)
 split
 ·exact fun h => by cases h
 ·exact fun h => by cases h
end
end Go.Proofs.YtbpldfmmlgkfnaaGreatDoor

namespace Go.Proofs.YtbpldfmmlgkfnaaGreatDoor
open Go
set_option linter.unusedVariables false

section
variable {L : List Tok} {e : Nat}
/-- Where it ends well, its place lies from lo on. -/
def Mo (lo : Nat) (r : Res) : Prop:=∀ n s',r = .ok n s' → lo ≤ s'.i
theorem mo_ok {lo : Nat} {n : Nd} {s : PS} (h : lo ≤ s.i) : Mo lo (.ok n s):=fun n' s'' e => by cases e;exact h
theorem mo_no {lo : Nat} {c : Int} {p : Nat} : Mo lo (.no c p):=fun n s' h => by cases h
theorem mo_out {lo : Nat} : Mo lo .out:=fun n s' h => by cases h
theorem mo_bind {lo lo2 : Nat} {r : Res} {f : Nd → PS → Res} (h : Mo lo r) (hf : ∀ n s',lo ≤ s'.i → Mo lo2 (f n s')) : Mo lo2 (r.bind f):=by
 cases r with
 | ok n s' => exact hf n s' (h n s' rfl)
 | no c p => exact mo_no
 | out => exact mo_out
theorem mo_if {lo : Nat} {c : Prop} [Decidable c] {a b : Res} (h1 : Mo lo a) (h2 : Mo lo b) : Mo lo (if c then a else b):=by
 split
 ·exact h1
 ·exact h2
theorem mo_bif {lo : Nat} {s : PS} {x : ByteArray} {a b : Res} {k : Nd → PS → Res} (h1 : Mo s.i a) (h2 : Mo s.i b) (hk : ∀ n s',s.i ≤ s'.i → Mo lo (k n s')) : Mo lo ((if seesP L x s = true then a else b).bind k):=mo_bind (mo_if h1 h2) hk
theorem mo_run {lo lo2 : Nat} {r : Res} (h : Mo lo r) (hl : lo2 ≤ lo) : Mo lo2 r:=fun n s' e => Nat.le_trans hl (h n s' e)
theorem mo_want {x : ByteArray} {s : PS} : Mo (s.i + 1) (wantP L e x s):=by
 unfold wantP
 split
 ·split
  ·split
   ·exact mo_no
   ·exact mo_ok (Nat.le_refl _)
  ·split <;> exact mo_ok (Nat.le_refl _)
 ·exact mo_no
theorem mo_name {s : PS} : Mo (s.i + 1) (nameP L e s):=by
 unfold nameP
 split
 ·exact mo_ok (Nat.le_refl _)
 ·exact mo_no
theorem mo_node {lo : Nat} {k : Int} {t : ByteArray} {num : Int} {kids : List Nd} {s : PS} (h : lo ≤ s.i) : Mo lo (nodeP k t num kids s):=mo_ok h

set_option maxHeartbeats 2000000 in
theorem run_mono (L : List Tok) (e : Nat) : ∀ (f : Nat) (c : Cmd) (s : PS),Mo (s.i + str c) (run L e f c s):=by
 intro f
 induction f with
 | zero => intro c s;exact mo_out
 | succ f ih =>
  intro c s
  cases c
  all_goals
   simp only [run,str]
   repeat' (first
    | exact mo_no
    | (refine mo_bind mo_want ?_;intro _ _ _)
    | (refine mo_bind mo_name ?_;intro _ _ _)
    | (refine mo_bind (ih _ _) ?_;simp only [str];intro _ _ _)
    | (refine mo_bind (mo_node (Nat.le_refl _)) ?_;intro _ _ _)
    | (refine mo_bif ?_ ?_ (fun _ _ _ => ?_))
    | (refine mo_if ?_ ?_)
    | exact mo_ok (by (try simp only [step_i] at *);omega)
    | exact mo_node (by (try simp only [step_i] at *);omega)
    | exact mo_run (ih _ _) (by (try simp only [str,step_i] at *);omega))
end
end Go.Proofs.YtbpldfmmlgkfnaaGreatDoor

namespace Go.Proofs.YtbpldfmmlgkfnaaGreatDoor
open Go
set_option linter.unusedVariables false

section
variable {L : List Tok} {e : Nat}
/-- Tokens taken over nodes made. -/
def pot (s : PS) : Int:=(s.i : Int) - (s.many : Int)
def Mp (lo : Int) (r : Res) : Prop:=∀ n s',r = .ok n s' → lo ≤ pot s'
theorem mp_ok {lo : Int} {n : Nd} {s : PS} (h : lo ≤ pot s) : Mp lo (.ok n s):=fun n' s'' e => by cases e;exact h
theorem mp_no {lo : Int} {c : Int} {p : Nat} : Mp lo (.no c p):=fun n s' h => by cases h
theorem mp_out {lo : Int} : Mp lo .out:=fun n s' h => by cases h
theorem mp_bind {lo lo2 : Int} {r : Res} {f : Nd → PS → Res} (h : Mp lo r) (hf : ∀ n s',lo ≤ pot s' → Mp lo2 (f n s')) : Mp lo2 (r.bind f):=by
 cases r with
 | ok n s' => exact hf n s' (h n s' rfl)
 | no c p => exact mp_no
 | out => exact mp_out
theorem mp_if {lo : Int} {c : Prop} [Decidable c] {a b : Res} (h1 : Mp lo a) (h2 : Mp lo b) : Mp lo (if c then a else b):=by
 split
 ·exact h1
 ·exact h2
theorem mp_bif {lo : Int} {s : PS} {x : ByteArray} {a b : Res} {k : Nd → PS → Res} (h1 : Mp (pot s) a) (h2 : Mp (pot s) b) (hk : ∀ n s',pot s ≤ pot s' → Mp lo (k n s')) : Mp lo ((if seesP L x s = true then a else b).bind k):=mp_bind (mp_if h1 h2) hk
theorem mp_run {lo lo2 : Int} {r : Res} (h : Mp lo r) (hl : lo2 ≤ lo) : Mp lo2 r:=fun n s' e => Int.le_trans hl (h n s' e)
theorem pot_step (s : PS) : pot (stepP s) = pot s + 1:=by unfold pot stepP;dsimp only;omega
theorem pot_node (s : PS) : pot ⟨s.i,s.dep,s.many + 1⟩ = pot s - 1:=by unfold pot;dsimp only;omega
theorem mp_want {x : ByteArray} {s : PS} : Mp (pot s + 1) (wantP L e x s):=by
 unfold wantP
 split
 ·split
  ·split
   ·exact mp_no
   ·exact mp_ok (by unfold pot;dsimp only;omega)
  ·split <;> exact mp_ok (by (try unfold stepP);unfold pot;dsimp only;omega)
 ·exact mp_no
theorem mp_name {s : PS} : Mp (pot s + 1) (nameP L e s):=by
 unfold nameP
 split
 ·exact mp_ok (by rw [pot_step];omega)
 ·exact mp_no
theorem mp_node {lo : Int} {k : Int} {t : ByteArray} {num : Int} {kids : List Nd} {s : PS} (h : lo ≤ pot s - 1) : Mp lo (nodeP k t num kids s):=mp_ok (by rw [pot_node];exact h)

set_option maxHeartbeats 2000000 in
theorem run_many (L : List Tok) (e : Nat) : ∀ (f : Nat) (c : Cmd) (s : PS),Mp (pot s) (run L e f c s):=by
 intro f
 induction f with
 | zero => intro c s;exact mp_out
 | succ f ih =>
  intro c s
  cases c
  all_goals
   simp only [run]
   repeat' (first
    | exact mp_no
    | (refine mp_bind mp_want ?_;intro _ _ _)
    | (refine mp_bind mp_name ?_;intro _ _ _)
    | (refine mp_bind (ih _ _) ?_;intro _ _ _)
    | (refine mp_bind (mp_node (Int.le_refl _)) ?_;intro _ _ _)
    | (refine mp_bif ?_ ?_ (fun _ _ _ => ?_))
    | (refine mp_if ?_ ?_)
    | exact mp_ok (by (try simp only [pot_step] at *);omega)
    | exact mp_node (by (try simp only [pot_step] at *);omega)
    | exact mp_run (ih _ _) (by (try simp only [pot_step] at *);omega))
end
end Go.Proofs.YtbpldfmmlgkfnaaGreatDoor

namespace Go.Proofs.YtbpldfmmlgkfnaaGreatDoor
open Go
set_option linter.unusedVariables false

section
variable {L L' : List Tok} {e e' : Nat}
/-- The same but for the place of what is wrong. -/
inductive LikeR : Res → Res → Prop where
 | ok (n : Nd) (s : PS) : LikeR (.ok n s) (.ok n s)
 | no (c : Int) (p q : Nat) : LikeR (.no c p) (.no c q)
 | out : LikeR .out .out
theorem like_at (h : likeT L L') (i : Nat) : (L[i]?).map (fun t => (t.kind,t.text)) = (L'[i]?).map (fun t => (t.kind,t.text)):=by
 rw [← List.getElem?_map,← List.getElem?_map,h]
theorem like_len (h : likeT L L') : L.length = L'.length:=by
 have:=congrArg List.length h
 simpa using this
theorem like_sees (h : likeT L L') (x : ByteArray) (s : PS) : seesP L x s = seesP L' x s:=by
 have:=like_at h s.i
 unfold seesP
 cases h1 : L[s.i]? <;> cases h2 : L'[s.i]? <;> rw [h1,h2] at this <;> simp_all
theorem like_is (h : likeT L L') (k : Int) (s : PS) : isP L k s = isP L' k s:=by
 have:=like_at h s.i
 unfold isP
 cases h1 : L[s.i]? <;> cases h2 : L'[s.i]? <;> rw [h1,h2] at this <;> simp_all
theorem like_text (h : likeT L L') (s : PS) : textP L s = textP L' s:=by
 have:=like_at h s.i
 unfold textP
 cases h1 : L[s.i]? <;> cases h2 : L'[s.i]? <;> rw [h1,h2] at this <;> simp_all
theorem like_bind {r r' : Res} {k k' : Nd → PS → Res} (h : LikeR r r') (hk : ∀ n s,LikeR (k n s) (k' n s)) : LikeR (r.bind k) (r'.bind k'):=by
 cases h with
 | ok n s => exact hk n s
 | no c p q => exact .no c p q
 | out => exact .out
theorem like_want (h : likeT L L') (x : ByteArray) (s : PS) : LikeR (wantP L e x s) (wantP L' e' x s):=by
 unfold wantP
 rw [like_sees h]
 split
 ·split
  ·split
   ·exact .no _ _ _
   ·exact .ok _ _
  ·split <;> exact .ok _ _
 ·exact .no _ _ _
theorem like_name (h : likeT L L') (s : PS) : LikeR (nameP L e s) (nameP L' e' s):=by
 unfold nameP
 rw [like_is h,like_text h]
 split
 ·exact .ok _ _
 ·exact .no _ _ _
theorem like_node (k : Int) (t : ByteArray) (num : Int) (kids : List Nd) (s : PS) : LikeR (nodeP k t num kids s) (nodeP k t num kids s):=.ok _ _
theorem like_if {c : Prop} [Decidable c] {a b a' b' : Res} (h1 : LikeR a a') (h2 : LikeR b b') : LikeR (if c then a else b) (if c then a' else b'):=by
 split
 ·exact h1
 ·exact h2
set_option maxHeartbeats 2000000 in
theorem run_like (h : likeT L L') : ∀ (f : Nat) (c : Cmd) (s : PS),LikeR (run L e f c s) (run L' e' f c s):=by
 intro f
 induction f with
 | zero => intro c s;exact .out
 | succ f ih =>
  intro c s
  cases c
  all_goals
   simp only [run,like_sees h,like_is h,like_text h]
   repeat' (first
    | exact .ok _ _
    | exact like_node _ _ _ _ _
    | exact ih _ _
    | exact like_want h _ _
    | exact like_name h _
    | refine like_if ?_ ?_
    | refine like_bind ?_ (fun _ _ => ?_))
theorem parse_like (h : likeT L L') (f : Nat) : LikeR (parseP L e f) (parseP L' e' f):=by
 unfold parseP
 rw [like_len h]
 refine like_bind (like_bind (run_like h _ _ _) (fun l s => like_bind (like_want h _ _) (fun _ s => like_bind (run_like h _ _ _) (fun b s => like_if (.no _ _ _) (.ok _ _))))) (fun n s => like_if (.no _ _ _) (.ok _ _))
/-- What is parsed well is so of tokens alike. -/
theorem parse_like_ok (h : likeT L L') {n : Nd} {s : PS} (hp : parseP L e (fuelP L) = .ok n s) : parseP L' e' (fuelP L') = .ok n s:=by
 have h1:=parse_like (e:=e) (e':=e') h (fuelP L)
 rw [hp] at h1
 have : fuelP L' = fuelP L:=by unfold fuelP;rw [like_len h]
 rw [this]
 generalize parseP L' e' (fuelP L) = r at h1 ⊢
 cases h1
 rfl
end
end Go.Proofs.YtbpldfmmlgkfnaaGreatDoor

namespace Go.Proofs.YtbpldfmmlgkfnaaGreatDoor
open Go
set_option linter.unusedVariables false

/-- Expressions. -/
inductive EOk : Nd → Prop where
 | bin (k : Int) (a b : Nd) : k = 18 ∨ k = 19 ∨ k = 20 ∨ k = 21 ∨ k = 22 → EOk a → EOk b → EOk (.mk k (tx "") 0 [a,b])
 | un (k : Int) (a : Nd) : k = 23 ∨ k = 24 → EOk a → EOk (.mk k (tx "") 0 [a])
 | call (t : ByteArray) (a : Nd) (l : List Nd) : OkT 1 t → EOk a → (∀ x,x ∈ l → EOk x) → EOk (.mk 25 t 0 (a :: l))
 | num (v : Nat) : v ≤ 1073741823 → EOk (.mk 26 (tx "") (v : Int) [])
 | leaf (k : Int) : k = 27 ∨ k = 28 ∨ k = 29 → EOk (.mk k (tx "") 0 [])
 | name (k : Int) (t : ByteArray) : k = 30 ∨ k = 31 → OkT 1 t → EOk (.mk k t 0 [])
/-- Statements. -/
inductive SOk : Nd → Prop where
 | named (k : Int) (t : ByteArray) (a : Nd) : k = 7 ∨ k = 8 → OkT 1 t → EOk a → SOk (.mk k t 0 [a])
 | one (k : Int) (a : Nd) : k = 11 ∨ k = 12 ∨ k = 14 ∨ k = 15 ∨ k = 17 → EOk a → SOk (.mk k (tx "") 0 [a])
 | swap (a b : Nd) : EOk a → EOk b → SOk (.mk 16 (tx "") 0 [a,b])
 | when (k : Int) (a : Nd) (l : List Nd) : k = 9 ∨ k = 10 → EOk a → (∀ x,x ∈ l → SOk x) → SOk (.mk k (tx "") 0 [a,.mk 6 (tx "") 0 l])
 | both (a : Nd) (l m : List Nd) : EOk a → (∀ x,x ∈ l → SOk x) → (∀ x,x ∈ m → SOk x) → SOk (.mk 9 (tx "") 0 [a,.mk 6 (tx "") 0 l,.mk 6 (tx "") 0 m])
 | fork (l : List Nd) : (∀ x,x ∈ l → SOk x) → SOk (.mk 13 (tx "") 0 [.mk 6 (tx "") 0 l])
def BOk (n : Nd) : Prop:=∃ l,n = .mk 6 (tx "") 0 l ∧ ∀ x,x ∈ l → SOk x
def AOk (n : Nd) : Prop:=∃ t,OkT 1 t ∧ n = .mk 5 t 0 []
def MOk (n : Nd) : Prop:=∃ t l b,OkT 1 t ∧ (∀ x,x ∈ l → AOk x) ∧ BOk b ∧ n = .mk 4 t (l.length : Nat) (l ++ [b])
/-- What stands in a class: a name at first or none, slots, methods. -/
def POk1 (n : Nd) : Prop:=∃ t,OkT 1 t ∧ (n = .mk 3 t 0 [] ∨ n = .mk 31 t 0 [])
def COk (n : Nd) : Prop:=∃ t o a b,OkT 1 t ∧ (o = [] ∨ ∃ u,OkT 1 u ∧ o = [.mk 31 u 0 []]) ∧ (∀ x,x ∈ a → ∃ u,OkT 1 u ∧ x = .mk 3 u 0 []) ∧ (∀ x,x ∈ b → MOk x) ∧ n = .mk 2 t 0 (o ++ a ++ b)
def NOk (n : Nd) : Prop:=∃ l b,(∀ x,x ∈ l → COk x) ∧ BOk b ∧ n = .mk 1 (tx "") 0 (l ++ [b])

section
variable {L : List Tok} {e : Nat}
/-- Where it ends well, the node is so. -/
def OkR (P : Nd → Prop) (r : Res) : Prop:=∀ n s,r = .ok n s → P n
theorem okr_bind {P Q : Nd → Prop} {r : Res} {k : Nd → PS → Res} (h : OkR Q r) (hk : ∀ n s,Q n → OkR P (k n s)) : OkR P (r.bind k):=by
 cases r with
 | ok n s => exact hk n s (h n s rfl)
 | no c p => exact fun n s h => by cases h
 | out => exact fun n s h => by cases h
theorem okr_ok {P : Nd → Prop} {n : Nd} {s : PS} (h : P n) : OkR P (.ok n s):=fun n' s' e => by cases e;exact h
theorem okr_no {P : Nd → Prop} {c : Int} {p : Nat} : OkR P (.no c p):=fun n s h => by cases h
theorem okr_out {P : Nd → Prop} : OkR P .out:=fun n s h => by cases h
theorem okr_want {x : ByteArray} {s : PS} : OkR (fun _ => True) (wantP L e x s):=fun _ _ _ => trivial
theorem okr_name (hL : ∀ t ∈ L,OkT t.kind t.text) {s : PS} : OkR (fun n => OkT 1 n.text) (nameP L e s):=by
 unfold nameP
 split
 ·rename_i h
  refine okr_ok ?_
  unfold isP at h
  unfold textP
  split at h
  ·rename_i t ht
   have hk : t.kind = 1:=by simpa using h
   have:=hL t (List.mem_of_getElem? ht)
   rw [hk] at this;exact this
  ·cases h
 ·exact okr_no
theorem text_ok (hL : ∀ t ∈ L,OkT t.kind t.text) {s : PS} {k : Int} (h : isP L k s = true) : OkT k (textP L s):=by
 unfold isP at h
 unfold textP
 split at h
 ·rename_i t ht
  have hk : t.kind = k:=by simpa using h
  have:=hL t (List.mem_of_getElem? ht)
  rw [hk] at this;exact this
 ·cases h
theorem num_le {t : ByteArray} (h : OkT 2 t) : numF 0 t.data.toList ≤ 1073741823:=by
 cases h
 assumption
theorem okr_node {P : Nd → Prop} {k : Int} {t : ByteArray} {num : Int} {kids : List Nd} {s : PS} (h : P (.mk k t num kids)) : OkR P (nodeP k t num kids s):=okr_ok h
theorem okr_if {P : Nd → Prop} {c : Prop} [Decidable c] {a b : Res} (h1 : c → OkR P a) (h2 : OkR P b) : OkR P (if c then a else b):=by
 split
 ·rename_i h;exact h1 h
 ·exact h2
theorem mem_snoc {P : Nd → Prop} {l : List Nd} {k : Nd} (h : ∀ x,x ∈ l → P x) (hk : P k) : ∀ x,x ∈ l ++ [k] → P x:=fun x hx => by
 rcases List.mem_append.1 hx with hx | hx
 ·exact h x hx
 ·rw [List.mem_singleton] at hx;subst hx;exact hk
def preC : Cmd → Prop
 | .sumL n => EOk n | .termL n => EOk n | .callL n => EOk n
 | .argsL l => ∀ x,x ∈ l → EOk x
 | .stmtsL l => ∀ x,x ∈ l → SOk x
 | .slotsL l => ∃ o a,l = o ++ a ∧ (o = [] ∨ ∃ u,OkT 1 u ∧ o = [.mk 31 u 0 []]) ∧ ∀ x,x ∈ a → ∃ u,OkT 1 u ∧ x = .mk 3 u 0 []
 | .parmsL l => ∀ x,x ∈ l → AOk x
 | .methsL l => ∃ o a b,l = o ++ a ++ b ∧ (o = [] ∨ ∃ u,OkT 1 u ∧ o = [.mk 31 u 0 []]) ∧ (∀ x,x ∈ a → ∃ u,OkT 1 u ∧ x = .mk 3 u 0 []) ∧ ∀ x,x ∈ b → MOk x
 | .clsL l => ∀ x,x ∈ l → COk x
 | _ => True
def postC : Cmd → Nd → Prop
 | .argsL _,n => ∀ x,x ∈ n.kids → EOk x
 | .block,n => BOk n
 | .stmtsL _,n => ∀ x,x ∈ n.kids → SOk x
 | .stmt,n => SOk n
 | .slotsL _,n => preC (.methsL n.kids)
 | .parmsL _,n => ∀ x,x ∈ n.kids → AOk x
 | .meth,n => MOk n
 | .methsL _,n => preC (.methsL n.kids)
 | .cls,n => COk n
 | .clsL _,n => ∀ x,x ∈ n.kids → COk x
 | _,n => EOk n
theorem nil_ok {P : Nd → Prop} : ∀ x,x ∈ ([] : List Nd) → P x:=fun x h => absurd h List.not_mem_nil

set_option maxHeartbeats 4000000 in
theorem run_ok (hL : ∀ t ∈ L,OkT t.kind t.text) : ∀ (f : Nat) (c : Cmd) (s : PS),preC c → OkR (postC c) (run L e f c s):=by
 intro f
 induction f with
 | zero => intro c s _;exact okr_out
 | succ f ih =>
  intro c s hp
  cases c
  case expr =>
   simp only [run]
   refine okr_bind (ih .sum s trivial) (fun n s hn => okr_if (fun _ => ?_) (okr_if (fun _ => ?_) (okr_ok hn)))
   ·exact okr_bind (ih .sum _ trivial) (fun k s hk => okr_node (.bin _ _ _ (by simp) hn hk))
   ·exact okr_bind (ih .sum _ trivial) (fun k s hk => okr_node (.bin _ _ _ (by simp) hn hk))
  case sum => exact okr_bind (ih .term s trivial) (fun n s hn => ih (.sumL n) s hn)
  case term => exact okr_bind (ih .unary s trivial) (fun n s hn => ih (.termL n) s hn)
  case call => exact okr_bind (ih .primary s trivial) (fun n s hn => ih (.callL n) s hn)
  case sumL n =>
   simp only [run]
   refine okr_if (fun _ => ?_) (okr_if (fun _ => ?_) (okr_ok hp))
   ·exact okr_bind (ih .term _ trivial) (fun k s hk => okr_bind (Q:=EOk) (okr_node (.bin _ _ _ (by simp) hp hk)) (fun m s hm => ih (.sumL m) s hm))
   ·exact okr_bind (ih .term _ trivial) (fun k s hk => okr_bind (Q:=EOk) (okr_node (.bin _ _ _ (by simp) hp hk)) (fun m s hm => ih (.sumL m) s hm))
  case termL n =>
   simp only [run]
   refine okr_if (fun _ => ?_) (okr_ok hp)
   exact okr_bind (ih .unary _ trivial) (fun k s hk => okr_bind (Q:=EOk) (okr_node (.bin _ _ _ (by simp) hp hk)) (fun m s hm => ih (.termL m) s hm))
  case unary =>
   simp only [run]
   refine okr_if (fun _ => ?_) (okr_if (fun _ => ?_) (ih .call s trivial))
   ·exact okr_bind (ih .unary _ trivial) (fun k s hk => okr_node (.un _ _ (by simp) hk))
   ·exact okr_bind (ih .unary _ trivial) (fun k s hk => okr_node (.un _ _ (by simp) hk))
  case callL n =>
   simp only [run]
   refine okr_if (fun _ => ?_) (okr_ok hp)
   refine okr_bind (okr_name hL) (fun t s ht => okr_bind okr_want (fun _ s _ => okr_bind (Q:=fun a => ∀ x,x ∈ a.kids → EOk x) (okr_if (fun _ => okr_ok nil_ok) (ih (.argsL []) s nil_ok)) (fun a s ha => okr_bind okr_want (fun _ s _ => okr_bind (Q:=EOk) (okr_node (.call _ _ _ ht hp ha)) (fun m s hm => ih (.callL m) s hm)))))
  case argsL l =>
   simp only [run]
   exact okr_bind (ih .expr s trivial) (fun k s hk => okr_if (fun _ => ih (.argsL (l ++ [k])) _ (mem_snoc hp hk)) (okr_ok (mem_snoc hp hk)))
  case primary =>
   simp only [run]
   refine okr_if (fun h => ?_) (okr_if (fun h => ?_) (okr_if (fun _ => ?_) (okr_if (fun _ => ?_) (okr_if (fun _ => ?_) (okr_if (fun _ => ?_) ?_)))))
   ·exact okr_node (.num _ (num_le (text_ok hL h)))
   ·exact okr_node (.name _ _ (by simp) (text_ok hL h))
   ·exact okr_node (.leaf _ (by simp))
   ·exact okr_node (.leaf _ (by simp))
   ·exact okr_node (.leaf _ (by simp))
   ·exact okr_bind (okr_name hL) (fun t s ht => okr_node (.name _ _ (by simp) ht))
   ·exact okr_bind okr_want (fun _ s _ => okr_bind (ih .expr s trivial) (fun n s hn => okr_bind okr_want (fun _ s _ => okr_ok hn)))
  case block =>
   simp only [run]
   exact okr_bind okr_want (fun _ s _ => okr_bind (ih (.stmtsL []) s nil_ok) (fun a s ha => okr_bind okr_want (fun _ s _ => okr_node ⟨_,rfl,ha⟩)))
  case stmtsL l =>
   simp only [run]
   exact okr_if (fun _ => okr_ok hp) (okr_bind (ih .stmt s trivial) (fun k s hk => ih (.stmtsL (l ++ [k])) s (mem_snoc hp hk)))
  case stmt =>
   simp only [run]
   refine okr_if (fun _ => ?_) (okr_if (fun _ => ?_) (okr_if (fun _ => ?_) (okr_if (fun _ => ?_) (okr_if (fun _ => ?_) (okr_if (fun _ => ?_) (okr_if (fun _ => ?_) (okr_if (fun _ => ?_) (okr_if (fun _ => ?_) (okr_if (fun _ => ?_) ?_)))))))))
   ·exact okr_bind (okr_name hL) (fun t s ht => okr_bind okr_want (fun _ s _ => okr_bind (ih .expr s trivial) (fun k s hk => okr_bind okr_want (fun _ s _ => okr_node (.named _ _ _ (by simp) ht hk)))))
   ·refine okr_bind okr_want (fun _ s _ => okr_bind (ih .expr s trivial) (fun k s hk => okr_bind okr_want (fun _ s _ => okr_bind (ih .block s trivial) (fun b s hb => ?_))))
    obtain ⟨l,rfl,hl⟩:=hb
    refine okr_if (fun _ => okr_bind (ih .block _ trivial) (fun c s hc => ?_)) (okr_node (.when _ _ _ (by simp) hk hl))
    obtain ⟨m,rfl,hm⟩:=hc
    exact okr_node (.both _ _ _ hk hl hm)
   ·refine okr_bind okr_want (fun _ s _ => okr_bind (ih .expr s trivial) (fun k s hk => okr_bind okr_want (fun _ s _ => okr_bind (ih .block s trivial) (fun b s hb => ?_))))
    obtain ⟨l,rfl,hl⟩:=hb
    exact okr_node (.when _ _ _ (by simp) hk hl)
   ·exact okr_bind (ih .expr _ trivial) (fun k s hk => okr_bind okr_want (fun _ s _ => okr_node (.one _ _ (by simp) hk)))
   ·exact okr_bind okr_want (fun _ s _ => okr_bind (ih .expr s trivial) (fun k s hk => okr_bind okr_want (fun _ s _ => okr_bind okr_want (fun _ s _ => okr_node (.one _ _ (by simp) hk)))))
   ·refine okr_bind (ih .block _ trivial) (fun b s hb => ?_)
    obtain ⟨l,rfl,hl⟩:=hb
    exact okr_node (.fork _ hl)
   ·exact okr_bind okr_want (fun _ s _ => okr_bind (ih .expr s trivial) (fun k s hk => okr_bind okr_want (fun _ s _ => okr_bind okr_want (fun _ s _ => okr_node (.one _ _ (by simp) hk)))))
   ·exact okr_bind okr_want (fun _ s _ => okr_bind (ih .expr s trivial) (fun k s hk => okr_bind okr_want (fun _ s _ => okr_bind okr_want (fun _ s _ => okr_node (.one _ _ (by simp) hk)))))
   ·exact okr_bind okr_want (fun _ s _ => okr_bind (ih .expr s trivial) (fun k s hk => okr_bind okr_want (fun _ s _ => okr_bind (ih .expr s trivial) (fun m s hm => okr_bind okr_want (fun _ s _ => okr_bind okr_want (fun _ s _ => okr_node (.swap _ _ hk hm)))))))
   ·exact okr_bind (okr_name hL) (fun t s ht => okr_bind okr_want (fun _ s _ => okr_bind (ih .expr s trivial) (fun k s hk => okr_bind okr_want (fun _ s _ => okr_node (.named _ _ _ (by simp) ht hk)))))
   ·exact okr_bind (ih .expr _ trivial) (fun k s hk => okr_bind okr_want (fun _ s _ => okr_node (.one _ _ (by simp) hk)))
  case slotsL l =>
   simp only [run]
   obtain ⟨o,a,rfl,ho,ha⟩:=hp
   refine okr_if (fun _ => ?_) (okr_ok ⟨o,a,[],by rw [List.append_nil];rfl,ho,ha,nil_ok⟩)
   exact okr_bind (okr_name hL) (fun t s ht => okr_bind okr_want (fun _ s _ => okr_bind (Q:=fun k => ∃ u,OkT 1 u ∧ k = .mk 3 u 0 []) (okr_node ⟨_,ht,rfl⟩) (fun k s hk => ih (.slotsL (o ++ a ++ [k])) s ⟨o,a ++ [k],by rw [List.append_assoc],ho,mem_snoc (P:=fun k => ∃ u,OkT 1 u ∧ k = .mk 3 u 0 []) ha hk⟩)))
  case parmsL l =>
   simp only [run]
   exact okr_bind (okr_name hL) (fun t s ht => okr_bind (Q:=AOk) (okr_node ⟨_,ht,rfl⟩) (fun k s hk => okr_if (fun _ => ih (.parmsL (l ++ [k])) _ (mem_snoc hp hk)) (okr_ok (mem_snoc hp hk))))
  case meth =>
   simp only [run]
   exact okr_bind (okr_name hL) (fun t s ht => okr_bind okr_want (fun _ s _ => okr_bind (Q:=fun a => ∀ x,x ∈ a.kids → AOk x) (okr_if (fun _ => okr_ok nil_ok) (ih (.parmsL []) s nil_ok)) (fun a s ha => okr_bind okr_want (fun _ s _ => okr_bind (ih .block s trivial) (fun b s hb => okr_node ⟨_,_,_,ht,ha,hb,rfl⟩)))))
  case methsL l =>
   simp only [run]
   obtain ⟨o,a,b,rfl,ho,ha,hb⟩:=hp
   refine okr_if (fun _ => ?_) (okr_ok ⟨o,a,b,rfl,ho,ha,hb⟩)
   exact okr_bind (ih .meth _ trivial) (fun k s hk => ih (.methsL (o ++ a ++ b ++ [k])) s ⟨o,a,b ++ [k],by rw [List.append_assoc (o ++ a)],ho,ha,mem_snoc hb hk⟩)
  case cls =>
   simp only [run]
   refine okr_bind (okr_name hL) (fun t s ht => okr_bind (Q:=fun o => o.kids = [] ∨ ∃ u,OkT 1 u ∧ o.kids = [.mk 31 u 0 []]) (okr_if (fun _ => ?_) (okr_ok (.inl rfl))) (fun o s ho => okr_bind okr_want (fun _ s _ => okr_bind (ih (.slotsL o.kids) s ⟨o.kids,[],by rw [List.append_nil],ho,nil_ok⟩) (fun a s ha => okr_bind (ih (.methsL a.kids) s ha) (fun b s hb => okr_bind okr_want (fun _ s _ => ?_))))))
   ·exact okr_bind (okr_name hL) (fun u s hu => okr_bind (Q:=fun k => ∃ u,OkT 1 u ∧ k = .mk 31 u 0 []) (okr_node ⟨_,hu,rfl⟩) (fun k s hk => okr_ok (.inr (by obtain ⟨u,h1,rfl⟩:=hk;exact ⟨u,h1,rfl⟩))))
   ·obtain ⟨o,a,b',e,h1,h2,h3⟩:=hb
    rw [e]
    exact okr_node ⟨_,o,a,b',ht,h1,h2,h3,rfl⟩
  case clsL l =>
   simp only [run]
   exact okr_if (fun _ => okr_bind (ih .cls _ trivial) (fun k s hk => ih (.clsL (l ++ [k])) s (mem_snoc hp hk))) (okr_ok hp)
theorem parse_ok (hL : ∀ t ∈ L,OkT t.kind t.text) (f : Nat) : OkR NOk (parseP L e f):=by
 unfold parseP
 refine okr_bind (Q:=NOk) (okr_bind (run_ok hL f (.clsL []) _ nil_ok) (fun l s hl => okr_bind okr_want (fun _ s _ => okr_bind (run_ok hL f .block s trivial) (fun b s hb => okr_if (fun _ => okr_no) (okr_node ⟨_,_,hl,hb,rfl⟩))))) (fun n s hn => okr_if (fun _ => okr_no) (okr_ok hn))
end
end Go.Proofs.YtbpldfmmlgkfnaaGreatDoor
