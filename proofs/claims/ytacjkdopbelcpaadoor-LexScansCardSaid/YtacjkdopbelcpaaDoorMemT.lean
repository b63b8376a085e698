/- Rows of tokens of one's own; tokens that lie in memory. Conditions: none. -/
import Derived.Test.YtacjkdopbelcpaaDoorMem
import Derived.Test.YtacjkdopbelcpaaDoorLxSpec2
namespace Go.Proofs.YtacjkdopbelcpaaDoor
open Go.RowKit
set_option linter.unusedVariables false

/-- The cells of a token; of tokens. -/
def tokV (t : Tok) : List Value := [.int .i64 t.kind, .string t.text, .int .i64 (t.at_ : Nat)]
def toksV : List Tok → List Value
  | [] => []
  | t :: l => tokV t ++ toksV l
theorem toksV_len : ∀ l : List Tok, (toksV l).length = l.length * 3
  | [] => rfl
  | t :: l => by
    show (tokV t ++ toksV l).length = _
    rw [List.length_append, toksV_len l, List.length_cons]
    show 3 + l.length * 3 = _; omega
theorem toksV_snoc : ∀ (l : List Tok) (t : Tok), toksV (l ++ [t]) = toksV l ++ tokV t
  | [], t => rfl
  | a :: l, t => by
    show tokV a ++ toksV (l ++ [t]) = tokV a ++ toksV l ++ tokV t
    rw [toksV_snoc l t, List.append_assoc]
theorem toksV_get : ∀ (l : List Tok) (i j : Nat) (hi : i < l.length), j < 3 → (toksV l)[i * 3 + j]? = (tokV l[i])[j]?
  | t :: l, 0, j, _, hj => by
    show (tokV t ++ toksV l)[0 * 3 + j]? = _
    rw [List.getElem?_append_left (by show 0 * 3 + j < 3; omega)]
    simp
  | t :: l, i + 1, j, hi, hj => by
    show (tokV t ++ toksV l)[(i + 1) * 3 + j]? = _
    rw [List.getElem?_append_right (by show 3 ≤ _; omega)]
    rw [show (i + 1) * 3 + j - (tokV t).length = i * 3 + j by show (i + 1) * 3 + j - 3 = _; omega]
    exact toksV_get l i j (by simpa using hi) hj
/-- Tokens that lie in memory. -/
def Toks (w : World) (A : Option Addr) (l : List Tok) : Prop := 0 < l.length → ∃ b o, A = some ⟨b, o, none⟩ ∧ b < w.heap.size ∧ ∀ i (hi : i < l.length), w.cell? ⟨b, o + i * 3, none⟩ = some (.int .i64 l[i].kind) ∧ w.cell? ⟨b, o + i * 3 + 1, none⟩ = some (.string l[i].text) ∧ w.cell? ⟨b, o + i * 3 + 2, none⟩ = some (.int .i64 (l[i].at_ : Nat))
theorem Toks.below {w w' : World} {A : Option Addr} {l : List Tok} (h : Toks w A l) (hb : Below w.heap.size w w') : Toks w' A l := fun hl => by
  obtain ⟨b, o, e, hlt, hc⟩ := h hl
  refine ⟨b, o, e, Nat.lt_of_lt_of_le hlt hb.size, fun i hi => ?_⟩
  obtain ⟨h1, h2, h3⟩ := hc i hi
  exact ⟨(hb.cell (p := ⟨b, o + i * 3, none⟩) hlt).trans h1, (hb.cell (p := ⟨b, o + i * 3 + 1, none⟩) hlt).trans h2, (hb.cell (p := ⟨b, o + i * 3 + 2, none⟩) hlt).trans h3⟩
def OwnT (w : World) (base : Nat) (v : Value) (l : List Tok) : Prop := w.ownsRow base 29 3 v l.length (toksV l)
theorem OwnT.nil (w : World) (base : Nat) : OwnT w base (.slice none 0 0) [] := World.ownsRow_nil w base 29 3
theorem OwnT.alloc {w : World} {base : Nat} {v : Value} {l : List Tok} (h : OwnT w base v l) (o : Obj) : OwnT (w.alloc o) base v l := World.ownsRow.alloc h o
theorem OwnT.lt {w : World} {base : Nat} {v : Value} {l : List Tok} (h : OwnT w base v l) : ∀ k, v.ownBlock = some k → base ≤ k ∧ k < w.heap.size := World.ownsRow.lt h
theorem OwnT.grown {w w' : World} {base : Nat} {v : Value} {l : List Tok} {r : Option Nat} (h : OwnT w base v l) (hg : w.grownBy w' r) (hne : v.ownBlock = none ∨ v.ownBlock ≠ r) : OwnT w' base v l := World.ownsRow.kept h hg hne
theorem OwnT.toks {w : World} {base : Nat} {v : Value} {l : List Tok} (h : OwnT w base v l) : ∃ C c, v = .slice C l.length c ∧ Toks w C l ∧ (∀ a, C = some a → base ≤ a.block) := by
  rcases h.2 with ⟨rfl, h0⟩ | ⟨g, cap, cur, rfl, hb, hh, hn, _, hc, ht⟩
  · exact ⟨none, 0, by rw [h0], fun hx => by omega, fun a ha => by cases ha⟩
  · refine ⟨_, cap, rfl, fun hx => ⟨g, 0, rfl, (Array.getElem?_eq_some_iff.1 hh).1, fun i hi => ?_⟩, fun a ha => by cases ha; exact hb⟩
    have hk : ∀ j, j < 3 → w.cell? ⟨g, 0 + i * 3 + j, none⟩ = (tokV l[i])[j]? := fun j hj => by
      rw [Nat.zero_add, cell_of_row w g (i * 3 + j) cur 29 (0, 0) hh]
      have : (cur.toList.take (l.length * 3))[i * 3 + j]? = (tokV l[i])[j]? := by rw [ht]; exact toksV_get l i j hi hj
      rw [List.getElem?_take, if_pos (by omega)] at this
      simpa using this
    exact ⟨hk 0 (by omega), hk 1 (by omega), hk 2 (by omega)⟩
theorem infoT : (Tryd.prog.info? 29).map (fun i => (i.zero, i.size, i.bytes)) = some (some (.agg #[.int .i64 0, .string ByteArray.empty, .int .i64 0]), 3, 32) := by kernel_rfl
theorem wpList_pushT {w : World} {ops : Array Oper} {rest : List Oper} {o : Oper} {a : Act} {Q : Exit → Act → World → Prop} (hgd : o.guard = none) (s x : Operand)
    (ho : o.op = .call { callee := .builtin .append, args := #[s, x], argTypes := #[22, 22] }) (base : Nat) (v : Value) (l : List Tok) (hs : a.eval s = v) (hown : OwnT w base v l) (t : Tok)
    (ad : Addr) (c : Nat) (hx : a.eval x = .slice (some ad) 1 c) (hc : ∀ j u, (tokV t)[j]? = some u → w.cell? (ad.add j) = some u) (hlen : l.length ≤ 1000000) (hbase : base ≤ w.heap.size)
    (h : ∀ v' w', OwnT w' base v' (l ++ [t]) → w.grownBy w' v.ownBlock → wpList Tryd.prog ops Q rest (a.put o.dst v') w') :
    wpList Tryd.prog ops Q (o :: rest) a w := by
  obtain ⟨i, hi, hz0, hz1, hz2⟩ := info_parts infoT
  refine wpList_append_own w hgd s x 22 ho base 29 i (.agg #[.int .i64 0, .string ByteArray.empty, .int .i64 0]) 3 32 Tryd.underlying22 hi hz0 hz1 hz2 rfl (by decide) v l.length _ hs hown ad 1 c (tokV t) hx rfl hc ?_ ?_ ?_ hbase ?_
  · intro u hu
    simp only [tokV, List.mem_cons, List.not_mem_nil, or_false] at hu
    rcases hu with rfl | rfl | rfl <;> rfl
  · simp only [maxLen]; omega
  · omega
  · intro v' w' h1 h2 _
    refine h v' w' ?_ h2
    unfold OwnT; rw [toksV_snoc, List.length_append]; exact h1
theorem tok_news (w : World) (t : Tok) : ∀ j u, (tokV t)[j]? = some u → (w.alloc (.cells #[.int .i64 t.kind, .string t.text, .int .i64 (t.at_ : Nat)] 29)).cell? ((⟨w.heap.size, 0, none⟩ : Addr).add j) = some u := by
  intro j u hj
  have e : ((⟨w.heap.size, 0, none⟩ : Addr).add j) = ⟨w.heap.size, j, none⟩ := by
    unfold Addr.add
    split
    · rename_i h; subst h; rfl
    · simp
  rw [e, cell_new, ← hj]
  simp [tokV]
end Go.Proofs.YtacjkdopbelcpaaDoor
