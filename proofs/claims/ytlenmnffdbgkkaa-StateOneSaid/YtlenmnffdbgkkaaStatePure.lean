/-
  States: the plain law: bytes, and what they are.
-/
import Derived.Test.YtlenmnffdbgkkaaHistPure
namespace Go.Vc
/-- A number in four bytes. -/
def putN (n : Int) : List Int := [n / 16777216 % 256, n / 65536 % 256, n / 256 % 256, n % 256]
/-- The number that bytes are. -/
def getN (b : List Int) : Int := b.foldl (fun x c => x * 256 + c) 0
theorem getN_putN {n : Int} (h : 0 ≤ n ∧ n < 4294967296) : getN (putN n) = n := by
  show (((0 * 256 + n / 16777216 % 256) * 256 + n / 65536 % 256) * 256 + n / 256 % 256) * 256 + n % 256 = n
  omega
theorem putN_len (n : Int) : (putN n).length = 4 := rfl
theorem putN_in (n : Int) : ∀ x ∈ putN n, 0 ≤ x ∧ x ≤ 255 := by
  intro x hx
  simp only [putN, List.mem_cons, List.not_mem_nil, or_false] at hx
  omega
theorem getN4 {b : List Int} (h : ∀ x ∈ b, 0 ≤ x ∧ x ≤ 255) (hl : b.length = 4) : 0 ≤ getN b ∧ getN b < 4294967296 := by
  match b, hl with
  | [a, b, c, d], _ =>
    have h1 := h a (by simp)
    have h2 := h b (by simp)
    have h3 := h c (by simp)
    have h4 := h d (by simp)
    show 0 ≤ (((0 * 256 + a) * 256 + b) * 256 + c) * 256 + d ∧ _
    show _ ∧ (((0 * 256 + a) * 256 + b) * 256 + c) * 256 + d < _
    omega
/-! ### Writing -/
def encE (e : E) : List Int := putN e.at_ ++ (putN e.old.length ++ e.old) ++ (putN e.new.length ++ e.new)
def encN (n : Nd) : List Int := putN n.par ++ putN n.cur ++ putN n.es.length ++ n.es.flatMap encE
def encM (m : Int × Int) : List Int := m.1 :: putN m.2
def encS (ns : List Nd) (cur : Int) (ms : List (Int × Int)) : List Int := putN ns.length ++ putN cur ++ (ns.drop 1).flatMap encN ++ ((ms.length : Int) :: ms.flatMap encM)
/-! ### Reading -/
abbrev Ps (α : Type) := List Int → Option (α × List Int)
def andThen {α β : Type} (p : Ps α) (q : α → Ps β) : Ps β := fun b => match p b with
  | none => none
  | some (a, r) => q a r
def done {α : Type} (a : α) : Ps α := fun b => some (a, b)
def takeP (n : Int) : Ps (List Int) := fun b => if (b.length : Int) < n then none else some (b.take n.toNat, b.drop n.toNat)
def numP : Ps Int := andThen (takeP 4) fun x => done (getN x)
def textP : Ps (List Int) := andThen numP takeP
def editP : Ps E := andThen numP fun a => andThen textP fun o => andThen textP fun n => done ⟨a, o, n⟩
def manyP {α : Type} (p : Ps α) : Nat → Ps (List α)
  | 0 => done []
  | k + 1 => andThen p fun x => andThen (manyP p k) fun l => done (x :: l)
def nodeP : Ps Nd := andThen numP fun a => andThen numP fun c => andThen numP fun k => andThen (manyP editP k.toNat) fun es => done ⟨a, es, c⟩
def markP : Ps (Int × Int) := andThen (takeP 1) fun c => andThen numP fun a => done (c.headD 0, a)
def marksP : Ps (List (Int × Int)) := andThen (takeP 1) fun c => manyP markP (c.headD 0).toNat
def treesP : Ps (Int × Int × List Nd) := andThen numP fun many => andThen numP fun now => andThen (manyP nodeP (many - 1).toNat) fun ns => done (many, now, ns)
def stateP : Ps ((Int × Int × List Nd) × List (Int × Int)) := andThen treesP fun t => andThen marksP fun ms => done (t, ms)
/-! ### What is read of so many bytes, and of fewer -/
def ExP {α : Type} (p : Ps α) : Prop := ∀ b v r, p b = some (v, r) → ∃ c, b = c ++ r ∧ (∀ r', p (c ++ r') = some (v, r')) ∧ ∀ k, k < c.length → p (c.take k) = none
theorem ex_done {α : Type} (a : α) : ExP (done a) := fun b v r h => by
  unfold done at h
  injection h with h
  injection h with h1 h2
  subst h1 h2
  exact ⟨[], rfl, fun _ => rfl, fun k hk => by simp at hk⟩
theorem ex_then {α β : Type} {p : Ps α} {q : α → Ps β} (hp : ExP p) (hq : ∀ a, ExP (q a)) : ExP (andThen p q) := fun b v r h => by
  unfold andThen at h
  cases hb : p b with
  | none => rw [hb] at h; cases h
  | some x =>
    obtain ⟨a, r1⟩ := x
    rw [hb] at h
    obtain ⟨c1, e1, f1, g1⟩ := hp b a r1 hb
    obtain ⟨c2, e2, f2, g2⟩ := hq a r1 v r h
    refine ⟨c1 ++ c2, by rw [e1, e2, List.append_assoc], fun r' => ?_, fun k hk => ?_⟩
    · unfold andThen
      rw [List.append_assoc, f1]
      exact f2 r'
    · unfold andThen
      rw [List.length_append] at hk
      by_cases hk1 : k < c1.length
      · rw [List.take_append_of_le_length (by omega), g1 k hk1]
      · rw [List.take_append, List.take_of_length_le (by omega), f1]
        exact g2 (k - c1.length) (by omega)
theorem ex_take (n : Int) : ExP (takeP n) := fun b v r h => by
  unfold takeP at h
  split at h
  · cases h
  · rename_i hn
    injection h with h
    injection h with h1 h2
    subst h1 h2
    have hl : (b.take n.toNat).length = n.toNat := by rw [List.length_take]; omega
    refine ⟨b.take n.toNat, (List.take_append_drop _ _).symm, fun r' => ?_, fun k hk => ?_⟩
    · unfold takeP
      rw [if_neg (by rw [List.length_append, hl]; omega), List.take_append_of_le_length (by omega), List.drop_append_of_le_length (by omega), List.take_of_length_le (by omega), List.drop_of_length_le (by omega)]
      rfl
    · unfold takeP
      rw [if_pos (by rw [List.length_take, hl]; omega)]
theorem ex_num : ExP numP := ex_then (ex_take 4) fun _ => ex_done _
theorem ex_text : ExP textP := ex_then ex_num ex_take
theorem ex_edit : ExP editP := ex_then ex_num fun _ => ex_then ex_text fun _ => ex_then ex_text fun _ => ex_done _
theorem ex_many {α : Type} {p : Ps α} (hp : ExP p) : ∀ k, ExP (manyP p k)
  | 0 => ex_done _
  | k + 1 => ex_then hp fun _ => ex_then (ex_many hp k) fun _ => ex_done _
theorem ex_node : ExP nodeP := ex_then ex_num fun _ => ex_then ex_num fun _ => ex_then ex_num fun k => ex_then (ex_many ex_edit k.toNat) fun _ => ex_done _
theorem ex_mark : ExP markP := ex_then (ex_take 1) fun _ => ex_then ex_num fun _ => ex_done _
theorem ex_marks : ExP marksP := ex_then (ex_take 1) fun _ => ex_many ex_mark _
theorem ex_tree : ExP treesP := ex_then ex_num fun _ => ex_then ex_num fun _ => ex_then (ex_many ex_node _) fun _ => ex_done _
theorem ex_state : ExP stateP := ex_then ex_tree fun _ => ex_then ex_marks fun _ => ex_done _
/-! ### What is written is read -/
def Reads {α : Type} (p : Ps α) (c : List Int) (v : α) : Prop := ∀ r, p (c ++ r) = some (v, r)
theorem reads_done {α : Type} (a : α) : Reads (done a) [] a := fun _ => rfl
theorem reads_then {α β : Type} {p : Ps α} {q : α → Ps β} {c d : List Int} {a : α} {v : β} (hp : Reads p c a) (hq : Reads (q a) d v) : Reads (andThen p q) (c ++ d) v := fun r => by
  unfold andThen
  rw [List.append_assoc, hp]
  exact hq r
theorem reads_take (c : List Int) {n : Int} (hn : n = c.length) : Reads (takeP n) c c := fun r => by
  subst hn
  unfold takeP
  rw [if_neg (by rw [List.length_append]; omega), Int.toNat_natCast, List.take_left, List.drop_left]
theorem reads_num {n : Int} (h : 0 ≤ n ∧ n < 4294967296) : Reads numP (putN n) n := by
  have : Reads numP (putN n ++ []) (getN (putN n)) := by
    unfold numP
    exact reads_then (reads_take (putN n) (n := 4) rfl) (reads_done _)
  rw [List.append_nil, getN_putN h] at this
  exact this
def Fits32 (n : Int) : Prop := 0 ≤ n ∧ n < 4294967296
theorem reads_text {t : List Int} (h : Fits32 t.length) : Reads textP (putN t.length ++ t) t := reads_then (reads_num h) (reads_take t rfl)
def FitsE (e : E) : Prop := Fits32 e.at_ ∧ Fits32 e.old.length ∧ Fits32 e.new.length
theorem reads_edit {e : E} (h : FitsE e) : Reads editP (encE e) e := by
  have : Reads editP (putN e.at_ ++ ((putN e.old.length ++ e.old) ++ ((putN e.new.length ++ e.new) ++ []))) e := by
    unfold editP
    exact reads_then (reads_num h.1) (reads_then (reads_text h.2.1) (reads_then (reads_text h.2.2) (reads_done _)))
  unfold encE
  rw [List.append_nil] at this
  rw [List.append_assoc]
  exact this
theorem reads_many {α : Type} {p : Ps α} {enc : α → List Int} : ∀ (l : List α), (∀ x ∈ l, Reads p (enc x) x) → Reads (manyP p l.length) (l.flatMap enc) l
  | [], _ => reads_done _
  | x :: l, h => by
    have := reads_then (q := fun x => andThen (manyP p l.length) fun l => done (x :: l)) (h x (by simp)) (reads_then (reads_many l fun y hy => h y (by simp [hy])) (reads_done (x :: l)))
    rw [List.append_nil] at this
    exact this
def FitsN (n : Nd) : Prop := Fits32 n.par ∧ Fits32 n.cur ∧ Fits32 n.es.length ∧ ∀ e ∈ n.es, FitsE e
theorem reads_node {n : Nd} (h : FitsN n) : Reads nodeP (encN n) n := by
  have hm : Reads (manyP editP ((n.es.length : Int)).toNat) (n.es.flatMap encE) n.es := by
    rw [Int.toNat_natCast]
    exact reads_many n.es fun e he => reads_edit (h.2.2.2 e he)
  have : Reads nodeP (putN n.par ++ (putN n.cur ++ (putN n.es.length ++ (n.es.flatMap encE ++ [])))) n := by
    unfold nodeP
    exact reads_then (reads_num h.1) (reads_then (reads_num h.2.1) (reads_then (reads_num h.2.2.1) (reads_then hm (reads_done _))))
  unfold encN
  rw [List.append_nil] at this
  rw [List.append_assoc, List.append_assoc]
  exact this
theorem reads_mark {m : Int × Int} (h : Fits32 m.2) : Reads markP (encM m) m := by
  have := reads_then (q := fun c : List Int => andThen numP fun a => done (c.headD 0, a)) (reads_take [m.1] (n := 1) rfl) (reads_then (reads_num h) (reads_done ([m.1].headD 0, m.2)))
  rw [List.append_nil] at this
  exact this
theorem reads_marks {ms : List (Int × Int)} (h : ∀ m ∈ ms, Fits32 m.2) : Reads marksP ((ms.length : Int) :: ms.flatMap encM) ms := by
  have hm : Reads (manyP markP (([(ms.length : Int)]).headD 0).toNat) (ms.flatMap encM) ms := by
    show Reads (manyP markP ((ms.length : Int)).toNat) _ _
    rw [Int.toNat_natCast]
    exact reads_many ms fun m hm => reads_mark (h m hm)
  exact reads_then (q := fun c : List Int => manyP markP (c.headD 0).toNat) (reads_take [(ms.length : Int)] (n := 1) rfl) hm
structure FitsS (ns : List Nd) (cur : Int) (ms : List (Int × Int)) : Prop where
  len : 1 ≤ ns.length ∧ ns.length < 4294967296
  cur : Fits32 cur
  nodes : ∀ n ∈ ns.drop 1, FitsN n
  marks : ∀ m ∈ ms, Fits32 m.2
theorem reads_state {ns : List Nd} {cur : Int} {ms : List (Int × Int)} (h : FitsS ns cur ms) : Reads stateP (encS ns cur ms) (((ns.length : Int), cur, ns.drop 1), ms) := by
  have hlen := h.len
  have hm : Reads (manyP nodeP (((ns.length : Int)) - 1).toNat) ((ns.drop 1).flatMap encN) (ns.drop 1) := by
    have : (((ns.length : Int)) - 1).toNat = (ns.drop 1).length := by rw [List.length_drop]; omega
    rw [this]
    exact reads_many _ fun n hn => reads_node (h.nodes n hn)
  have ht : Reads treesP (putN ns.length ++ (putN cur ++ ((ns.drop 1).flatMap encN ++ []))) ((ns.length : Int), cur, ns.drop 1) := by
    unfold treesP
    exact reads_then (reads_num ⟨by omega, by omega⟩) (reads_then (reads_num h.cur) (reads_then hm (reads_done _)))
  have : Reads stateP ((putN ns.length ++ (putN cur ++ ((ns.drop 1).flatMap encN ++ []))) ++ (((ms.length : Int) :: ms.flatMap encM) ++ [])) (((ns.length : Int), cur, ns.drop 1), ms) := by
    unfold stateP
    exact reads_then ht (reads_then (reads_marks h.marks) (reads_done _))
  rw [List.append_nil, List.append_nil] at this
  unfold encS
  rw [List.append_assoc (putN _) (putN _)]
  exact this
/-! ### What is read was written so -/
def FB (b : List Int) : Prop := ∀ x ∈ b, 0 ≤ x ∧ x ≤ 255
theorem FB.tail {c r : List Int} (h : FB (c ++ r)) : FB r := fun x hx => h x (List.mem_append_right _ hx)
theorem FB.head {c r : List Int} (h : FB (c ++ r)) : FB c := fun x hx => h x (List.mem_append_left _ hx)
theorem then_some {α β : Type} {p : Ps α} {q : α → Ps β} {b r : List Int} {v : β} (h : andThen p q b = some (v, r)) : ∃ a r1, p b = some (a, r1) ∧ q a r1 = some (v, r) := by
  unfold andThen at h
  cases hb : p b with
  | none => rw [hb] at h; cases h
  | some x => rw [hb] at h; exact ⟨x.1, x.2, rfl, h⟩
theorem done_some {α : Type} {a v : α} {b r : List Int} (h : done a b = some (v, r)) : a = v ∧ b = r := by
  unfold done at h
  injection h with h
  injection h with h1 h2
  exact ⟨h1, h2⟩
theorem back_take {n : Int} {b x r : List Int} (h : takeP n b = some (x, r)) (hn : 0 ≤ n) : b = x ++ r ∧ (x.length : Int) = n := by
  unfold takeP at h
  split at h
  · cases h
  · injection h with h
    injection h with h1 h2
    subst h1 h2
    exact ⟨(List.take_append_drop _ _).symm, by rw [List.length_take]; omega⟩
theorem putN_getN {x : List Int} (h : FB x) (hl : x.length = 4) : putN (getN x) = x := by
  match x, hl with
  | [a, b, c, d], _ =>
    have h1 := h a (by simp)
    have h2 := h b (by simp)
    have h3 := h c (by simp)
    have h4 := h d (by simp)
    show putN ((((0 * 256 + a) * 256 + b) * 256 + c) * 256 + d) = _
    unfold putN
    congr 1
    · omega
    congr 1
    · omega
    congr 1
    · omega
    congr 1
    omega
theorem back_num {b r : List Int} {n : Int} (hb : FB b) (h : numP b = some (n, r)) : b = putN n ++ r ∧ Fits32 n := by
  unfold numP at h
  obtain ⟨x, r1, h1, h2⟩ := then_some h
  obtain ⟨rfl, rfl⟩ := done_some h2
  obtain ⟨rfl, hl⟩ := back_take h1 (by decide)
  have hl : x.length = 4 := by omega
  exact ⟨by rw [putN_getN hb.head hl], getN4 hb.head hl⟩
theorem back_text {b r t : List Int} (hb : FB b) (h : textP b = some (t, r)) : b = (putN t.length ++ t) ++ r ∧ Fits32 t.length := by
  unfold textP at h
  obtain ⟨n, r1, h1, h2⟩ := then_some h
  obtain ⟨rfl, hn⟩ := back_num hb h1
  obtain ⟨rfl, hl⟩ := back_take h2 hn.1
  subst hl
  exact ⟨by rw [List.append_assoc], hn⟩
theorem back_edit {b r : List Int} {e : E} (hb : FB b) (h : editP b = some (e, r)) : b = encE e ++ r ∧ FitsE e := by
  unfold editP at h
  obtain ⟨a, r1, h1, i1⟩ := then_some h
  obtain ⟨rfl, ha⟩ := back_num hb h1
  obtain ⟨o, r2, h2, i2⟩ := then_some i1
  obtain ⟨rfl, ho⟩ := back_text hb.tail h2
  obtain ⟨n, r3, h3, i3⟩ := then_some i2
  obtain ⟨rfl, hn⟩ := back_text hb.tail.tail h3
  obtain ⟨rfl, rfl⟩ := done_some i3
  exact ⟨by unfold encE; simp only [List.append_assoc], ha, ho, hn⟩
theorem back_many {α : Type} {p : Ps α} {enc : α → List Int} {Q : α → Prop} (hp : ∀ b v r, FB b → p b = some (v, r) → b = enc v ++ r ∧ Q v) : ∀ (k : Nat) (b r : List Int) (l : List α), FB b → manyP p k b = some (l, r) → b = l.flatMap enc ++ r ∧ l.length = k ∧ ∀ v ∈ l, Q v
  | 0, b, r, l, hb, h => by
    obtain ⟨rfl, rfl⟩ := done_some h
    exact ⟨rfl, rfl, fun v hv => by cases hv⟩
  | k + 1, b, r, l, hb, h => by
    obtain ⟨x, r1, h1, i1⟩ := then_some h
    obtain ⟨rfl, hx⟩ := hp _ _ _ hb h1
    obtain ⟨l', r2, h2, i2⟩ := then_some i1
    obtain ⟨rfl, hl, hq⟩ := back_many hp k _ _ _ hb.tail h2
    obtain ⟨rfl, rfl⟩ := done_some i2
    refine ⟨by simp only [List.flatMap_cons, List.append_assoc], by simp [hl], fun v hv => ?_⟩
    rcases List.mem_cons.1 hv with rfl | hv
    · exact hx
    · exact hq v hv
theorem back_node {b r : List Int} {n : Nd} (hb : FB b) (h : nodeP b = some (n, r)) : b = encN n ++ r ∧ FitsN n := by
  unfold nodeP at h
  obtain ⟨a, r1, h1, i1⟩ := then_some h
  obtain ⟨rfl, ha⟩ := back_num hb h1
  obtain ⟨c, r2, h2, i2⟩ := then_some i1
  obtain ⟨rfl, hc⟩ := back_num hb.tail h2
  obtain ⟨k, r3, h3, i3⟩ := then_some i2
  obtain ⟨rfl, hk⟩ := back_num hb.tail.tail h3
  obtain ⟨es, r4, h4, i4⟩ := then_some i3
  obtain ⟨rfl, hl, hq⟩ := back_many (fun _ _ _ => back_edit) _ _ _ _ hb.tail.tail.tail h4
  obtain ⟨rfl, rfl⟩ := done_some i4
  have hkl : (es.length : Int) = k := by have := hk.1; omega
  subst hkl
  exact ⟨by unfold encN; simp only [List.append_assoc], ha, hc, hk, hq⟩
theorem back_one {b r x : List Int} (h : takeP 1 b = some (x, r)) : ∃ c, x = [c] ∧ b = c :: r := by
  obtain ⟨rfl, hl⟩ := back_take h (by decide)
  have hl : x.length = 1 := by omega
  match x, hl with
  | [c], _ => exact ⟨c, rfl, rfl⟩
theorem back_mark {b r : List Int} {m : Int × Int} (hb : FB b) (h : markP b = some (m, r)) : b = encM m ++ r ∧ ((0 ≤ m.1 ∧ m.1 ≤ 255) ∧ Fits32 m.2) := by
  unfold markP at h
  obtain ⟨x, r1, h1, i1⟩ := then_some h
  obtain ⟨c, rfl, rfl⟩ := back_one h1
  obtain ⟨a, r2, h2, i2⟩ := then_some i1
  have hb' : FB r1 := fun y hy => hb y (List.mem_cons_of_mem _ hy)
  obtain ⟨rfl, ha⟩ := back_num hb' h2
  obtain ⟨rfl, rfl⟩ := done_some i2
  exact ⟨rfl, hb c List.mem_cons_self, ha⟩
theorem back_marks {b r : List Int} {ms : List (Int × Int)} (hb : FB b) (h : marksP b = some (ms, r)) : b = ((ms.length : Int) :: ms.flatMap encM) ++ r ∧ (ms.length : Int) ≤ 255 ∧ ∀ m ∈ ms, (0 ≤ m.1 ∧ m.1 ≤ 255) ∧ Fits32 m.2 := by
  unfold marksP at h
  obtain ⟨x, r1, h1, i1⟩ := then_some h
  obtain ⟨c, rfl, rfl⟩ := back_one h1
  have hb' : FB r1 := fun y hy => hb y (List.mem_cons_of_mem _ hy)
  obtain ⟨rfl, hl, hq⟩ := back_many (fun _ _ _ => back_mark) _ _ _ _ hb' i1
  have hc := hb c List.mem_cons_self
  have hcl : c = (ms.length : Int) := by
    have : ms.length = c.toNat := hl
    omega
  rw [← hcl]
  exact ⟨rfl, hc.2, hq⟩
theorem back_state {b r : List Int} {many now : Int} {ns : List Nd} {ms : List (Int × Int)} (hb : FB b) (h : stateP b = some (((many, now, ns), ms), r)) :
    b = putN many ++ putN now ++ ns.flatMap encN ++ ((ms.length : Int) :: ms.flatMap encM) ++ r ∧ Fits32 many ∧ Fits32 now ∧ ns.length = (many - 1).toNat ∧ (∀ n ∈ ns, FitsN n) ∧ (ms.length : Int) ≤ 255 ∧ ∀ m ∈ ms, (0 ≤ m.1 ∧ m.1 ≤ 255) ∧ Fits32 m.2 := by
  unfold stateP treesP at h
  obtain ⟨⟨m', n', l'⟩, r1, h1, i1⟩ := then_some h
  obtain ⟨a, r2, h2, i2⟩ := then_some h1
  obtain ⟨rfl, ha⟩ := back_num hb h2
  obtain ⟨c, r3, h3, i3⟩ := then_some i2
  obtain ⟨rfl, hc⟩ := back_num hb.tail h3
  obtain ⟨l, r4, h4, i4⟩ := then_some i3
  obtain ⟨rfl, hl, hq⟩ := back_many (fun _ _ _ => back_node) _ _ _ _ hb.tail.tail h4
  obtain ⟨e1, rfl⟩ := done_some i4
  obtain ⟨ms', r5, h5, i5⟩ := then_some i1
  obtain ⟨rfl, hml, hmq⟩ := back_marks hb.tail.tail.tail h5
  obtain ⟨e2, rfl⟩ := done_some i5
  injection e1 with e1 e3
  injection e3 with e3 e4
  injection e2 with e2 e5
  injection e2 with e2 e6
  injection e6 with e6 e7
  subst e1 e3 e4 e2 e5 e6 e7
  exact ⟨by simp only [List.append_assoc], ha, hc, hl, hq, hml, hmq⟩
/-! ### May be written? -/
def placeOk (n : Int) : Prop := 0 ≤ n ∧ n ≤ 1048576
instance (n : Int) : Decidable (placeOk n) := inferInstanceAs (Decidable (_ ∧ _))
def nodeOk (n : Nd) : Prop := (∀ e ∈ n.es, placeOk e.at_) ∧ placeOk n.cur
instance (n : Nd) : Decidable (nodeOk n) := inferInstanceAs (Decidable (_ ∧ _))
def marksOk : Int → List (Int × Int) → Prop
  | _, [] => True
  | x, m :: r => x < m.1 ∧ m.1 ≤ 122 ∧ placeOk m.2 ∧ marksOk m.1 r
def marksDec : ∀ (x : Int) (l : List (Int × Int)), Decidable (marksOk x l)
  | _, [] => inferInstanceAs (Decidable True)
  | x, m :: r => @instDecidableAnd _ _ _ (@instDecidableAnd _ _ _ (@instDecidableAnd _ _ _ (marksDec m.1 r)))
instance (x : Int) (l : List (Int × Int)) : Decidable (marksOk x l) := marksDec x l
def writeOk (ns : List Nd) (ms : List (Int × Int)) : Prop := (∀ n ∈ ns, nodeOk n) ∧ marksOk 96 ms
instance (ns : List Nd) (ms : List (Int × Int)) : Decidable (writeOk ns ms) := inferInstanceAs (Decidable (_ ∧ _))
/-- What is wrong with writing; 0: nothing. -/
def encCode (ns : List Nd) (cur : Int) (ms : List (Int × Int)) : Int := if ¬ writeOk ns ms then 1 else if (encS ns cur ms).length > 1048576 then 3 else 0
def encOut (ns : List Nd) (cur : Int) (ms : List (Int × Int)) : List Int := if encCode ns cur ms = 0 then encS ns cur ms else []
theorem marksOk_len : ∀ (l : List (Int × Int)) (x : Int), marksOk x l → x ≤ 122 → (l.length : Int) ≤ 122 - x
  | [], x, _, hx => by simp; omega
  | m :: r, x, h, hx => by
    have := marksOk_len r m.1 h.2.2.2 h.2.1
    simp only [List.length_cons]
    have h1 := h.1
    omega
theorem marksOk_at : ∀ (l : List (Int × Int)) (x : Int), marksOk x l → ∀ m ∈ l, placeOk m.2 ∧ m.1 ≤ 122 ∧ x < m.1
  | m :: r, x, h, m', hm => by
    rcases List.mem_cons.1 hm with rfl | hm
    · exact ⟨h.2.2.1, h.2.1, h.1⟩
    · have := marksOk_at r m.1 h.2.2.2 m' hm
      have h1 := h.1
      exact ⟨this.1, this.2.1, by omega⟩
/-- What may be written, fits. -/
theorem fits_of {ns : List Nd} {cur : Int} {ms : List (Int × Int)} (hl : loadOk ns cur) (hm : Mods ns) (hw : writeOk ns ms) : FitsS ns cur ms := by
  obtain ⟨h1, h2, h3, h4, h5⟩ := hl
  refine ⟨⟨h1, by omega⟩, ⟨h3, by omega⟩, fun n hn => ?_, fun m hm => ?_⟩
  · obtain ⟨i, hi, e⟩ := List.getElem_of_mem hn
    rw [List.length_drop] at hi
    rw [List.getElem_drop] at e
    have hb := below h5 (k := 1 + i) (by omega) (by omega)
    rw [e] at hb
    have hn' : n ∈ ns := List.mem_of_mem_drop hn
    have hno := hw.1 n hn'
    have hmo := hm n hn'
    exact ⟨⟨hb.1, by omega⟩, ⟨hno.2.1, by have := hno.2.2; omega⟩, ⟨by omega, by have := hmo.1; omega⟩, fun e he => ⟨⟨(hno.1 e he).1, by have := (hno.1 e he).2; omega⟩, ⟨by omega, by have := (hmo.2 e he).1; omega⟩, ⟨by omega, by have := (hmo.2 e he).2; omega⟩⟩⟩
  · have := (marksOk_at ms 96 hw.2 m hm).1
    exact ⟨this.1, by have := this.2; omega⟩
/-! ### What bytes are -/
open Classical in
/-- What is wrong; 0: nothing, and nodes, current one, marks. -/
noncomputable def decS (b : List Int) : Int × List Nd × Int × List (Int × Int) :=
  if b = [] then (0, [rootN], 0, []) else match stateP b with
    | none => (2, [], 0, [])
    | some (((many, now, ns), ms), r) => if r ≠ [] then (3, [], 0, []) else if 1 ≤ many ∧ loadOk (rootN :: ns) now ∧ encCode (rootN :: ns) now ms = 0 ∧ encS (rootN :: ns) now ms = b then (0, rootN :: ns, now, ms) else (4, [], 0, [])
end Go.Vc
