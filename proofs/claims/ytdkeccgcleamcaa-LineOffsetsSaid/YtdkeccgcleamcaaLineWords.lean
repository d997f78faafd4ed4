/-
  Command lines: strings' bytes, the reader, addresses in memory.
-/
import Derived.Test.YtdkeccgcleamcaaWords2
import Derived.Lib.ConvBytes
namespace Go.Vc
open Go.RowKit
theorem brr {b : Bool} {A B : Prop} (h1 : b = true → A) (h2 : b = false → B) : Br b A B := ⟨h1, h2⟩
/-- A string's bytes. -/
def L (s : ByteArray) : List Int := s.data.toList.map fun b => (b.toNat : Int)
theorem L_len (s : ByteArray) : (L s).length = s.size := by unfold L; rw [List.length_map]; rfl
theorem L_inK (s : ByteArray) : ∀ x ∈ L s, InK .u8 x := fun x hx => by
  obtain ⟨b, _, rfl⟩ := List.mem_map.1 hx
  have := b.toNat_lt
  exact ⟨by show (0 : Int) ≤ _; omega, by show _ ≤ (255 : Int); omega⟩
theorem L_inj {s t : ByteArray} (h : L s = L t) : s = t := by
  have h2 : s.data.toList = t.data.toList := by
    have key : ∀ {a b : List UInt8}, a.map (fun b => (b.toNat : Int)) = b.map (fun b => (b.toNat : Int)) → a = b := by
      intro a
      induction a with
      | nil => intro b h; cases b with
        | nil => rfl
        | cons => simp at h
      | cons x r ih =>
        intro b h
        cases b with
        | nil => simp at h
        | cons y q =>
          simp only [List.map_cons, List.cons.injEq] at h
          rw [ih h.2]
          congr 1
          exact UInt8.toNat_inj.1 (by have := h.1; omega)
    exact key h
  cases s; cases t
  congr 1
  exact Array.toList_inj.1 h2
theorem L_eq (s t : ByteArray) : (s.toList == t.toList) = decide (L s = L t) := by
  rw [ByteArray.toList_eq, ByteArray.toList_eq, Bool.eq_iff_iff, beq_iff_eq, decide_eq_true_iff]
  constructor
  · intro h; unfold L; rw [h]
  · intro h; rw [L_inj h]
theorem L_sb {s : ByteArray} {i : Nat} (h : i < (L s).length) : sb s (i : Int) = (L s)[i] := by
  have h' : i < s.data.toList.length := by unfold L at h; rwa [List.length_map] at h
  have e : (L s)[i] = ((s.data.toList[i]'h').toNat : Int) := List.getElem_map _
  rw [e]
  unfold sb
  rw [Int.toNat_natCast, List.getD_eq_getElem?_getD, List.getElem?_eq_getElem h']
  rfl
theorem L_sub {s : ByteArray} {a b : Nat} (h : b ≤ s.size) : L (s.extract a b) = ((L s).take b).drop a := by
  unfold L
  rw [← List.map_take, ← List.map_drop]
  congr 1
  rw [ByteArray.data_extract, Array.toList_extract]
  rw [List.extract_eq_take_drop, List.drop_take]
theorem L_from {s : ByteArray} {a : Nat} : L (s.extract a s.size) = (L s).drop a := by rw [L_sub (Nat.le_refl _), ← L_len, List.take_length]
theorem L_upto {s : ByteArray} {b : Nat} (h : b ≤ s.size) : L (s.extract 0 b) = (L s).take b := by rw [L_sub h, List.drop_zero]
theorem L_append (s t : ByteArray) : L (s ++ t) = L s ++ L t := by
  unfold L
  rw [← List.map_append, ByteArray.data_append, Array.toList_append]
theorem L_nums {xs : List Int} (h : ∀ x ∈ xs, InK .u8 x) : L (strOfNums xs) = xs := by
  unfold L
  rw [strOfNums_data, List.map_map]
  conv => rhs; rw [← List.map_id xs]
  apply List.map_congr_left
  intro x hx
  have h1 : 0 ≤ x := (h x hx).1
  have h2 : x ≤ 255 := (h x hx).2
  show ((UInt8.ofNat x.toNat).toNat : Int) = x
  rw [UInt8.toNat_ofNat']
  omega
theorem L_nil : L ({ data := #[] } : ByteArray) = [] := rfl
/-- '[]byte(s)'. -/
theorem conv_bytes {P : Program} {src dst e : TypeId} (hs : P.underlying src = some .string) (hd : P.underlying dst = some (.slice e)) (he : P.underlying e = some (.int .u8)) (w : World) (s : ByteArray) :
    ∃ c w', (convert src dst (.string s)).run P w = .ok (.slice (some ⟨w.heap.size, 0, none⟩) s.size c) w' ∧ Ext w w' ∧ Ints .u8 w' (fun _ => True) (some ⟨w.heap.size, 0, none⟩) (L s) := by
  refine ⟨_, _, Lib.run_convert_string_bytes w src dst e s hs hd he, ⟨rfl, rfl, rfl, by rw [Lib.bytesWorld_size]; omega, fun k hk _ => Lib.bytesWorld_at_old w e s k hk⟩, fun i hi => ⟨_, 0, rfl, trivial, ?_, L_inK s _ (List.getElem_mem hi)⟩⟩
  have hi' : i < s.size := by rw [← L_len]; exact hi
  rw [Nat.zero_add, Nat.mul_one, Lib.bytesWorld_cell w e s i hi']
  have := L_sb hi
  unfold sb at this
  rw [Int.toNat_natCast] at this
  rw [← this]
/-! ### What a reader's text turns to -/
def Txt (w : World) (b : Nat) (xs : List Int) : Prop := ∃ s, L s = xs ∧ w.cell? ⟨b, 0, none⟩ = some (.string s)
/-- The text has gone on; the rest is as it was, but for blocks of which T holds. -/
structure Adv (T : Nat → Prop) (w w' : World) (b : Nat) (t : List Int) : Prop where
  txt : Txt w' b t
  upd : Upd (fun k => k = b ∨ T k) w w'
  oth : ∀ j, j ≠ 0 → w'.cell? ⟨b, j, none⟩ = w.cell? ⟨b, j, none⟩
  can : ∀ j, CanStore w b j → CanStore w' b j
abbrev NoT (_ : Nat) : Prop := False
theorem Adv.refl {T : Nat → Prop} {w : World} {b : Nat} {t : List Int} (h : Txt w b t) : Adv T w w b t := ⟨h, Upd.refl _ _, fun _ _ => rfl, fun _ h => h⟩
theorem Adv.mono {T U : Nat → Prop} {w w' : World} {b : Nat} {t : List Int} (h : Adv T w w' b t) (hu : ∀ k, T k → U k) : Adv U w w' b t := ⟨h.txt, h.upd.mono fun k _ hk => hk.imp id (hu k), h.oth, h.can⟩
theorem Adv.any {T : Nat → Prop} {w w' : World} {b : Nat} {t : List Int} (h : Adv NoT w w' b t) : Adv T w w' b t := h.mono fun _ e => e.elim
theorem Adv.trans {T : Nat → Prop} {w w' w'' : World} {b : Nat} {t u : List Int} (h : Adv T w w' b t) (k : Adv T w' w'' b u) : Adv T w w'' b u :=
  ⟨k.txt, Upd.then h.upd k.upd fun _ _ e => e, fun j hj => (k.oth j hj).trans (h.oth j hj), fun j hj => k.can j (h.can j hj)⟩
theorem Txt.ext {w w' : World} {b : Nat} {t : List Int} (h : Txt w b t) (x : Ext w w') : Txt w' b t := by obtain ⟨s, h1, h2⟩ := h; exact ⟨s, h1, x.cell h2⟩
theorem Txt.lt {w : World} {b : Nat} {t : List Int} (h : Txt w b t) : b < w.heap.size := by obtain ⟨s, h1, h2⟩ := h; exact World.block_lt_of_cell? w _ h2
theorem Adv.of_ext {T : Nat → Prop} {w w' : World} {b : Nat} {t : List Int} (h : Txt w b t) (x : Ext w w') : Adv T w w' b t :=
  ⟨h.ext x, Upd.mono x fun _ _ e => e.elim, fun j _ => World.cell?_of_block (a := ⟨b, j, none⟩) (x.block b h.lt id), fun j hj => x.can hj⟩
theorem Adv.store {T : Nat → Prop} {w w' : World} {b : Nat} {t : List Int} {s : ByteArray} (hc : CanStore w b 0) (hs : Stored w b 0 (.string s) w') (hl : L s = t) : Adv T w w' b t :=
  ⟨⟨s, hl, hs.cell hc⟩, hs.upd.mono fun _ _ e => .inl e, fun j hj => hs.other (.inr hj), fun j hj => hs.can hj⟩
/-- Another block is stored into. -/
theorem Adv.aside {T : Nat → Prop} {w w' : World} {b c o : Nat} {t : List Int} {v : Value} (h : Txt w b t) (hs : Stored w c o v w') (hne : c ≠ b) (hT : T c) : Adv T w w' b t := by
  obtain ⟨s, h1, h2⟩ := h
  exact ⟨⟨s, h1, (hs.other (.inl (Ne.symm hne))).trans h2⟩, hs.upd.mono fun k _ e => .inr (by rw [show k = c from e]; exact hT), fun j _ => hs.other (.inl (Ne.symm hne)), fun j hj => hs.can hj⟩
/-! ### Bytes, one after another -/
def tk (c : Int) : List Int → Bool
  | [] => false
  | x :: _ => x == c
def tkR (c : Int) (xs : List Int) : List Int := if tk c xs = true then xs.tail else xs
theorem span_eq {f : Int → Bool} : ∀ {i n : Nat} {xs : List Int}, i ≤ n → i ≤ xs.length → (∀ (j : Nat) (h : j < xs.length), j < i → f xs[j] = true) → (i = n ∨ i = xs.length ∨ ∃ h : i < xs.length, f xs[i] = false) → (xs.take n).takeWhile f = xs.take i
  | 0, n, xs, h1, h2, h3, h4 => by
    rcases h4 with rfl | h4 | ⟨h, h4⟩
    · simp
    · rw [List.length_eq_zero_iff.1 h4.symm]; simp
    · cases xs with
      | nil => simp
      | cons x r =>
        cases n with
        | zero => simp
        | succ n =>
          have h4 : f x = false := h4
          rw [List.take_succ_cons, List.takeWhile_cons, h4]; rfl
  | i + 1, n, xs, h1, h2, h3, h4 => by
    cases xs with
    | nil => simp at h2
    | cons x r =>
      cases n with
      | zero => omega
      | succ n =>
        have hx : f x = true := h3 0 (by simp) (by omega)
        rw [List.take_succ_cons, List.takeWhile_cons, hx, if_pos rfl, List.take_succ_cons]
        congr 1
        refine span_eq (by omega) (by simpa using h2) (fun j hj hji => by have := h3 (j + 1) (by simpa using hj) (by omega); exact this) ?_
        rcases h4 with h4 | h4 | ⟨h, h4⟩
        · exact .inl (by omega)
        · exact .inr (.inl (by simpa using h4))
        · exact .inr (.inr ⟨by simpa using h, h4⟩)
/-- The bytes that are so, at most so many. -/
def whileF (f : Int → Bool) (n : Nat) (xs : List Int) : List Int := (xs.take n).takeWhile f
theorem whileF_len (f : Int → Bool) (n : Nat) (xs : List Int) : (whileF f n xs).length ≤ n ∧ (whileF f n xs).length ≤ xs.length := by
  have h1 := (List.takeWhile_sublist f (l := xs.take n)).length_le
  rw [List.length_take] at h1
  unfold whileF
  omega
def figB (c : Int) : Bool := decide (48 ≤ c ∧ c ≤ 57)
def smallB (c : Int) : Bool := decide (97 ≤ c ∧ c ≤ 122)
def blankB (c : Int) : Bool := c == 32
def valF (ds : List Int) : Int := ds.foldl (fun n c => 10 * n + (c - 48)) 0
def numF (n : Int) (xs : List Int) : Int := if whileF figB 9 xs = [] then n else valF (whileF figB 9 xs)
def numR (xs : List Int) : List Int := xs.drop (whileF figB 9 xs).length
/-- An address. -/
structure A where
  kind : Int
  n : Int
  off : Int
  mark : Int
deriving DecidableEq
def AddrV (_ : World) (_ : Nat → Prop) (vs : List Value) (a : A) : Prop := vs = [.int .u8 a.kind, .int .i64 a.n, .int .i64 a.off, .int .u8 a.mark] ∧ InK .u8 a.kind ∧ InK .i64 a.n ∧ InK .i64 a.off ∧ InK .u8 a.mark
theorem AddrV.stable : StableV AddrV := fun _ _ _ _ _ _ _ _ h => h
theorem AddrV.widens : WidensV AddrV := fun _ _ _ _ _ _ h => h
abbrev Addrs (w : World) (ok : Nat → Prop) (p : Option Addr) (xs : List A) : Prop := RS 4 (ElemC AddrV) w ok p xs
theorem Addrs.at {w : World} {ok : Nat → Prop} {p : Option Addr} {xs : List A} (h : Addrs w ok p xs) (i : Nat) (hi : i < xs.length) :
    ∃ b o, p = some ⟨b, o, none⟩ ∧ ok b ∧ w.cell? ⟨b, o + i * 4, none⟩ = some (.int .u8 xs[i].kind) ∧ w.cell? ⟨b, o + i * 4 + 1, none⟩ = some (.int .i64 xs[i].n) ∧ w.cell? ⟨b, o + i * 4 + 2, none⟩ = some (.int .i64 xs[i].off) ∧
      w.cell? ⟨b, o + i * 4 + 3, none⟩ = some (.int .u8 xs[i].mark) ∧ InK .u8 xs[i].kind ∧ InK .i64 xs[i].n ∧ InK .i64 xs[i].off ∧ InK .u8 xs[i].mark := by
  obtain ⟨b, o, hp, hb, _, vs, ⟨rfl, h1, h2, h3, h4⟩, hc⟩ := h i hi
  exact ⟨b, o, hp, hb, hc 0 _ rfl, hc 1 _ rfl, hc 2 _ rfl, hc 3 _ rfl, h1, h2, h3, h4⟩
theorem Addrs.ext {w w' : World} {ok : Nat → Prop} {p : Option Addr} {xs : List A} (h : Addrs w ok p xs) (hu : Ext w w') : Addrs w' ok p xs := RS.ext (ElemC.stable AddrV.stable) h hu
theorem fill4 {w w1 : World} {b : Nat} {p q r s x y z u : Value} {T : TypeId} (h : NewBlk w b [p, q, r, s] T w1) {G : World → Prop} (k : ∀ w2, NewBlk w b [x, y, z, u] T w2 → G w2) :
    CanStore w1 b 0 ∧ ∀ ws, Stored w1 b 0 x ws → CanStore ws b 1 ∧ ∀ ws1, Stored ws b 1 y ws1 → CanStore ws1 b 2 ∧ ∀ ws2, Stored ws1 b 2 z ws2 → CanStore ws2 b 3 ∧ ∀ ws3, Stored ws2 b 3 u ws3 → G ws3 :=
  ⟨h.can 0 (by simp), fun ws s0 => have h0 := h.store s0; ⟨h0.can 1 (by simp), fun ws1 s1 => have h1 := h0.store s1; ⟨h1.can 2 (by simp), fun ws2 s2 => have h2 := h1.store s2; ⟨h2.can 3 (by simp), fun ws3 s3 => k _ (h2.store s3)⟩⟩⟩⟩
/-- A reader: its text; the command so far; what it has made lies behind base. -/
structure Rd (N : TypeId) (w : World) (b base : Nat) (xs : List Int) (al : List A) (name : List Int) (bang : Bool) (arg : List Int) : Prop where
  txt : Txt w b xs
  row : ∃ p c, w.cell? ⟨b, 1, none⟩ = some (.slice p al.length c) ∧ OwnL AddrV w base N 4 p al.length c al
  nm : ∃ s, L s = name ∧ w.cell? ⟨b, 2, none⟩ = some (.string s)
  bg : w.cell? ⟨b, 3, none⟩ = some (.bool bang)
  ar : ∃ s, L s = arg ∧ w.cell? ⟨b, 4, none⟩ = some (.string s)
  can : ∀ j, j < 5 → CanStore w b j
  lt : b < base
  le : base ≤ w.heap.size
theorem OwnL.upd {α : Type} {RV : World → (Nat → Prop) → List Value → α → Prop} (hs : StableV RV) (hw : WidensV RV) {w w' : World} {T : Nat → Prop} {base : Nat} {N : TypeId} {sz : Nat} {p : Option Addr} {l c : Nat} {xs : List α}
    (h : OwnL RV w base N sz p l c xs) (hu : Upd T w w') (ht : ∀ k, base ≤ k → k < w.heap.size → ¬ T k) : OwnL RV w' base N sz p l c xs := by
  obtain ⟨vss, ho, ha⟩ := h
  refine ⟨vss, ho.upd hu fun a e => ht _ (ho.base e).1 (ho.base e).2, ha.imp fun vs x ⟨h1, h2⟩ => ⟨h1, ?_⟩⟩
  exact hw _ _ _ _ _ (fun k hk ⟨a1, a2, a3⟩ => ⟨a1, hk, a3⟩) (hs _ _ _ _ _ _ hu (fun k hk => ht k hk.1 hk.2.1) h2)
theorem Rd.adv {N : TypeId} {T : Nat → Prop} {w w' : World} {b base : Nat} {xs t : List Int} {al : List A} {name : List Int} {bang : Bool} {arg : List Int} (h : Rd N w b base xs al name bang arg) (k : Adv T w w' b t) (hT : ∀ g, g < w.heap.size → ¬ T g) : Rd N w' b base t al name bang arg := by
  obtain ⟨p, c, h1, h2⟩ := h.row
  obtain ⟨s2, h3, h4⟩ := h.nm
  obtain ⟨s4, h5, h6⟩ := h.ar
  have hl := h.lt
  exact ⟨k.txt, ⟨p, c, (k.oth 1 (by decide)).trans h1, h2.upd AddrV.stable AddrV.widens k.upd fun g hg hlt e => e.elim (fun e => by omega) (hT g hlt)⟩, ⟨s2, h3, (k.oth 2 (by decide)).trans h4⟩, (k.oth 3 (by decide)).trans h.bg, ⟨s4, h5, (k.oth 4 (by decide)).trans h6⟩, fun j hj => k.can j (h.can j hj), hl, Nat.le_trans h.le k.upd.size⟩
theorem Rd.ext {N : TypeId} {w w' : World} {b base : Nat} {xs : List Int} {al : List A} {name : List Int} {bang : Bool} {arg : List Int} (h : Rd N w b base xs al name bang arg) (x : Ext w w') : Rd N w' b base xs al name bang arg := h.adv (T := NoT) (Adv.of_ext h.txt x) fun _ _ => id
/-- What a reader may turn. -/
def RFr (b base k : Nat) : Prop := k = b ∨ base ≤ k
theorem Adv.fr {T : Nat → Prop} {w w' : World} {b base : Nat} {t : List Int} (h : Adv T w w' b t) (hT : ∀ k, T k → base ≤ k) : Upd (RFr b base) w w' := h.upd.mono fun k _ e => e.imp id (hT k)
theorem Adv.fr0 {w w' : World} {b base : Nat} {t : List Int} (h : Adv NoT w w' b t) : Upd (RFr b base) w w' := h.fr fun _ e => e.elim
/-! ### What an address is -/
theorem tk_len {c : Int} {xs : List Int} (h : tk c xs = true) : xs.tail.length < xs.length := by
  cases xs with
  | nil => simp [tk] at h
  | cons => simp
theorem numR_len (xs : List Int) : (numR xs).length ≤ xs.length := by unfold numR; rw [List.length_drop]; omega
def offF (off : Int) (xs : List Int) : Int × List Int :=
  if h : tk 43 xs = true then offF (off + numF 1 xs.tail) (numR xs.tail)
  else if h : tk 45 xs = true then offF (off - numF 1 xs.tail) (numR xs.tail)
  else (off, xs)
termination_by xs.length
decreasing_by
  · have := tk_len h; have := numR_len xs.tail; omega
  · have := tk_len h; have := numR_len xs.tail; omega
theorem offF_plus {off : Int} {xs : List Int} (h : tk 43 xs = true) : offF off xs = offF (off + numF 1 xs.tail) (numR xs.tail) := by rw [offF, dif_pos h]
theorem offF_minus {off : Int} {xs : List Int} (h : ¬ tk 43 xs = true) (h2 : tk 45 xs = true) : offF off xs = offF (off - numF 1 xs.tail) (numR xs.tail) := by rw [offF, dif_neg h, dif_pos h2]
theorem offF_end {off : Int} {xs : List Int} (h : ¬ tk 43 xs = true) (h2 : ¬ tk 45 xs = true) : offF off xs = (off, xs) := by rw [offF, dif_neg h, dif_neg h2]
/-- An address's head: none: it is spoilt; some none: there is none. -/
def headF (xs : List Int) : Option (Option (A × List Int)) :=
  match xs with
  | [] => some none
  | x :: t =>
    if figB x = true then some (some (⟨110, numF 0 xs, 0, 0⟩, numR xs))
    else if x = 46 then some (some (⟨46, 0, 0, 0⟩, t))
    else if x = 36 then some (some (⟨36, 0, 0, 0⟩, t))
    else if x = 39 then (match t with | [] => none | c :: r => if smallB c = true then some (some (⟨109, 0, 0, c⟩, r)) else none)
    else some none
def addrF (xs : List Int) : Option (Option (A × List Int)) :=
  match headF xs with
  | none => none
  | some none => some none
  | some (some (a, r)) => some (some ({ a with off := (offF 0 r).1 }, (offF 0 r).2))
theorem valF_snoc (l : List Int) (c : Int) : valF (l ++ [c]) = 10 * valF l + (c - 48) := by unfold valF; rw [List.foldl_append]; rfl
theorem foldB : ∀ (l : List Int) (acc : Int), 0 ≤ acc → (∀ c ∈ l, figB c = true) → 0 ≤ l.foldl (fun n c => 10 * n + (c - 48)) acc ∧ l.foldl (fun n c => 10 * n + (c - 48)) acc < (acc + 1) * ((10 ^ l.length : Nat) : Int)
  | [], acc, h, _ => by simp; omega
  | c :: r, acc, h, hf => by
    have hc := hf c List.mem_cons_self
    unfold figB at hc
    have hc := of_decide_eq_true hc
    obtain ⟨h1, h2⟩ := foldB r (10 * acc + (c - 48)) (by omega) fun x hx => hf x (List.mem_cons_of_mem _ hx)
    rw [List.foldl_cons, List.length_cons, Nat.pow_succ]
    refine ⟨h1, Int.lt_of_lt_of_le h2 ?_⟩
    have h3 : (10 * acc + (c - 48) + 1) * ((10 ^ r.length : Nat) : Int) ≤ ((acc + 1) * 10) * ((10 ^ r.length : Nat) : Int) := Int.mul_le_mul_of_nonneg_right (by omega) (Int.natCast_nonneg _)
    rw [Int.natCast_mul, Int.mul_comm (((10 ^ r.length : Nat) : Int)), ← Int.mul_assoc]
    exact h3
theorem valF_bd {l : List Int} (hf : ∀ c ∈ l, figB c = true) (h : l.length ≤ 9) : 0 ≤ valF l ∧ valF l < 1000000000 := by
  obtain ⟨h1, h2⟩ := foldB l 0 (Int.le_refl _) hf
  refine ⟨h1, Int.lt_of_lt_of_le h2 ?_⟩
  have : (10 : Nat) ^ l.length ≤ 10 ^ 9 := Nat.pow_le_pow_right (by decide) h
  have h9 : (10 : Nat) ^ 9 = 1000000000 := by decide
  omega
theorem takeWhile_all {f : Int → Bool} : ∀ {l : List Int}, ∀ c ∈ l.takeWhile f, f c = true
  | [], c, h => by simp at h
  | x :: r, c, h => by
    rw [List.takeWhile_cons] at h
    split at h
    · rename_i hx
      rcases List.mem_cons.1 h with rfl | h
      · exact hx
      · exact takeWhile_all c h
    · cases h
theorem while_all {f : Int → Bool} {n : Nat} {xs : List Int} : ∀ c ∈ whileF f n xs, f c = true := takeWhile_all
theorem numF_bd {n : Int} {xs : List Int} (h : 0 ≤ n ∧ n ≤ 1) : 0 ≤ numF n xs ∧ numF n xs < 1000000000 := by
  unfold numF
  split
  · omega
  · exact valF_bd while_all (whileF_len figB 9 xs).1
end Go.Vc
