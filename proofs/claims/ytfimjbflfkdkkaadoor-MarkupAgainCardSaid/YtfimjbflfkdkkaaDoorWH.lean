/- Elements, plain: written, read, and that what is written is read. -/
import Derived.Test.YtfimjbflfkdkkaaDoorWG
import Derived.Lib.ValidLaws
/- Elements, plain: what is written, what is read. -/
namespace Go.Run.Tryd
open Go Go.Run

inductive El where
  | mk (page : Int) (name text : List UInt8) (op : Bool) (kids : List El)

/-! As values. -/
mutual
def elC : El → List DV
  | .mk p n t o ks => [.int .i64 p, .str n, .str t, .bool o, .lst (elsC ks) ks.length 5 none]
def elsC : List El → List DV
  | [] => []
  | k :: ks => elC k ++ elsC ks
end

theorem elC_length : ∀ (e : El), (elC e).length = 5
  | .mk _ _ _ _ _ => rfl

theorem elsC_length : ∀ (ks : List El), (elsC ks).length = ks.length * 5
  | [] => rfl
  | k :: ks => by rw [elsC, List.length_append, elC_length, elsC_length ks, List.length_cons]; omega

theorem elsC_append : ∀ (a b : List El), elsC (a ++ b) = elsC a ++ elsC b
  | [], b => rfl
  | k :: a, b => by rw [List.cons_append, elsC, elsC, elsC_append a b, List.append_assoc]

/-! Sizes. -/
mutual
def dp : El → Nat
  | .mk _ _ _ _ ks => 1 + dps ks
def dps : List El → Nat
  | [] => 0
  | k :: ks => max (dp k) (dps ks)
end
mutual
/-- An element and all within it, each ahead of its kids, down to a depth. -/
def pre (m : Nat) : El → Nat → List (Nat × El)
  | .mk p n t o ks, d => bif Nat.blt m d then [] else (d, .mk p n t o ks) :: pres m ks (d + 1)
def pres (m : Nat) : List El → Nat → List (Nat × El)
  | [], _ => []
  | k :: ks, d => pre m k d ++ pres m ks d
end

/-! Letters of six bits. -/
def letters64 : List UInt8 := [65, 66, 67, 68, 69, 70, 71, 72, 73, 74, 75, 76, 77, 78, 79, 80, 81, 82, 83, 84, 85, 86, 87, 88, 89, 90, 97, 98, 99, 100, 101, 102, 103, 104, 105, 106, 107, 108, 109, 110, 111, 112, 113, 114, 115, 116, 117, 118, 119, 120, 121, 122, 48, 49, 50, 51, 52, 53, 54, 55, 56, 57, 43, 47]
def lt64 (k : Nat) : UInt8 := letters64.getD k 0
/-- What n bytes of three say. -/
def encW (w n : Nat) : List UInt8 := [lt64 (w / 262144 % 64), lt64 (w / 4096 % 64), bif Nat.blt n 2 then 61 else lt64 (w / 64 % 64), bif Nat.blt n 3 then 61 else lt64 (w % 64)]
def word3 (a b c : UInt8) : Nat := a.toNat * 65536 + b.toNat * 256 + c.toNat
def encF : List UInt8 → List UInt8
  | [] => []
  | [a] => encW (word3 a 0 0) 1
  | [a, b] => encW (word3 a b 0) 2
  | a :: b :: c :: l => encW (word3 a b c) 3 ++ encF l

def at64 (c : UInt8) : Int := Lib.indexByte letters64 c
def bytes3 (w : Nat) : List UInt8 := [UInt8.ofNat (w / 65536), UInt8.ofNat (w / 256), UInt8.ofNat w]
def decGo : List UInt8 → List UInt8 → Nat → Nat → Nat → Bool → List UInt8 × Int
  | [], b, _, n, _, odd => bif !(n == 0) then ([], 1) else bif odd then ([], 3) else (b, 0)
  | c :: l, b, w, n, g, odd =>
    bif isWs c then decGo l b w n g odd else
    bif decide (at64 c < 0) && !(c == 61) then ([], 3) else
    bif decide (0 < g) && n == 0 then ([], 6) else
    bif (c == 61 && decide (n < 2)) || (!(c == 61) && decide (0 < g)) then ([], 3) else
    let g' := bif c == 61 then g + 1 else g
    let w' := w * 64 % 4294967296 ||| (bif c == 61 then 0 else (at64 c).toNat)
    bif decide (n + 1 < 4) then decGo l b w' (n + 1) g' odd else
    decGo l (b ++ (bytes3 w').take (3 - g')) 0 0 g' (odd || !(w' % 2 ^ (8 * g') == 0))
def decF (s : List UInt8) : List UInt8 × Int := decGo s [] 0 0 0 false

/-! What is wrong with an element. -/
def shownF (t : List UInt8) : Bool := Lib.validD t && !(t.any isCtl)
def check1 : El → Int
  | .mk p n t o ks =>
    bif decide (p < 0) || decide (p ≥ 3) then 5 else bif !isName n then 14 else bif decide (((ks.length : Nat) : Int) > 200) then 4 else
    bif decide (((ks.length : Nat) : Int) > 0) && !(t == []) then 7 else bif decide (((t.length : Nat) : Int) > 4000) then 8 else
    bif (o && t == []) || (!o && !shownF t) then 3 else 0
def firstErr : List (Nat × El) → Int
  | [] => 0
  | p :: l => bif check1 p.2 == 0 then firstErr l else check1 p.2
/-- The elements that are looked at. -/
def looked (e : El) : List (Nat × El) := (pre 13 e 1).take 5000
def weightF (e : El) : Nat := ((pre 5000 e 1).take 5000).length
def checkF (e : El) : Int := bif (looked e).any (fun p => decide (12 < p.1)) then 9 else bif decide (2000 < weightF e) then 4 else firstErr (looked e)

/-! What is written. -/
def spaceMark : List UInt8 := [120, 109, 108, 110, 115, 61, 34]
def codeMark : List UInt8 := [101, 110, 99, 61, 34]
def b64 : List UInt8 := [98, 54, 52]
def rawM : List UInt8 := [60, 33, 91, 67, 68, 65, 84, 65, 91]
def rawEnd : List UInt8 := [93, 93, 62]
def remM : List UInt8 := [60, 33, 45, 45]
def remEnd : List UInt8 := [45, 45, 62]
def headF : List UInt8 := [60, 63, 120, 109, 108, 32, 118, 101, 114, 115, 105, 111, 110, 61, 34, 49, 46, 48, 34, 63, 62]
def headB : List UInt8 := [60, 63, 120, 109, 108]
def headE : List UInt8 := [63, 62]

mutual
def putF (pg : Int) : El → List UInt8
  | .mk p n t o ks =>
    let text := bif o then encF t else esc t
    [60] ++ n ++ (bif p == pg then [] else [32] ++ spaceMark ++ spaceOf p ++ [34]) ++ (bif o then [32] ++ codeMark ++ b64 ++ [34] else []) ++
      (bif text == [] && Nat.beq ks.length 0 then [47, 62] else [62] ++ text ++ putsF p ks ++ [60, 47] ++ n ++ [62])
def putsF (pg : Int) : List El → List UInt8
  | [] => []
  | k :: ks => putF pg k ++ putsF pg ks
end
def docF (e : El) : List UInt8 := headF ++ putF 0 e
/-- Write: a text, and what is wrong. -/
def writeF (e : El) : List UInt8 × Int := bif !(checkF e == 0) then ([], checkF e) else bif decide ((((docF e).length : Nat) : Int) > 12000) then ([], 8) else (docF e, 0)

/-! What is read. -/
def uptoF (s t : List UInt8) (i : Nat) : RES (List UInt8 × Nat) :=
  match cutO t (s.drop i) with
  | some p => .ok (p.1, i + (p.1.length + t.length))
  | none => .error ((s.length : Nat), 1)

def attrsF (s : List UInt8) : Nat → Nat → Int → Bool → Bool → RES (Bool × Nat × Int × Bool)
  | 0, _, _, _, _ => .error (0, 0)
  | f + 1, i, pg, nm, by_ =>
    let j := i + wsN (s.drop i)
    bif List.isPrefixOf [47, 62] (s.drop j) then .ok (true, j + 2, pg, by_)
    else bif List.isPrefixOf [62] (s.drop j) then .ok (false, j + 1, pg, by_)
    else bif !(decide (0 < wsN (s.drop i))) then .error ((j : Nat), 3)
    else bif List.isPrefixOf spaceMark (s.drop j) then
      bif nm then .error ((j : Nat), 11) else
      match uptoF s [34] (j + 7) with
      | .error e => .error e
      | .ok (v, k) => bif decide (pageOf v ≥ 0) then attrsF s f k (pageOf v) true by_ else .error ((j : Nat), 5)
    else bif List.isPrefixOf codeMark (s.drop j) then
      bif by_ then .error ((j : Nat), 11) else
      match uptoF s [34] (j + 5) with
      | .error e => .error e
      | .ok (v, k) => bif v == b64 then attrsF s f k pg nm true else .error ((j : Nat), 5)
    else .error ((j : Nat), 3)

def withinF (s : List UInt8) (kid : Nat → RES (El × Nat)) (more : Bool) : Nat → Nat → List UInt8 → List El → RES (List UInt8 × List El × Nat)
  | 0, _, _, _ => .error (0, 0)
  | f + 1, i, b, ks =>
    bif List.isPrefixOf [60, 47] (s.drop i) then .ok (b, ks, i + 2) else
    match s.drop i with
    | [] => .error ((i : Nat), 1)
    | c :: l =>
      bif c == 38 then
        match entityF s i with
        | .error e => .error e
        | .ok (x, j) => withinF s kid more f j (b ++ x) ks
      else bif List.isPrefixOf rawM (s.drop i) then
        match uptoF s rawEnd (i + 9) with
        | .error e => .error e
        | .ok (x, j) => withinF s kid more f j (b ++ x) ks
      else bif List.isPrefixOf remM (s.drop i) then
        match uptoF s remEnd (i + 4) with
        | .error e => .error e
        | .ok (_, j) => withinF s kid more f j b ks
      else bif !(c == 60) then withinF s kid more f (i + 1) (b ++ [c]) ks
      else bif !(match l with | [] => false | c2 :: _ => isLetter c2) then .error ((i : Nat), 3)
      else bif !more then .error ((i : Nat), 9)
      else bif !(decide (ks.length < 200)) then .error ((i : Nat), 4)
      else match kid i with
        | .error e => .error e
        | .ok (x, j) => withinF s kid more f j b (ks ++ [x])

def trimF (t : List UInt8) : List UInt8 := (trimR isWs t).dropWhile isWs
/-- May this begin an element's name? -/
def nameOk : List UInt8 → Bool
  | [] => false
  | c :: l => isLetter c && decide ((((c :: l).length : Nat) : Int) ≤ 32)

def endF (p : Int) (n t : List UInt8) (by_ : Bool) (ks : List El) (e q : Nat) : RES (El × Nat) :=
  bif decide (0 < ks.length) then (bif !by_ && trimF t == [] then .ok (.mk p n [] false ks, q) else .error ((e : Nat), 7))
  else bif by_ then (bif (decF t).2 == 0 then .ok (.mk p n (decF t).1 (!((decF t).1 == [])) [], q) else .error ((e : Nat), (decF t).2))
  else .ok (.mk p n t false [], q)

def elemB (s : List UInt8) (kid : Int → Nat → RES (El × Nat)) (more : Bool) (pg : Int) (i : Nat) : RES (El × Nat) :=
  bif s.drop i == [] then .error ((i : Nat), 1) else
  bif !(List.isPrefixOf [60] (s.drop i)) then .error ((i : Nat), 3) else
  let k := span isNameC s.length (s.drop (i + 1))
  let n := (s.drop (i + 1)).take k
  bif !(nameOk n) then .error (((i + 1 : Nat) : Int), 14) else
  match attrsF s (s.length + 1) (i + 1 + k) pg false false with
  | .error e => .error e
  | .ok (true, j, p, _) => .ok (.mk p n [] false [], j)
  | .ok (false, j, p, by_) =>
    match withinF s (kid p) more (s.length + 1) j [] [] with
    | .error e => .error e
    | .ok (t, ks, m) =>
      match closeF s n m with
      | .error e => .error e
      | .ok q => endF p n t by_ ks (m - 2) q

def elemF (s : List UInt8) : Nat → Int → Nat → RES (El × Nat)
  | 0 => elemB s (fun _ _ => .error (0, 0)) false
  | d + 1 => elemB s (elemF s d) true

def El0 : El := .mk 0 [] [] false []
def readR (s : List UInt8) : RES El :=
  match (bif List.isPrefixOf headB s then uptoF s headE 5 else .ok ([], 0)) with
  | .error e => .error e
  | .ok (_, i) =>
    match elemF s 11 0 (i + wsN (s.drop i)) with
    | .error e => .error e
    | .ok (x, j) =>
      let k := j + wsN (s.drop j)
      bif s.drop k == [] then (bif checkF x == 0 then .ok x else .error (0, checkF x)) else .error ((k : Nat), 6)
/-- Read: the element, the place, what is wrong. -/
def readF (s : List UInt8) : El × Int × Int :=
  bif decide (((s.length : Nat) : Int) > 12000) then (El0, 0, 8) else
  bif !(Lib.validD s) then (El0, 0, 16) else
  match readR s with
  | .error e => (El0, e.1, e.2)
  | .ok x => (x, 0, 0)
end Go.Run.Tryd
/- Letters of six bits, there and back; texts that are right. -/
namespace Go.Run.Tryd
open Go Go.Run

/-! Letters of six bits. -/
theorem at64_all : (List.range 64).all (fun k => at64 (lt64 k) == (k : Int) && !(isWs (lt64 k)) && !(lt64 k == 61) && decide (lt64 k < 128) && !(lt64 k == 38) && !(lt64 k == 60) && !(lt64 k == 62) && !isCtl (lt64 k)) = true := by kernel_rfl

theorem lt64_spec (k : Nat) (h : k < 64) : at64 (lt64 k) = k ∧ isWs (lt64 k) = false ∧ (lt64 k == 61) = false ∧ lt64 k < 128 ∧ (lt64 k == 38) = false ∧ (lt64 k == 60) = false ∧ (lt64 k == 62) = false ∧ isCtl (lt64 k) = false := by
  have := List.all_eq_true.1 at64_all k (List.mem_range.2 h)
  simp only [Bool.and_eq_true, beq_iff_eq, Bool.not_eq_true', decide_eq_true_eq] at this
  obtain ⟨⟨⟨⟨⟨⟨⟨h1, h2⟩, h3⟩, h4⟩, h5⟩, h6⟩, h7⟩, h8⟩ := this
  exact ⟨h1, h2, h3, h4, h5, h6, h7, h8⟩

theorem or64 (w k : Nat) (h : k < 64) (hw : w < 67108864) : w * 64 % 4294967296 ||| k = w * 64 + k := by
  have h1 : w * 64 % 4294967296 = 2 ^ 6 * w := by omega
  rw [h1, ← Nat.two_pow_add_eq_or_of_lt (i := 6) (by omega)]
  omega

/-- A letter, while none is missing. -/
theorem dec_step (k : Nat) (h : k < 64) (l b : List UInt8) (w n : Nat) (odd : Bool) (hw : w < 67108864) (hn : n < 3) : decGo (lt64 k :: l) b w n 0 odd = decGo l b (w * 64 + k) (n + 1) 0 odd := by
  obtain ⟨h1, h2, h3, _⟩ := lt64_spec k h
  have e4 : decide (n + 1 < 4) = true := by simp; omega
  have e5 : decide (((k : Nat) : Int) < 0) = false := by simp
  simp only [decGo, h2, h1, h3, e5, e4, cond_false, cond_true, Bool.false_and, decide_false, Bool.and_false, Bool.or_self, Nat.lt_irrefl, Bool.not_false, Bool.and_true, Int.toNat_natCast, or64 w k h hw]

theorem dec_last (k : Nat) (h : k < 64) (l b : List UInt8) (w : Nat) (odd : Bool) (hw : w < 67108864) : decGo (lt64 k :: l) b w 3 0 odd = decGo l (b ++ bytes3 (w * 64 + k)) 0 0 0 odd := by
  obtain ⟨h1, h2, h3, _⟩ := lt64_spec k h
  have e5 : decide (((k : Nat) : Int) < 0) = false := by simp
  have e6 : (w * 64 + k) % 2 ^ (8 * 0) = 0 := by simp; omega
  have e7 : (bytes3 (w * 64 + k)).take (3 - 0) = bytes3 (w * 64 + k) := rfl
  simp only [decGo, h2, h1, h3, e5, cond_false, cond_true, Bool.false_and, decide_false, Bool.and_false, Bool.or_self, Nat.lt_irrefl, Bool.not_false, Bool.and_true, Int.toNat_natCast, or64 w k h hw, e6, e7]
  simp

theorem dec_gap2 (l b : List UInt8) (w : Nat) (odd : Bool) : decGo (61 :: l) b w 2 0 odd = decGo l b (w * 64 % 4294967296) 3 1 odd := by
  have h2 : isWs 61 = false := by decide
  have h3 : at64 61 = -1 := by kernel_rfl
  simp only [decGo, h2, h3]
  simp

theorem dec_gap3 (l b : List UInt8) (w g : Nat) (hg : g < 2) (odd : Bool) : decGo (61 :: l) b w 3 g odd = decGo l (b ++ (bytes3 (w * 64 % 4294967296)).take (3 - (g + 1))) 0 0 (g + 1) (odd || !(w * 64 % 4294967296 % 2 ^ (8 * (g + 1)) == 0)) := by
  have h2 : isWs 61 = false := by decide
  have h3 : at64 61 = -1 := by kernel_rfl
  simp only [decGo, h2, h3]
  simp

theorem bytes3_word (a b c : UInt8) : bytes3 (word3 a b c) = [a, b, c] := by
  have ha := a.toNat_lt; have hb := b.toNat_lt; have hc := c.toNat_lt
  have e1 : UInt8.ofNat (word3 a b c / 65536) = a := UInt8.toNat.inj (by rw [UInt8.toNat_ofNat', word3]; omega)
  have e2 : UInt8.ofNat (word3 a b c / 256) = b := UInt8.toNat.inj (by rw [UInt8.toNat_ofNat', word3]; omega)
  have e3 : UInt8.ofNat (word3 a b c) = c := UInt8.toNat.inj (by rw [UInt8.toNat_ofNat', word3]; omega)
  rw [bytes3, e1, e2, e3]

theorem word3_lt (a b c : UInt8) : word3 a b c < 16777216 := by
  have ha := a.toNat_lt; have hb := b.toNat_lt; have hc := c.toNat_lt
  rw [word3]; omega

theorem dec_enc : ∀ (t bs : List UInt8), decGo (encF t) bs 0 0 0 false = (bs ++ t, 0)
  | [], bs => by simp [encF, decGo]
  | [a], bs => by
    have hW := word3_lt a 0 0
    have ha := a.toNat_lt
    have hm : word3 a 0 0 = a.toNat * 65536 := by simp [word3]
    rw [encF, encW]
    have c1 : Nat.blt 1 2 = true := rfl
    have c2 : Nat.blt 1 3 = true := rfl
    rw [c1, c2, cond_true, cond_true, dec_step _ (by omega) _ _ _ _ _ (by omega) (by omega), dec_step _ (by omega) _ _ _ _ _ (by omega) (by omega), dec_gap2, dec_gap3 _ _ _ _ (by omega)]
    have e : (((0 * 64 + word3 a 0 0 / 262144 % 64) * 64 + word3 a 0 0 / 4096 % 64) * 64 % 4294967296) * 64 % 4294967296 = word3 a 0 0 := by omega
    rw [e, bytes3_word]
    have e2 : word3 a 0 0 % 2 ^ (8 * (1 + 1)) = 0 := by
      show word3 a 0 0 % 65536 = 0
      omega
    rw [e2]
    simp [decGo]
  | [a, b], bs => by
    have hW := word3_lt a b 0
    have hm : word3 a b 0 % 256 = 0 := by simp [word3]; omega
    rw [encF, encW]
    have c1 : Nat.blt 2 2 = false := rfl
    have c2 : Nat.blt 2 3 = true := rfl
    rw [c1, c2, cond_true, cond_false, dec_step _ (by omega) _ _ _ _ _ (by omega) (by omega), dec_step _ (by omega) _ _ _ _ _ (by omega) (by omega), dec_step _ (by omega) _ _ _ _ _ (by omega) (by omega), dec_gap3 _ _ _ _ (by omega)]
    have e : ((((0 * 64 + word3 a b 0 / 262144 % 64) * 64 + word3 a b 0 / 4096 % 64) * 64 + word3 a b 0 / 64 % 64)) * 64 % 4294967296 = word3 a b 0 := by omega
    rw [e, bytes3_word]
    have e2 : word3 a b 0 % 2 ^ (8 * (0 + 1)) = 0 := hm
    rw [e2]
    simp [decGo]
  | a :: b :: c :: t, bs => by
    have hW := word3_lt a b c
    rw [encF, encW]
    have c1 : Nat.blt 3 2 = false := rfl
    have c2 : Nat.blt 3 3 = false := rfl
    rw [c1, c2, cond_false, cond_false, List.cons_append, List.cons_append, List.cons_append, List.cons_append, List.nil_append, dec_step _ (by omega) _ _ _ _ _ (by omega) (by omega), dec_step _ (by omega) _ _ _ _ _ (by omega) (by omega), dec_step _ (by omega) _ _ _ _ _ (by omega) (by omega), dec_last _ (by omega) _ _ _ _ (by omega)]
    have e : (((0 * 64 + word3 a b c / 262144 % 64) * 64 + word3 a b c / 4096 % 64) * 64 + word3 a b c / 64 % 64) * 64 + word3 a b c % 64 = word3 a b c := by omega
    rw [e, bytes3_word, dec_enc t]
    simp

theorem decF_encF (t : List UInt8) : decF (encF t) = (t, 0) := dec_enc t []

/-- What a letter, or the gap, is not. -/
def safeB (c : UInt8) : Bool := decide (c < 128) && !(c == 38) && !(c == 60) && !(c == 62) && !isCtl c
theorem lt64_safe (k : Nat) (h : k < 64) : safeB (lt64 k) = true := by
  obtain ⟨_, _, _, h4, h5, h6, h7, h8⟩ := lt64_spec k h
  simp [safeB, h4, h5, h6, h7, h8]
theorem encW_safe (w n : Nat) : ∀ c ∈ encW w n, safeB c = true := by
  intro c hc
  have m : ∀ x, x % 64 < 64 := fun x => Nat.mod_lt _ (by omega)
  have h61 : safeB 61 = true := by decide
  simp only [encW, List.mem_cons, List.not_mem_nil, or_false] at hc
  rcases hc with h | h | h | h
  · rw [h]; exact lt64_safe _ (m _)
  · rw [h]; exact lt64_safe _ (m _)
  · rw [h]; cases Nat.blt n 2
    · exact lt64_safe _ (m _)
    · exact h61
  · rw [h]; cases Nat.blt n 3
    · exact lt64_safe _ (m _)
    · exact h61
theorem encF_safe : ∀ (t : List UInt8), ∀ c ∈ encF t, safeB c = true
  | [], c, h => by simp [encF] at h
  | [a], c, h => encW_safe _ _ c h
  | [a, b], c, h => encW_safe _ _ c h
  | a :: b :: d :: t, c, h => by
    rw [encF] at h
    rcases List.mem_append.1 h with h | h
    · exact encW_safe _ _ c h
    · exact encF_safe t c h
theorem encF_nil : ∀ (t : List UInt8), encF t = [] → t = []
  | [], _ => rfl
  | [a], h => by simp [encF, encW] at h
  | [a, b], h => by simp [encF, encW] at h
  | a :: b :: c :: t, h => by simp [encF, encW] at h
theorem esc_safe : ∀ (l : List UInt8), (∀ c ∈ l, safeB c = true) → esc l = l
  | [], _ => rfl
  | c :: l, h => by
    have h0 := h c (by simp)
    simp only [safeB, Bool.and_eq_true, Bool.not_eq_true'] at h0
    rw [esc, h0.1.1.1.2, h0.1.1.2, h0.1.2, esc_safe l (fun d hd => h d (by simp [hd]))]
    rfl
theorem esc_nil : ∀ (l : List UInt8), esc l = [] → l = []
  | [], _ => rfl
  | c :: l, h => by
    rw [esc] at h
    revert h
    cases c == 38 <;> cases c == 60 <;> cases c == 62 <;> simp

/-! Texts that are right. -/
theorem decodeN_mono {n m b0 b1 b2 b3 c1 c2 c3 : Nat} (hm : n ≤ m) (h1 : 1 < n → c1 = b1) (h2 : 2 < n → c2 = b2) (h3 : 3 < n → c3 = b3)
    (hok : ¬ ((Lib.decodeN n b0 b1 b2 b3).1 = 65533 ∧ (Lib.decodeN n b0 b1 b2 b3).2 = 1)) : Lib.decodeN m b0 c1 c2 c3 = Lib.decodeN n b0 b1 b2 b3 := by
  unfold Lib.decodeN at hok ⊢
  by_cases q1 : b0 < 128
  · rw [if_pos q1, if_pos q1]
  rw [if_neg q1] at hok
  rw [if_neg q1, if_neg q1]
  by_cases q2 : b0 / 32 = 6 ∧ (1 < n ∧ b1 / 64 = 2)
  · have e1 := h1 q2.2.1
    subst e1
    have q2' : b0 / 32 = 6 ∧ (1 < m ∧ c1 / 64 = 2) := ⟨q2.1, by omega, q2.2.2⟩
    rw [if_pos q2, if_pos q2']
  rw [if_neg q2] at hok
  by_cases q3 : b0 / 16 = 14 ∧ (1 < n ∧ b1 / 64 = 2) ∧ (2 < n ∧ b2 / 64 = 2)
  · have e1 := h1 q3.2.1.1
    have e2 := h2 q3.2.2.1
    subst e1; subst e2
    have q3' : b0 / 16 = 14 ∧ (1 < m ∧ c1 / 64 = 2) ∧ (2 < m ∧ c2 / 64 = 2) := ⟨q3.1, ⟨by omega, q3.2.1.2⟩, by omega, q3.2.2.2⟩
    have q2' : ¬ (b0 / 32 = 6 ∧ (1 < m ∧ c1 / 64 = 2)) := by omega
    rw [if_neg q2, if_pos q3, if_neg q2', if_pos q3']
  rw [if_neg q3] at hok
  by_cases q4 : b0 / 8 = 30 ∧ (1 < n ∧ b1 / 64 = 2) ∧ (2 < n ∧ b2 / 64 = 2) ∧ (3 < n ∧ b3 / 64 = 2)
  · have e1 := h1 q4.2.1.1
    have e2 := h2 q4.2.2.1.1
    have e3 := h3 q4.2.2.2.1
    subst e1; subst e2; subst e3
    have q4' : b0 / 8 = 30 ∧ (1 < m ∧ c1 / 64 = 2) ∧ (2 < m ∧ c2 / 64 = 2) ∧ (3 < m ∧ c3 / 64 = 2) := ⟨q4.1, ⟨by omega, q4.2.1.2⟩, ⟨by omega, q4.2.2.1.2⟩, by omega, q4.2.2.2.2⟩
    have q2' : ¬ (b0 / 32 = 6 ∧ (1 < m ∧ c1 / 64 = 2)) := by omega
    have q3' : ¬ (b0 / 16 = 14 ∧ (1 < m ∧ c1 / 64 = 2) ∧ (2 < m ∧ c2 / 64 = 2)) := by omega
    rw [if_neg q2, if_neg q3, if_pos q4, if_neg q2', if_neg q3', if_pos q4']
  · rw [if_neg q4] at hok
    exact absurd ⟨rfl, rfl⟩ hok

/-- What is told of a rune that is right: how long it is, and that its bytes past 127 are all so. -/
theorem decodeN_size {n b0 b1 b2 b3 : Nat} (hn : 1 ≤ n) (hok : ¬ ((Lib.decodeN n b0 b1 b2 b3).1 = 65533 ∧ (Lib.decodeN n b0 b1 b2 b3).2 = 1)) :
    (b0 < 128 ∧ (Lib.decodeN n b0 b1 b2 b3).2 = 1) ∨ (128 ≤ b0 ∧ 128 ≤ b1 ∧ 2 ≤ n ∧ (Lib.decodeN n b0 b1 b2 b3).2 = 2 ∧ Lib.decodeN 2 b0 b1 b2 b3 = Lib.decodeN n b0 b1 b2 b3) ∨
      (128 ≤ b0 ∧ 128 ≤ b1 ∧ 128 ≤ b2 ∧ 3 ≤ n ∧ (Lib.decodeN n b0 b1 b2 b3).2 = 3 ∧ Lib.decodeN 3 b0 b1 b2 b3 = Lib.decodeN n b0 b1 b2 b3) ∨
      (128 ≤ b0 ∧ 128 ≤ b1 ∧ 128 ≤ b2 ∧ 128 ≤ b3 ∧ 4 ≤ n ∧ (Lib.decodeN n b0 b1 b2 b3).2 = 4 ∧ Lib.decodeN 4 b0 b1 b2 b3 = Lib.decodeN n b0 b1 b2 b3) := by
  by_cases q1 : b0 < 128
  · left
    refine ⟨q1, ?_⟩
    unfold Lib.decodeN
    rw [if_pos q1]
  right
  by_cases q2 : b0 / 32 = 6 ∧ (1 < n ∧ b1 / 64 = 2)
  · left
    have q2' : b0 / 32 = 6 ∧ (1 < 2 ∧ b1 / 64 = 2) := ⟨q2.1, by omega, q2.2.2⟩
    unfold Lib.decodeN at hok ⊢
    rw [if_neg q1, if_pos q2] at hok
    rw [if_neg q1, if_pos q2, if_neg q1, if_pos q2']
    split at hok
    · rename_i hc
      rw [if_pos hc]
      exact ⟨by omega, by omega, by omega, rfl, rfl⟩
    · exact absurd ⟨rfl, rfl⟩ hok
  right
  by_cases q3 : b0 / 16 = 14 ∧ (1 < n ∧ b1 / 64 = 2) ∧ (2 < n ∧ b2 / 64 = 2)
  · left
    have q2' : ¬ (b0 / 32 = 6 ∧ (1 < 3 ∧ b1 / 64 = 2)) := by omega
    have q3' : b0 / 16 = 14 ∧ (1 < 3 ∧ b1 / 64 = 2) ∧ (2 < 3 ∧ b2 / 64 = 2) := ⟨q3.1, ⟨by omega, q3.2.1.2⟩, by omega, q3.2.2.2⟩
    unfold Lib.decodeN at hok ⊢
    rw [if_neg q1, if_neg q2, if_pos q3] at hok
    rw [if_neg q1, if_neg q2, if_pos q3, if_neg q1, if_neg q2', if_pos q3']
    split at hok
    · rename_i hc
      rw [if_pos hc]
      exact ⟨by omega, by omega, by omega, by omega, rfl, rfl⟩
    · exact absurd ⟨rfl, rfl⟩ hok
  right
  by_cases q4 : b0 / 8 = 30 ∧ (1 < n ∧ b1 / 64 = 2) ∧ (2 < n ∧ b2 / 64 = 2) ∧ (3 < n ∧ b3 / 64 = 2)
  · have q2' : ¬ (b0 / 32 = 6 ∧ (1 < 4 ∧ b1 / 64 = 2)) := by omega
    have q3' : ¬ (b0 / 16 = 14 ∧ (1 < 4 ∧ b1 / 64 = 2) ∧ (2 < 4 ∧ b2 / 64 = 2)) := by omega
    have q4' : b0 / 8 = 30 ∧ (1 < 4 ∧ b1 / 64 = 2) ∧ (2 < 4 ∧ b2 / 64 = 2) ∧ (3 < 4 ∧ b3 / 64 = 2) := ⟨q4.1, ⟨by omega, q4.2.1.2⟩, ⟨by omega, q4.2.2.1.2⟩, by omega, q4.2.2.2.2⟩
    unfold Lib.decodeN at hok ⊢
    rw [if_neg q1, if_neg q2, if_neg q3, if_pos q4] at hok
    rw [if_neg q1, if_neg q2, if_neg q3, if_pos q4, if_neg q1, if_neg q2', if_neg q3', if_pos q4']
    split at hok
    · rename_i hc
      rw [if_pos hc]
      exact ⟨by omega, by omega, by omega, by omega, by omega, rfl, rfl⟩
    · exact absurd ⟨rfl, rfl⟩ hok
  · unfold Lib.decodeN at hok
    rw [if_neg q1, if_neg q2, if_neg q3, if_neg q4] at hok
    exact absurd ⟨rfl, rfl⟩ hok

theorem getD_append_lt {l r : List UInt8} {j : Nat} (h : j < l.length) : (l ++ r).getD j 0 = l.getD j 0 := by
  simp [List.getD, List.getElem?_append_left h]

theorem decodeL_app {l : List UInt8} (r : List UInt8) (hne : l ≠ []) (hok : ¬ ((Lib.decodeL l).1 = 65533 ∧ (Lib.decodeL l).2 = 1)) : Lib.decodeL (l ++ r) = Lib.decodeL l := by
  have hl : 0 < l.length := List.length_pos_iff.2 hne
  rw [Lib.decodeL_N] at hok
  rw [Lib.decodeL_N, Lib.decodeL_N, getD_append_lt hl]
  exact decodeN_mono (by simp) (fun h => by rw [getD_append_lt h]) (fun h => by rw [getD_append_lt h]) (fun h => by rw [getD_append_lt h]) hok

theorem valid_app : ∀ (n : Nat) (a b : List UInt8), a.length ≤ n → Lib.validD a = true → Lib.validD (a ++ b) = Lib.validD b
  | 0, a, b, hn, _ => by
    have : a = [] := List.eq_nil_of_length_eq_zero (by omega)
    subst this; rfl
  | n + 1, a, b, hn, h => by
    by_cases hne : a = []
    · subst hne; rfl
    have hl : 0 < a.length := List.length_pos_iff.2 hne
    rw [Lib.validD_step a hne] at h
    split at h
    · cases h
    rename_i hok
    have hw := Lib.decodeL_width a
    have hle := Lib.decodeL_le a hne
    rw [Lib.validD_step (a ++ b) (by simp [hne]), decodeL_app b hne hok, if_neg hok, List.drop_append_of_le_length hle]
    exact valid_app n _ b (by rw [List.length_drop]; omega) h

theorem valid_append {a : List UInt8} (b : List UInt8) (h : Lib.validD a = true) : Lib.validD (a ++ b) = Lib.validD b := valid_app a.length a b (Nat.le_refl _) h

theorem valid_asc {a : List UInt8} (b : List UInt8) (h : ∀ c ∈ a, c < 128) : Lib.validD (a ++ b) = Lib.validD b := by
  have := Lib.validD_ascii a.length (a ++ b) (fun c hc => by
    rw [List.take_left] at hc
    have := h c hc
    rw [UInt8.lt_iff_toNat_lt] at this
    exact this)
  rw [this, List.drop_left]

/-- Bytes past 127 stay as they are. -/
theorem esc_high : ∀ (l r : List UInt8), (∀ c ∈ l, 128 ≤ c.toNat) → esc (l ++ r) = l ++ esc r
  | [], r, _ => rfl
  | c :: l, r, h => by
    have h0 := h c (by simp)
    have e1 : (c == 38) = false := by rw [beq_eq_false_iff_ne]; intro e; subst e; revert h0; decide
    have e2 : (c == 60) = false := by rw [beq_eq_false_iff_ne]; intro e; subst e; revert h0; decide
    have e3 : (c == 62) = false := by rw [beq_eq_false_iff_ne]; intro e; subst e; revert h0; decide
    rw [List.cons_append, esc, e1, e2, e3, esc_high l r (fun d hd => h d (by simp [hd]))]
    rfl

theorem getD_toNat {l : List UInt8} {j : Nat} (h : j < l.length) : (l.getD j 0) = l[j] := by simp [List.getD, h]

theorem esc_valid : ∀ (n : Nat) (t r : List UInt8), t.length ≤ n → Lib.validD t = true → Lib.validD (esc t ++ r) = Lib.validD r
  | 0, t, r, hn, _ => by
    have : t = [] := List.eq_nil_of_length_eq_zero (by omega)
    subst this; rfl
  | n + 1, [], r, _, _ => rfl
  | n + 1, c :: t, r, hn, h => by
    have hne : c :: t ≠ [] := by simp
    have hl : 0 < (c :: t).length := by simp
    rw [Lib.validD_step _ hne] at h
    split at h
    · cases h
    rename_i hok
    have hle := Lib.decodeL_le (c :: t) hne
    have hw := Lib.decodeL_width (c :: t)
    have ih := esc_valid n ((c :: t).drop (Lib.decodeL (c :: t)).2) r (by rw [List.length_drop]; omega) h
    have hsz := decodeN_size (n := (c :: t).length) hl (by rw [← Lib.decodeL_N]; exact hok)
    rw [← Lib.decodeL_N] at hsz
    have hi : ∀ k, k = (Lib.decodeL (c :: t)).2 → 2 ≤ k → k ≤ (c :: t).length → (∀ j, j < k → 128 ≤ ((c :: t).getD j 0).toNat) → Lib.decodeN k ((c :: t).getD 0 0).toNat ((c :: t).getD 1 0).toNat ((c :: t).getD 2 0).toNat ((c :: t).getD 3 0).toNat = Lib.decodeL (c :: t) → Lib.validD (esc (c :: t) ++ r) = Lib.validD r := by
      intro k hk h2 hkl hb hd
      have hta : ((c :: t).take k) ++ (c :: t).drop k = c :: t := List.take_append_drop k _
      have hge : ∀ d ∈ (c :: t).take k, 128 ≤ d.toNat := by
        intro d hd
        obtain ⟨j, hj, rfl⟩ := List.getElem_of_mem hd
        have hj' : j < k := by rw [List.length_take] at hj; omega
        have := hb j hj'
        rw [getD_toNat (by omega)] at this
        rw [List.getElem_take]; exact this
      have hv : Lib.validD ((c :: t).take k) = true := by
        have hne2 : (c :: t).take k ≠ [] := by simp; omega
        have hlk : ((c :: t).take k).length = k := by rw [List.length_take]; omega
        have hg : ∀ j, j < k → ((c :: t).take k).getD j 0 = (c :: t).getD j 0 := fun j hj => by
          simp [List.getD, List.getElem?_take, hj]
        have hdec : Lib.decodeL ((c :: t).take k) = Lib.decodeL (c :: t) := by
          rw [Lib.decodeL_N, hlk, hg 0 (by omega), ← hd]
          refine (decodeN_mono (Nat.le_refl k) (fun q => ?_) (fun q => ?_) (fun q => ?_) ?_)
          · rw [hg 1 (by omega)]
          · rw [hg 2 (by omega)]
          · rw [hg 3 (by omega)]
          · rw [hd]; exact hok
        rw [Lib.validD_step _ hne2, hdec, if_neg hok, ← hk, List.drop_of_length_le (by omega)]
        rfl
      rw [← hta, esc_high _ _ hge, List.append_assoc, valid_append _ hv]
      rw [hk]; exact ih
    rcases hsz with ⟨h1, h2⟩ | ⟨h1, h2, h3, h4, h5⟩ | ⟨h1, h2, h2', h3, h4, h5⟩ | ⟨h1, h2, h2', h2'', h3, h4, h5⟩
    · rw [h2, List.drop_succ_cons, List.drop_zero] at ih
      rw [esc, List.append_assoc, valid_asc _ _, ih]
      intro d hd
      have hc : c < 128 := by rw [UInt8.lt_iff_toNat_lt]; simpa using h1
      revert hd
      cases c == 38 <;> cases c == 60 <;> cases c == 62 <;> simp only [cond_true, cond_false, List.mem_cons, List.not_mem_nil, or_false] <;> intro hd <;>
        first | (rcases hd with rfl | rfl | rfl | rfl | rfl <;> decide) | (rcases hd with rfl | rfl | rfl | rfl <;> decide) | (rw [hd]; exact hc)
    · refine hi 2 h4.symm (by omega) h3 (fun j hj => ?_) h5
      rcases j with _ | _ | j
      · exact h1
      · exact h2
      · omega
    · refine hi 3 h4.symm (by omega) h3 (fun j hj => ?_) h5
      rcases j with _ | _ | _ | j
      · exact h1
      · exact h2
      · exact h2'
      · omega
    · refine hi 4 h4.symm (by omega) h3 (fun j hj => ?_) h5
      rcases j with _ | _ | _ | _ | j
      · exact h1
      · exact h2
      · exact h2'
      · exact h2''
      · omega
end Go.Run.Tryd
/- What is written is read as it was. -/
namespace Go.Run.Tryd
open Go Go.Run

mutual
/-- Nothing is wrong with an element itself, nor with what is within. -/
def okE : El → Prop
  | .mk p n t o ks => check1 (.mk p n t o ks) = 0 ∧ okEs ks
def okEs : List El → Prop
  | [] => True
  | k :: ks => okE k ∧ okEs ks
end

theorem bif_zero {b : Bool} {k x : Int} (hk : k ≠ 0) (h : (bif b then k else x) = 0) : b = false ∧ x = 0 := by
  cases b
  · exact ⟨rfl, h⟩
  · exact absurd h hk

theorem check1_ok {p : Int} {n t : List UInt8} {o : Bool} {ks : List El} (h : check1 (.mk p n t o ks) = 0) :
    (0 ≤ p ∧ p < 3) ∧ isName n = true ∧ ks.length ≤ 200 ∧ (0 < ks.length → t = []) ∧ t.length ≤ 4000 ∧ (o = true → t ≠ []) ∧ (o = false → shownF t = true) := by
  unfold check1 at h
  obtain ⟨h1, h⟩ := bif_zero (by omega) h
  obtain ⟨h2, h⟩ := bif_zero (by omega) h
  obtain ⟨h3, h⟩ := bif_zero (by omega) h
  obtain ⟨h4, h⟩ := bif_zero (by omega) h
  obtain ⟨h5, h⟩ := bif_zero (by omega) h
  obtain ⟨h6, h⟩ := bif_zero (by omega) h
  simp only [Bool.or_eq_false_iff, decide_eq_false_iff_not] at h1 h3 h5
  refine ⟨by omega, by simpa using h2, by omega, fun hk => ?_, by omega, fun ho => ?_, fun ho => ?_⟩
  · have : decide (((ks.length : Nat) : Int) > 0) = true := by simp; omega
    rw [this] at h4
    simpa using h4
  · subst ho
    simpa using h6
  · subst ho
    simpa using h6

theorem drop_add {s a r : List UInt8} {i : Nat} (h : s.drop i = a ++ r) : s.drop (i + a.length) = r := by
  rw [← List.drop_drop, h, List.drop_left]
theorem drop_len {s a r : List UInt8} {i : Nat} (h : s.drop i = a ++ r) (hne : a ≠ []) : i + a.length ≤ s.length := by
  have := congrArg List.length h
  have hl : 0 < a.length := List.length_pos_iff.2 hne
  simp only [List.length_drop, List.length_append] at this
  omega

theorem span_app (p : UInt8 → Bool) : ∀ (a r : List UInt8) (m : Nat), a.length ≤ m → (∀ c ∈ a, p c = true) → (∀ c l, r = c :: l → p c = false) → span p m (a ++ r) = a.length
  | [], [], m, _, _, _ => by simp [span]
  | [], c :: l, 0, _, _, _ => by simp [span]
  | [], c :: l, m + 1, _, _, h => by simp [span, h c l rfl]
  | c :: a, r, 0, h, _, _ => by simp at h
  | c :: a, r, m + 1, h, h1, h2 => by
    have := span_app p a r m (by simpa using h) (fun d hd => h1 d (by simp [hd])) h2
    simp [span, h1 c (by simp), this]

theorem ws0 {c : UInt8} {l : List UInt8} (h : isWs c = false) : wsN (c :: l) = 0 := by simp [wsN, List.dropWhile_cons, h]
theorem ws1 {c : UInt8} {l : List UInt8} (h : isWs c = false) : wsN (32 :: c :: l) = 1 := by
  have h32 : isWs 32 = true := by decide
  simp [wsN, List.dropWhile_cons, h, h32]

theorem cutO_quote : ∀ (a r : List UInt8), (∀ c ∈ a, (c == 34) = false) → cutO [34] (a ++ 34 :: r) = some (a, r)
  | [], r, _ => by simp [cutO, List.isPrefixOf]
  | c :: a, r, h => by
    have h0 := h c (by simp)
    have h1 : ((34 : UInt8) == c) = false := by rw [beq_eq_false_iff_ne] at h0 ⊢; exact fun e => h0 e.symm
    simp [cutO, List.isPrefixOf, h1, cutO_quote a r (fun d hd => h d (by simp [hd]))]

section
variable {s : List UInt8}

theorem attrs_end1 {f i : Nat} {pg : Int} {nm by_ : Bool} {r : List UInt8} (h : s.drop i = 47 :: 62 :: r) : attrsF s (f + 1) i pg nm by_ = .ok (true, i + 2, pg, by_) := by
  have hw : wsN (s.drop i) = 0 := by rw [h]; exact ws0 (by decide)
  have e1 : List.isPrefixOf [47, 62] (s.drop i) = true := by rw [h]; simp [List.isPrefixOf]
  simp only [attrsF, hw, Nat.add_zero, e1, cond_true]

theorem attrs_end2 {f i : Nat} {pg : Int} {nm by_ : Bool} {r : List UInt8} (h : s.drop i = 62 :: r) : attrsF s (f + 1) i pg nm by_ = .ok (false, i + 1, pg, by_) := by
  have hw : wsN (s.drop i) = 0 := by rw [h]; exact ws0 (by decide)
  have e1 : List.isPrefixOf [47, 62] (s.drop i) = false := by rw [h]; simp [List.isPrefixOf]
  have e2 : List.isPrefixOf [62] (s.drop i) = true := by rw [h]; simp [List.isPrefixOf]
  simp only [attrsF, hw, Nat.add_zero, e1, e2, cond_true, cond_false]

theorem attrs_code {f i : Nat} {pg : Int} {nm : Bool} {r : List UInt8} (h : s.drop i = [32] ++ codeMark ++ b64 ++ [34] ++ r) : attrsF s (f + 1) i pg nm false = attrsF s f (i + 10) pg nm true := by
  have h' : s.drop i = 32 :: 101 :: 110 :: 99 :: 61 :: 34 :: 98 :: 54 :: 52 :: 34 :: r := h
  have hw : wsN (s.drop i) = 1 := by rw [h']; exact ws1 (by decide)
  have hd : s.drop (i + 1) = 101 :: 110 :: 99 :: 61 :: 34 :: 98 :: 54 :: 52 :: 34 :: r := drop_add (a := [32]) h'
  have e1 : List.isPrefixOf [47, 62] (s.drop (i + 1)) = false := by rw [hd]; simp [List.isPrefixOf]
  have e2 : List.isPrefixOf [62] (s.drop (i + 1)) = false := by rw [hd]; simp [List.isPrefixOf]
  have e3 : List.isPrefixOf spaceMark (s.drop (i + 1)) = false := by rw [hd]; simp [List.isPrefixOf, spaceMark]
  have e4 : List.isPrefixOf codeMark (s.drop (i + 1)) = true := by rw [hd]; simp [List.isPrefixOf, codeMark]
  have hd2 : s.drop (i + 1 + 5) = b64 ++ 34 :: r := drop_add (a := [101, 110, 99, 61, 34]) (r := b64 ++ 34 :: r) hd
  have hu : uptoF s [34] (i + 1 + 5) = .ok (b64, i + 10) := by
    rw [uptoF, hd2, cutO_quote _ _ (by decide)]
    simp [b64]
  have e5 : (b64 == b64) = true := by decide
  simp only [attrsF, hw, e1, e2, e3, e4, hu, e5, cond_true, cond_false, Nat.lt_succ_self, decide_true, Bool.not_true]

theorem spaceOf_spec {p : Int} (h : 0 ≤ p ∧ p < 3) : pageOf (spaceOf p) = p ∧ (∀ c ∈ spaceOf p, (c == 34) = false ∧ c < 128) := by
  obtain ⟨n, rfl⟩ : ∃ n : Nat, p = n := ⟨p.toNat, by omega⟩
  match n, h with
  | 0, _ => exact ⟨by decide, by decide⟩
  | 1, _ => exact ⟨by decide, by decide⟩
  | 2, _ => exact ⟨by decide, by decide⟩
  | n + 3, h => omega

theorem attrs_space {f i : Nat} {pg p : Int} {by_ : Bool} {r : List UInt8} (hp : 0 ≤ p ∧ p < 3) (h : s.drop i = [32] ++ spaceMark ++ spaceOf p ++ [34] ++ r) :
    attrsF s (f + 1) i pg false by_ = attrsF s f (i + 9 + (spaceOf p).length) p true by_ := by
  obtain ⟨k1, k2⟩ := spaceOf_spec hp
  have h' : s.drop i = 32 :: 120 :: 109 :: 108 :: 110 :: 115 :: 61 :: 34 :: (spaceOf p ++ 34 :: r) := by rw [h]; simp [spaceMark]
  have hw : wsN (s.drop i) = 1 := by rw [h']; exact ws1 (by decide)
  have hd : s.drop (i + 1) = 120 :: 109 :: 108 :: 110 :: 115 :: 61 :: 34 :: (spaceOf p ++ 34 :: r) := drop_add (a := [32]) h'
  have e1 : List.isPrefixOf [47, 62] (s.drop (i + 1)) = false := by rw [hd]; simp [List.isPrefixOf]
  have e2 : List.isPrefixOf [62] (s.drop (i + 1)) = false := by rw [hd]; simp [List.isPrefixOf]
  have e3 : List.isPrefixOf spaceMark (s.drop (i + 1)) = true := by rw [hd]; simp [List.isPrefixOf, spaceMark]
  have hd2 : s.drop (i + 1 + 7) = spaceOf p ++ 34 :: r := drop_add (a := [120, 109, 108, 110, 115, 61, 34]) hd
  have hu : uptoF s [34] (i + 1 + 7) = .ok (spaceOf p, i + 9 + (spaceOf p).length) := by
    rw [uptoF, hd2, cutO_quote _ _ (fun c hc => (k2 c hc).1)]
    simp only [List.length_singleton, Except.ok.injEq, Prod.mk.injEq, true_and]
    omega
  have e5 : decide (p ≥ 0) = true := by simp; omega
  simp only [attrsF, hw, e1, e2, e3, hu, k1, e5, cond_true, cond_false, Nat.lt_succ_self, decide_true, Bool.not_true]

variable {kid : Nat → RES (El × Nat)} {more : Bool} {f i : Nat} {b : List UInt8} {ks : List El}

theorem within_end {r : List UInt8} (h : s.drop i = 60 :: 47 :: r) : withinF s kid more (f + 1) i b ks = .ok (b, ks, i + 2) := by
  have e1 : List.isPrefixOf [60, 47] (s.drop i) = true := by rw [h]; simp [List.isPrefixOf]
  simp only [withinF, e1, cond_true]

theorem within_chr {c : UInt8} {r : List UInt8} (h : s.drop i = c :: r) (h1 : (c == 38) = false) (h2 : (c == 60) = false) : withinF s kid more (f + 1) i b ks = withinF s kid more f (i + 1) (b ++ [c]) ks := by
  have h2' : ((60 : UInt8) == c) = false := by rw [beq_eq_false_iff_ne] at h2 ⊢; exact fun e => h2 e.symm
  have e1 : List.isPrefixOf [60, 47] (c :: r) = false := by simp [List.isPrefixOf, h2']
  have e2 : List.isPrefixOf rawM (c :: r) = false := by simp [List.isPrefixOf, rawM, h2']
  have e3 : List.isPrefixOf remM (c :: r) = false := by simp [List.isPrefixOf, remM, h2']
  simp only [withinF, h, e1, e2, e3, h1, h2, cond_false, Bool.not_false, cond_true]

theorem within_ent {q : List UInt8 × List UInt8} {r : List UInt8} (hq : q ∈ ents.take 3) (h : s.drop i = q.1 ++ r) : withinF s kid more (f + 1) i b ks = withinF s kid more f (i + q.1.length) (b ++ q.2) ks := by
  have key : entityF s i = .ok (q.2, i + q.1.length) ∧ ∃ l, s.drop i = 38 :: l := by
    simp only [ents, List.take, List.mem_cons, List.not_mem_nil, or_false] at hq
    rcases hq with rfl | rfl | rfl
    · refine ⟨?_, _, h⟩
      have hf : ents.find? (fun p => p.1.isPrefixOf (s.drop i)) = some ([38, 97, 109, 112, 59], [38]) := by rw [h]; simp [ents, List.find?, List.isPrefixOf]
      simp only [entityF, hf]
    · refine ⟨?_, _, h⟩
      have hf : ents.find? (fun p => p.1.isPrefixOf (s.drop i)) = some ([38, 108, 116, 59], [60]) := by rw [h]; simp [ents, List.find?, List.isPrefixOf]
      simp only [entityF, hf]
    · refine ⟨?_, _, h⟩
      have hf : ents.find? (fun p => p.1.isPrefixOf (s.drop i)) = some ([38, 103, 116, 59], [62]) := by rw [h]; simp [ents, List.find?, List.isPrefixOf]
      simp only [entityF, hf]
  obtain ⟨k1, l, hl⟩ := key
  have e1 : List.isPrefixOf [60, 47] (38 :: l) = false := by simp [List.isPrefixOf]
  have e2 : ((38 : UInt8) == 38) = true := by decide
  simp only [withinF, hl, e1, e2, k1, cond_false, cond_true]

theorem within_esc : ∀ (t r : List UInt8) (f i : Nat) (b : List UInt8), t.length < f → s.drop i = esc t ++ r → withinF s kid more f i b ks = withinF s kid more (f - t.length) (i + (esc t).length) (b ++ t) ks
  | [], r, f, i, b, _, _ => by simp [esc]
  | c :: t, r, 0, i, b, hf, _ => by simp at hf
  | c :: t, r, f + 1, i, b, hf, h => by
    have hlen : f + 1 - (c :: t).length = f - t.length := by simp
    have hf' : t.length < f := by simpa using hf
    rw [hlen]
    have go : ∀ (q : List UInt8) (x : List UInt8), esc (c :: t) = q ++ esc t → x = [c] → withinF s kid more (f + 1) i b ks = withinF s kid more f (i + q.length) (b ++ x) ks → withinF s kid more (f + 1) i b ks = withinF s kid more (f - t.length) (i + (esc (c :: t)).length) (b ++ c :: t) ks := by
      intro q x hq hx hw
      rw [hq, List.append_assoc] at h
      rw [hw, within_esc t r f _ _ hf' (drop_add h), hq, List.length_append, hx, ← Nat.add_assoc]
      simp
    cases c1 : c == 38
    · cases c2 : c == 60
      · cases c3 : c == 62
        · have he : esc (c :: t) = [c] ++ esc t := by rw [esc, c1, c2, c3]; rfl
          refine go [c] [c] he rfl (within_chr (r := esc t ++ r) ?_ c1 c2)
          rw [h, he]; rfl
        · have he : esc (c :: t) = [38, 103, 116, 59] ++ esc t := by rw [esc, c1, c2, c3]; rfl
          have hc : c = 62 := by simpa using c3
          refine go [38, 103, 116, 59] [62] he (by rw [hc]) (within_ent (q := ([38, 103, 116, 59], [62])) (r := esc t ++ r) (by simp [ents]) ?_)
          rw [h, he, List.append_assoc]
      · have he : esc (c :: t) = [38, 108, 116, 59] ++ esc t := by rw [esc, c1, c2]; rfl
        have hc : c = 60 := by simpa using c2
        refine go [38, 108, 116, 59] [60] he (by rw [hc]) (within_ent (q := ([38, 108, 116, 59], [60])) (r := esc t ++ r) (by simp [ents]) ?_)
        rw [h, he, List.append_assoc]
    · have he : esc (c :: t) = [38, 97, 109, 112, 59] ++ esc t := by rw [esc, c1]; rfl
      have hc : c = 38 := by simpa using c1
      refine go [38, 97, 109, 112, 59] [38] he (by rw [hc]) (within_ent (q := ([38, 97, 109, 112, 59], [38])) (r := esc t ++ r) (by simp [ents]) ?_)
      rw [h, he, List.append_assoc]

theorem letter_not {c : UInt8} (h : isLetter c = true) : (c == 47) = false ∧ (c == 33) = false ∧ (c == 60) = false ∧ isWs c = false ∧ c < 128 := by
  have key : ∀ n : _root_.Fin 256, isLetter (UInt8.ofNat n.val) = true → ((UInt8.ofNat n.val) == 47) = false ∧ ((UInt8.ofNat n.val) == 33) = false ∧ ((UInt8.ofNat n.val) == 60) = false ∧ isWs (UInt8.ofNat n.val) = false ∧ (UInt8.ofNat n.val) < 128 := by decide +kernel
  have e : UInt8.ofNat c.toNat = c := by simp
  have := key ⟨c.toNat, c.toNat_lt⟩
  rw [e] at this
  exact this h

theorem within_kid {c : UInt8} {r : List UInt8} {x : El} {j : Nat} (h : s.drop i = 60 :: c :: r) (hc : isLetter c = true) (hk : ks.length < 200) (hx : kid i = .ok (x, j)) : withinF s kid true (f + 1) i b ks = withinF s kid true f j b (ks ++ [x]) := by
  obtain ⟨c1, c2, _⟩ := letter_not hc
  have c1' : ((47 : UInt8) == c) = false := by rw [beq_eq_false_iff_ne] at c1 ⊢; exact fun e => c1 e.symm
  have c2' : ((33 : UInt8) == c) = false := by rw [beq_eq_false_iff_ne] at c2 ⊢; exact fun e => c2 e.symm
  have e1 : List.isPrefixOf [60, 47] (60 :: c :: r) = false := by simp [List.isPrefixOf, c1']
  have e2 : List.isPrefixOf rawM (60 :: c :: r) = false := by simp [List.isPrefixOf, rawM, c2']
  have e3 : List.isPrefixOf remM (60 :: c :: r) = false := by simp [List.isPrefixOf, remM, c2']
  have e4 : ((60 : UInt8) == 38) = false := by decide
  have e5 : ((60 : UInt8) == 60) = true := by decide
  have e6 : decide (ks.length < 200) = true := by simpa using hk
  simp only [withinF, h, e1, e2, e3, e4, e5, e6, hc, hx, cond_false, cond_true, Bool.not_true]

theorem kids_read {p : Int} : ∀ (ks acc : List El) (f i : Nat) (r : List UInt8), (∀ k ∈ ks, ∀ i r, s.drop i = putF p k ++ r → kid i = .ok (k, i + (putF p k).length)) →
    (∀ k ∈ ks, ∃ c x, putF p k = 60 :: c :: x ∧ isLetter c = true) → ks.length < f → acc.length + ks.length ≤ 200 → s.drop i = putsF p ks ++ 60 :: 47 :: r →
    withinF s kid true f i [] acc = .ok ([], acc ++ ks, i + (putsF p ks).length + 2)
  | [], acc, 0, i, r, _, _, hf, _, _ => by simp at hf
  | [], acc, f + 1, i, r, _, _, _, _, h => by
    rw [within_end (r := r) (by rw [h]; rfl)]
    simp [putsF]
  | k :: ks, acc, 0, i, r, _, _, hf, _, _ => by simp at hf
  | k :: ks, acc, f + 1, i, r, h1, h2, hf, hl, h => by
    obtain ⟨c, x, e, hc⟩ := h2 k (by simp)
    rw [putsF, List.append_assoc] at h
    have hk := h1 k (by simp) i _ h
    have hd : s.drop i = 60 :: c :: (x ++ (putsF p ks ++ 60 :: 47 :: r)) := by rw [h, e]; rfl
    simp only [List.length_cons] at hl hf
    rw [within_kid hd hc (by omega) hk, kids_read ks (acc ++ [k]) f _ r (fun k' hk' => h1 k' (by simp [hk'])) (fun k' hk' => h2 k' (by simp [hk'])) (by omega) (by simp; omega) (drop_add h)]
    simp [putsF, Nat.add_assoc]

theorem nameC_not {c : UInt8} (h : isNameC c = true) : c < 128 := by
  have key : ∀ n : _root_.Fin 256, isNameC (UInt8.ofNat n.val) = true → (UInt8.ofNat n.val) < 128 := by decide +kernel
  have e : UInt8.ofNat c.toNat = c := by simp
  have := key ⟨c.toNat, c.toNat_lt⟩
  rw [e] at this
  exact this h

theorem isName_spec {n : List UInt8} (h : isName n = true) : nameOk n = true ∧ (∀ c ∈ n, isNameC c = true) ∧ ∃ c l, n = c :: l ∧ isLetter c = true := by
  cases n with
  | nil => simp [isName] at h
  | cons c l =>
    simp only [isName, Bool.and_eq_true, decide_eq_true_eq, Bool.not_eq_true', List.any_eq_false, Bool.not_eq_true] at h
    obtain ⟨h1, h2, h3⟩ := h
    refine ⟨by simp only [nameOk, h2, Bool.true_and, decide_eq_true_eq]; omega, fun d hd => ?_, c, l, rfl, h2⟩
    have := h3 d hd
    simpa using this

theorem close_read {n r : List UInt8} {m : Nat} (hn : isName n = true) (h : s.drop m = n ++ 62 :: r) : closeF s n m = .ok (m + n.length + 1) := by
  obtain ⟨_, h2, c, l, h3, _⟩ := isName_spec hn
  have hl : m + n.length ≤ s.length := drop_len h (by rw [h3]; simp)
  have hk : span isNameC s.length (s.drop m) = n.length := by
    rw [h]
    exact span_app _ _ _ _ (by omega) h2 (fun c l e => by cases e; decide)
  have hd := drop_add h
  have e1 : ((s.drop m).take n.length == n) = true := by rw [h, List.take_left]; simp
  have hw : wsN (s.drop (m + n.length)) = 0 := by rw [hd]; exact ws0 (by decide)
  have e2 : (s.drop (m + n.length) == []) = false := by rw [hd]; rfl
  have e3 : List.isPrefixOf [62] (s.drop (m + n.length)) = true := by rw [hd]; simp [List.isPrefixOf]
  simp only [closeF, hk, e1, hw, Nat.add_zero, e2, e3, Bool.not_true, cond_false, cond_true]

/-- How an element's text begins. -/
theorem put_head {p pg : Int} {n t : List UInt8} {o : Bool} {ks : List El} (h : isName n = true) : ∃ c x, putF pg (.mk p n t o ks) = 60 :: c :: x ∧ isLetter c = true := by
  obtain ⟨_, _, c, l, rfl, hc⟩ := isName_spec h
  refine ⟨c, (putF pg (.mk p (c :: l) t o ks)).drop 2, ?_, hc⟩
  simp only [putF, List.append_assoc, List.cons_append, List.nil_append]
  rfl

/-- What stands between a name and its mark's end. -/
def attrT (pg p : Int) (o : Bool) : List UInt8 := (bif p == pg then [] else [32] ++ spaceMark ++ spaceOf p ++ [34]) ++ (bif o then [32] ++ codeMark ++ b64 ++ [34] else [])

theorem attrs_read {pg p : Int} {o : Bool} {f i : Nat} {r : List UInt8} (hp : 0 ≤ p ∧ p < 3) (h : s.drop i = attrT pg p o ++ r) :
    ∃ nm, attrsF s (f + 2) i pg false false = attrsF s (f + (bif p == pg then 1 else 0) + (bif o then 0 else 1)) (i + (attrT pg p o).length) p nm o := by
  cases e1 : p == pg
  · cases o
    · refine ⟨true, ?_⟩
      have ha : attrT pg p false = [32] ++ spaceMark ++ spaceOf p ++ [34] := by simp [attrT, e1]
      rw [ha] at h ⊢
      rw [attrs_space hp h]
      simp only [cond_false, List.length_append, List.length_singleton]
      congr 1
      simp [spaceMark]; omega
    · refine ⟨true, ?_⟩
      have ha : attrT pg p true = ([32] ++ spaceMark ++ spaceOf p ++ [34]) ++ ([32] ++ codeMark ++ b64 ++ [34]) := by simp [attrT, e1]
      rw [ha] at h ⊢
      rw [List.append_assoc] at h
      have hd := drop_add h
      rw [attrs_space hp h]
      have hi : i + ([32] ++ spaceMark ++ spaceOf p ++ [34]).length = i + 9 + (spaceOf p).length := by simp [spaceMark]; omega
      rw [hi] at hd
      rw [attrs_code hd]
      simp only [cond_false, cond_true]
      congr 1
      rw [List.length_append, ← Nat.add_assoc, hi]
      simp [codeMark, b64]
  · have hpp : p = pg := by simpa using e1
    subst hpp
    cases o
    · refine ⟨false, ?_⟩
      have ha : attrT p p false = [] := by simp [attrT]
      rw [ha]; rfl
    · refine ⟨false, ?_⟩
      have ha : attrT p p true = [32] ++ codeMark ++ b64 ++ [34] := by simp [attrT]
      rw [ha] at h ⊢
      rw [attrs_code h]
      rfl
end

theorem kids_le : ∀ (ks : List El) (p : Int), okEs ks → ks.length ≤ (putsF p ks).length
  | [], _, _ => Nat.le_refl _
  | .mk p n t o q :: ks, pg, h => by
    have ih := kids_le ks pg h.2
    obtain ⟨c, x, e, _⟩ := put_head (p := p) (pg := pg) (t := t) (o := o) (ks := q) (check1_ok h.1.1).2.1
    simp only [putsF, List.length_append, e, List.length_cons]
    omega

theorem esc_len : ∀ (t : List UInt8), t.length ≤ (esc t).length
  | [] => Nat.le_refl _
  | c :: t => by
    have := esc_len t
    rw [esc]
    cases c == 38 <;> cases c == 60 <;> cases c == 62 <;> simp <;> omega

def ElemReads (e : El) : Prop := ∀ (d : Nat) (pg : Int) (s : List UInt8) (i : Nat) (r : List UInt8), okE e → dp e ≤ d + 1 → s.drop i = putF pg e ++ r → elemF s d pg i = .ok (e, i + (putF pg e).length)

theorem elem_read (p : Int) (n t : List UInt8) (o : Bool) (ks : List El) (ih : ∀ k ∈ ks, ElemReads k) (ihk : ∀ k ∈ ks, dp k ≤ dps ks) (iho : ∀ k ∈ ks, okEs ks → okE k) : ElemReads (.mk p n t o ks) := by
  intro d pg s i r hok hdp h
  obtain ⟨hc1, hcs⟩ := hok
  obtain ⟨hp, hn, hkl, hkt, _, ho1, ho2⟩ := check1_ok hc1
  obtain ⟨hn1, hn2, c, l, hcl, hlet⟩ := isName_spec hn
  -- the text
  generalize htx : (bif o then encF t else esc t) = tx
  have hfull : putF pg (.mk p n t o ks) = [60] ++ (n ++ (attrT pg p o ++ (bif tx == [] && Nat.beq ks.length 0 then [47, 62] else [62] ++ (tx ++ (putsF p ks ++ ([60, 47] ++ (n ++ [62]))))))) := by
    simp only [putF, htx, attrT, List.append_assoc]
  have hlen : ∀ a b : List UInt8, (a ++ b).length = a.length + b.length := fun a b => List.length_append
  rw [hfull] at h
  generalize hrest : (bif tx == [] && Nat.beq ks.length 0 then [47, 62] else [62] ++ (tx ++ (putsF p ks ++ ([60, 47] ++ (n ++ [62]))))) = rest at h hfull
  have h0 : s.drop i = [60] ++ (n ++ (attrT pg p o ++ (rest ++ r))) := by rw [h]; simp
  have h1 : s.drop (i + 1) = n ++ (attrT pg p o ++ (rest ++ r)) := drop_add h0
  have h2 : s.drop (i + 1 + n.length) = attrT pg p o ++ (rest ++ r) := drop_add h1
  have h3 : s.drop (i + 1 + n.length + (attrT pg p o).length) = rest ++ r := drop_add h2
  have hnl : i + 1 + n.length ≤ s.length := drop_len h1 (by rw [hcl]; simp)
  have e1 : (s.drop i == []) = false := by rw [h0]; rfl
  have e2 : List.isPrefixOf [60] (s.drop i) = true := by rw [h0]; simp [List.isPrefixOf]
  have hstop : ∀ c l, attrT pg p o ++ (rest ++ r) = c :: l → isNameC c = false := by
    intro c l e
    have hh : c = 32 ∨ c = 47 ∨ c = 62 := by
      cases q1 : p == pg
      · simp [attrT, q1] at e; exact .inl e.1.symm
      · cases q2 : o
        · have ha : attrT pg p o = [] := by simp [attrT, q1, q2]
          rw [ha, ← hrest] at e
          cases q3 : (tx == [] && Nat.beq ks.length 0) <;> rw [q3] at e <;> simp at e
          · exact .inr (.inr e.1.symm)
          · exact .inr (.inl e.1.symm)
        · simp [attrT, q1, q2] at e; exact .inl e.1.symm
    rcases hh with rfl | rfl | rfl <;> decide
  have hk : span isNameC s.length (s.drop (i + 1)) = n.length := by
    rw [h1]; exact span_app _ _ _ _ (by omega) hn2 hstop
  have ht : (s.drop (i + 1)).take n.length = n := by rw [h1, List.take_left]
  obtain ⟨f0, hf0⟩ : ∃ f0, s.length + 1 = f0 + 2 := ⟨s.length - 1, by omega⟩
  obtain ⟨nm, hat⟩ := attrs_read (f := f0) hp h2
  generalize hj : i + 1 + n.length + (attrT pg p o).length = j at h3 hat
  obtain ⟨f1, hf1⟩ : ∃ f1, f0 + (bif p == pg then 1 else 0) + (bif o then 0 else 1) = f1 + 1 := by
    cases q1 : p == pg
    · cases q2 : o
      · exact ⟨f0, rfl⟩
      · have hal := drop_len h2 (by simp [attrT, q1])
        simp [attrT, q1, q2, spaceMark] at hal
        exact ⟨f0 - 1, by simp; omega⟩
    · cases q2 : o
      · exact ⟨f0 + 1, rfl⟩
      · exact ⟨f0, rfl⟩
  rw [hf1] at hat
  have helem : ∀ kid more, elemB s kid more pg i = match attrsF s (f1 + 1) j p nm o with
      | .error e => .error e
      | .ok (true, j, p, _) => .ok (.mk p n [] false [], j)
      | .ok (false, j, p, by_) =>
        match withinF s (kid p) more (s.length + 1) j [] [] with
        | .error e => .error e
        | .ok (t, ks, m) =>
          match closeF s n m with
          | .error e => .error e
          | .ok q => endF p n t by_ ks (m - 2) q := by
    intro kid more
    simp only [elemB, e1, e2, hk, ht, hn1, Bool.not_true, cond_false]
    rw [hf0, hat]
    first | done | rfl
  have hplen : i + (putF pg (.mk p n t o ks)).length = j + rest.length := by
    rw [hfull, hlen, hlen, hlen, ← hj]; simp; omega
  have hbody : ∀ kid more, (ks ≠ [] → more = true ∧ ∀ k ∈ ks, ∀ i r, s.drop i = putF p k ++ r → kid p i = .ok (k, i + (putF p k).length)) → elemB s kid more pg i = .ok (.mk p n t o ks, i + (putF pg (.mk p n t o ks)).length) := by
    intro kid more hkid
    rw [helem, hplen]
    cases q3 : (tx == [] && Nat.beq ks.length 0)
    · -- it has a text or kids
      rw [q3, cond_false] at hrest
      subst hrest
      have h4 : s.drop j = 62 :: (tx ++ (putsF p ks ++ ([60, 47] ++ (n ++ 62 :: r)))) := by rw [h3]; simp
      rw [attrs_end2 h4]
      dsimp only
      have h5 : s.drop (j + 1) = tx ++ (putsF p ks ++ ([60, 47] ++ (n ++ 62 :: r))) := drop_add (a := [62]) h4
      have htl : j + 1 + tx.length + (putsF p ks).length + 2 + n.length + 1 ≤ s.length := by
        have := congrArg List.length h5
        simp only [List.length_drop, List.length_append, List.length_cons, List.length_nil] at this
        omega
      have hpost : ∀ m, m = j + 1 + tx.length + (putsF p ks).length + 2 → closeF s n m = .ok (m + n.length + 1) := by
        intro m hm
        refine close_read hn (r := r) ?_
        have a1 := drop_add h5
        have a2 := drop_add a1
        have a3 := drop_add a2
        rw [hm]
        exact a3
      have hjl : ∀ m, m = j + 1 + tx.length + (putsF p ks).length + 2 → j + ([62] ++ (tx ++ (putsF p ks ++ ([60, 47] ++ (n ++ [62]))))).length = m + n.length + 1 := by
        intro m hm; simp; omega
      by_cases hks : ks = []
      · subst hks
        -- a text
        have htx0 : tx = esc (bif o then encF t else t) := by
          rw [← htx]
          cases o
          · rfl
          · exact (esc_safe _ (encF_safe t)).symm
        have hh : withinF s (kid p) more (s.length + 1) (j + 1) [] [] = .ok ((bif o then encF t else t), [], j + 1 + tx.length + 2) := by
          have hel := esc_len (bif o then encF t else t)
          rw [← htx0] at hel
          have hlt : (bif o then encF t else t).length < s.length + 1 := by omega
          rw [within_esc (bif o then encF t else t) (putsF p [] ++ ([60, 47] ++ (n ++ 62 :: r))) (s.length + 1) (j + 1) [] hlt (by rw [h5, htx0]), ← htx0]
          obtain ⟨g, hg⟩ : ∃ g, s.length + 1 - (bif o then encF t else t).length = g + 1 := ⟨s.length - (bif o then encF t else t).length, by omega⟩
          rw [hg, within_end (r := n ++ 62 :: r) (by rw [drop_add h5]; rfl)]
          rfl
        rw [hh]
        dsimp only
        rw [hpost _ (by simp [putsF]), hjl (j + 1 + tx.length + 2) (by simp [putsF])]
        dsimp only
        cases o
        · simp [endF]
        · have hne := ho1 rfl
          simp only [endF, cond_true, decF_encF]
          simp [hne]
      · -- kids
        have hk0 : 0 < ks.length := List.length_pos_iff.2 hks
        have ht0 := hkt hk0
        subst ht0
        have ho0 : o = false := by
          cases o
          · rfl
          · exact absurd rfl (ho1 rfl)
        subst ho0
        have htx0 : tx = [] := by rw [← htx]; rfl
        subst htx0
        obtain ⟨hm, hkid2⟩ := hkid hks
        subst hm
        have hkl2 := kids_le ks p hcs
        simp only [List.length_nil, Nat.add_zero] at htl
        rw [kids_read ks [] (s.length + 1) (j + 1) (n ++ 62 :: r) hkid2 (fun k hk => by
          have := iho k hk hcs
          match k, this with
          | .mk p' n' t' o' ks', h => exact put_head (check1_ok h.1).2.1) (by omega) (by simpa using hkl) (by rw [h5]; rfl)]
        dsimp only
        rw [hpost _ (by simp), hjl (j + 1 + (putsF p ks).length + 2) (by simp)]
        dsimp only
        have e3 : decide (0 < ks.length) = true := by simpa using hk0
        have e4 : (trimF [] == []) = true := by decide
        simp only [endF, List.nil_append, e3, e4, cond_true, Bool.not_false, Bool.and_self]
    · -- nothing
      rw [q3, cond_true] at hrest
      subst hrest
      simp only [Bool.and_eq_true, beq_iff_eq, Nat.beq_eq_true_eq] at q3
      obtain ⟨q3, q4⟩ := q3
      have hks : ks = [] := List.eq_nil_of_length_eq_zero (Nat.eq_of_beq_eq_true q4)
      subst hks
      rw [attrs_end1 (r := r) h3]
      dsimp only
      have ho0 : o = false := by
        cases o
        · rfl
        · exact absurd (encF_nil t (by rw [← htx] at q3; exact q3)) (ho1 rfl)
      subst ho0
      have ht0 : t = [] := esc_nil t (by rw [← htx] at q3; exact q3)
      subst ht0
      rfl
  cases d with
  | zero =>
    refine hbody _ _ (fun hne => ?_)
    obtain ⟨k, hk⟩ := List.exists_mem_of_ne_nil ks hne
    have h1 := ihk k hk
    have h2 : 1 ≤ dp k := by cases k; simp [dp]
    simp only [dp] at hdp
    omega
  | succ d =>
    refine hbody _ _ (fun hne => ⟨rfl, fun k hk i r h => ?_⟩)
    have h1 := ihk k hk
    simp only [dp] at hdp
    exact ih k hk d p s i r (iho k hk hcs) (by omega) h

theorem dps_le : ∀ (ks : List El), ∀ k ∈ ks, dp k ≤ dps ks
  | [], k, h => by simp at h
  | x :: ks, k, h => by
    rw [dps]
    rcases List.mem_cons.1 h with rfl | h
    · exact Nat.le_max_left _ _
    · exact Nat.le_trans (dps_le ks k h) (Nat.le_max_right _ _)
theorem okEs_mem : ∀ (ks : List El), ∀ k ∈ ks, okEs ks → okE k
  | [], k, h, _ => by simp at h
  | x :: ks, k, h, ho => by
    rcases List.mem_cons.1 h with rfl | h
    · exact ho.1
    · exact okEs_mem ks k h ho.2

mutual
theorem reads : ∀ (e : El), ElemReads e
  | .mk p n t o ks => elem_read p n t o ks (readss ks) (dps_le ks) (okEs_mem ks)
theorem readss : ∀ (ks : List El), ∀ k ∈ ks, ElemReads k
  | [], k, h => by simp at h
  | x :: ks, k, h => by
    rcases List.mem_cons.1 h with h | h
    · rw [h]; exact reads x
    · exact readss ks k h
end

/-! A document is a right text. -/
theorem shown_valid {t : List UInt8} (h : shownF t = true) : Lib.validD t = true := by
  simp only [shownF, Bool.and_eq_true] at h
  exact h.1

theorem tail_valid (pg p : Int) (n tx : List UInt8) (o : Bool) (ks : List El) (r : List UInt8) (hp : 0 ≤ p ∧ p < 3) (hn : isName n = true) (htx : ∀ r, Lib.validD (tx ++ r) = Lib.validD r) (hks : ∀ r, Lib.validD (putsF p ks ++ r) = Lib.validD r) :
    Lib.validD (([60] ++ n ++ (bif p == pg then [] else [32] ++ spaceMark ++ spaceOf p ++ [34]) ++ (bif o then [32] ++ codeMark ++ b64 ++ [34] else []) ++
      (bif tx == [] && Nat.beq ks.length 0 then [47, 62] else [62] ++ tx ++ putsF p ks ++ [60, 47] ++ n ++ [62])) ++ r) = Lib.validD r := by
  have hna : ∀ c ∈ n, c < 128 := fun c hc => nameC_not ((isName_spec hn).2.1 c hc)
  have hsp := (spaceOf_spec hp).2
  simp only [List.append_assoc]
  rw [valid_asc (a := [60]) _ (by decide), valid_asc (a := n) _ hna]
  have hA : ∀ r, Lib.validD ((bif p == pg then [] else [32] ++ (spaceMark ++ (spaceOf p ++ [34]))) ++ r) = Lib.validD r := fun r => by
    cases p == pg
    · simp only [cond_false, List.append_assoc]
      rw [valid_asc (a := [32]) _ (by decide), valid_asc (a := spaceMark) _ (by decide), valid_asc (a := spaceOf p) _ (fun c hc => (hsp c hc).2), valid_asc (a := [34]) _ (by decide)]
    · rfl
  have hB : ∀ r, Lib.validD ((bif o then [32] ++ (codeMark ++ (b64 ++ [34])) else []) ++ r) = Lib.validD r := fun r => by
    cases o
    · rfl
    · simp only [cond_true, List.append_assoc]
      rw [valid_asc (a := [32]) _ (by decide), valid_asc (a := codeMark) _ (by decide), valid_asc (a := b64) _ (by decide), valid_asc (a := [34]) _ (by decide)]
  rw [hA, hB]
  cases (tx == [] && Nat.beq ks.length 0)
  · simp only [cond_false, List.append_assoc]
    rw [valid_asc (a := [62]) _ (by decide), htx, hks, valid_asc (a := [60, 47]) _ (by decide), valid_asc (a := n) _ hna, valid_asc (a := [62]) _ (by decide)]
  · simp only [cond_true]
    rw [valid_asc (a := [47, 62]) _ (by decide)]

mutual
theorem put_valid : ∀ (e : El) (pg : Int) (r : List UInt8), okE e → Lib.validD (putF pg e ++ r) = Lib.validD r
  | .mk p n t o ks, pg, r, h => by
    obtain ⟨hp, hn, _, _, _, _, ho⟩ := check1_ok h.1
    refine tail_valid pg p n (bif o then encF t else esc t) o ks r hp hn (fun r => ?_) (fun r => puts_valid ks p r h.2)
    cases o
    · exact esc_valid t.length t r (Nat.le_refl _) (shown_valid (ho rfl))
    · refine valid_asc _ (fun c hc => ?_)
      have := encF_safe t c hc
      simp only [safeB, Bool.and_eq_true, decide_eq_true_eq] at this
      exact this.1.1.1.1
theorem puts_valid : ∀ (ks : List El) (pg : Int) (r : List UInt8), okEs ks → Lib.validD (putsF pg ks ++ r) = Lib.validD r
  | [], pg, r, _ => rfl
  | k :: ks, pg, r, h => by
    rw [putsF, List.append_assoc, put_valid k pg _ h.1, puts_valid ks pg r h.2]
end

/-! What Check says. -/
theorem blt_iff {a b : Nat} : Nat.blt a b = true ↔ a < b := by rw [Nat.blt_eq]

mutual
theorem pre_mono (m m' : Nat) (hm : m ≤ m') : ∀ (e : El) (d : Nat), (pre m e d).length ≤ (pre m' e d).length
  | .mk p n t o ks, d => by
    have ih := pres_mono m m' hm ks (d + 1)
    simp only [pre]
    cases h : Nat.blt m d
    · have h' : Nat.blt m' d = false := by
        cases e : Nat.blt m' d with
        | false => rfl
        | true =>
          have h1 : ¬ m < d := by intro hlt; rw [blt_iff.2 hlt] at h; cases h
          have h2 : m' < d := blt_iff.1 e
          omega
      rw [h', cond_false, cond_false, List.length_cons, List.length_cons]
      omega
    · rw [cond_true]; exact Nat.zero_le _
theorem pres_mono (m m' : Nat) (hm : m ≤ m') : ∀ (ks : List El) (d : Nat), (pres m ks d).length ≤ (pres m' ks d).length
  | [], d => Nat.le_refl _
  | k :: ks, d => by
    have h1 := pre_mono m m' hm k d
    have h2 := pres_mono m m' hm ks d
    simp only [pres, List.length_append]
    omega
end

theorem blt_false {m d : Nat} (h : d ≤ m) : Nat.blt m d = false := by
  cases e : Nat.blt m d with
  | false => rfl
  | true => have := blt_iff.1 e; omega

mutual
theorem pre_dp : ∀ (e : El) (d : Nat), d ≤ 13 → (∀ q ∈ pre 13 e d, q.1 ≤ 12) → d + dp e ≤ 13
  | .mk p n t o ks, d, hd, h => by
    simp only [pre, blt_false hd, cond_false] at h
    have h0 := h (d, .mk p n t o ks) (by simp)
    have := pres_dp ks (d + 1) (by simp only at h0; omega) (fun q hq => h q (by simp [hq]))
    simp only [dp] at this ⊢
    omega
theorem pres_dp : ∀ (ks : List El) (d : Nat), d ≤ 13 → (∀ q ∈ pres 13 ks d, q.1 ≤ 12) → d + dps ks ≤ 13
  | [], d, hd, _ => by simpa [dps] using hd
  | k :: ks, d, hd, h => by
    have h1 := pre_dp k d hd (fun q hq => h q (by simp [pres, hq]))
    have h2 := pres_dp ks d hd (fun q hq => h q (by simp [pres, hq]))
    simp only [dps]
    omega
end

mutual
theorem pre_ok : ∀ (e : El) (d : Nat), d + dp e ≤ 14 → (∀ q ∈ pre 13 e d, check1 q.2 = 0) → okE e
  | .mk p n t o ks, d, hd, h => by
    simp only [dp] at hd
    simp only [pre, blt_false (show d ≤ 13 by omega), cond_false] at h
    exact ⟨h (d, .mk p n t o ks) (by simp), pres_ok ks (d + 1) (by omega) (fun q hq => h q (by simp [hq]))⟩
theorem pres_ok : ∀ (ks : List El) (d : Nat), d + dps ks ≤ 14 → (∀ q ∈ pres 13 ks d, check1 q.2 = 0) → okEs ks
  | [], d, _, _ => trivial
  | k :: ks, d, hd, h => by
    simp only [dps] at hd
    exact ⟨pre_ok k d (by omega) (fun q hq => h q (by simp [pres, hq])), pres_ok ks d (by omega) (fun q hq => h q (by simp [pres, hq]))⟩
end

theorem firstErr_zero : ∀ (l : List (Nat × El)), firstErr l = 0 → ∀ q ∈ l, check1 q.2 = 0
  | [], _, q, hq => by simp at hq
  | p :: l, h, q, hq => by
    rw [firstErr] at h
    cases e : check1 p.2 == 0
    · rw [e, cond_false] at h
      rw [h] at e; simp at e
    · rw [e, cond_true] at h
      rcases List.mem_cons.1 hq with rfl | hq
      · simpa using e
      · exact firstErr_zero l h q hq

theorem check_ok {e : El} (h : checkF e = 0) : okE e ∧ dp e ≤ 12 := by
  unfold checkF at h
  obtain ⟨h1, h⟩ := bif_zero (by omega) h
  obtain ⟨h2, h⟩ := bif_zero (by omega) h
  simp only [weightF, List.length_take, decide_eq_false_iff_not] at h2
  have hm := pre_mono 13 5000 (by omega) e 1
  have hl : looked e = pre 13 e 1 := List.take_of_length_le (by omega)
  rw [hl] at h h1
  simp only [List.any_eq_false, decide_eq_true_eq] at h1
  have hdp := pre_dp e 1 (by omega) (fun q hq => by have := h1 q hq; omega)
  exact ⟨pre_ok e 1 (by omega) (firstErr_zero _ h), by omega⟩

theorem put_ws {e : El} {pg : Int} {r : List UInt8} (hok : okE e) : wsN (putF pg e ++ r) = 0 := by
  cases e with
  | mk p n t o ks =>
    obtain ⟨c, x, e, _⟩ := put_head (p := p) (pg := pg) (t := t) (o := o) (ks := ks) (check1_ok hok.1).2.1
    rw [e]
    exact ws0 (by decide)

/-- THERE AND BACK. -/
theorem read_doc {e : El} (h : checkF e = 0) (hl : (docF e).length ≤ 12000) : readF (docF e) = (e, 0, 0) := by
  obtain ⟨hok, hdp⟩ := check_ok h
  have h1 : decide ((((docF e).length : Nat) : Int) > 12000) = false := by simp; omega
  have h2 : Lib.validD (docF e) = true := by
    have := put_valid e 0 [] hok
    rw [List.append_nil] at this
    rw [docF, valid_asc (a := headF) _ (by decide), this]
    rfl
  have h3 : readR (docF e) = .ok e := by
    have hdoc : docF e = headF ++ putF 0 e := rfl
    generalize hs : docF e = s at hdoc
    have hp : List.isPrefixOf headB s = true := by rw [hdoc]; simp [headB, headF, List.isPrefixOf]
    have hd5 : s.drop 5 = [32, 118, 101, 114, 115, 105, 111, 110, 61, 34, 49, 46, 48, 34] ++ ([63, 62] ++ putF 0 e) := by rw [hdoc]; rfl
    have hu : uptoF s headE 5 = .ok ([32, 118, 101, 114, 115, 105, 111, 110, 61, 34, 49, 46, 48, 34], 21) := by
      have : cutO headE (s.drop 5) = some ([32, 118, 101, 114, 115, 105, 111, 110, 61, 34, 49, 46, 48, 34], putF 0 e) := by
        rw [hd5]; simp [cutO, headE, List.isPrefixOf]
      rw [uptoF, this]
      rfl
    have hd21 : s.drop 21 = putF 0 e ++ [] := by rw [hdoc, List.append_nil]; rfl
    have hw : wsN (s.drop 21) = 0 := by rw [hd21]; exact put_ws hok
    have he := reads e 11 0 s 21 [] hok (by omega) hd21
    have hend := drop_add hd21
    have hw2 : wsN (s.drop (21 + (putF 0 e).length)) = 0 := by rw [hend]; rfl
    have e5 : (s.drop (21 + (putF 0 e).length) == []) = true := by rw [hend]; rfl
    have e6 : (checkF e == 0) = true := by rw [h]; rfl
    simp only [readR, hp, hu, cond_true, hw, Nat.add_zero, he, hw2, e5, e6]
  simp only [readF, h1, h2, h3, cond_false, Bool.not_true]
end Go.Run.Tryd
/- Elements compared; elements one by one. -/
namespace Go.Run.Tryd
open Go Go.Run

mutual
def sameF : El → El → Nat → Bool
  | .mk p n t o ks, .mk p' n' t' o' ks', d => (p == p' && (n == n' && (t == t' && (o == o' && ks.length == ks'.length)))) && (bif decide (1 < d) then samesF ks ks' (d - 1) else true)
def samesF : List El → List El → Nat → Bool
  | [], _, _ => true
  | _ :: _, [], _ => true
  | k :: ks, k' :: ks', d => sameF k k' d && samesF ks ks' d
end

mutual
theorem sameF_refl : ∀ (e : El) (d : Nat), sameF e e d = true
  | .mk p n t o ks, d => by
    have := samesF_refl ks (d - 1)
    simp only [sameF, beq_self_eq_true, Bool.and_self, this, Bool.true_and]
    cases decide (1 < d) <;> rfl
theorem samesF_refl : ∀ (ks : List El) (d : Nat), samesF ks ks d = true
  | [], d => rfl
  | k :: ks, d => by rw [samesF, sameF_refl k d, samesF_refl ks d]; rfl
end

mutual
/-- No row of kids is too long for any machine. -/
def fits : El → Prop
  | .mk _ _ _ _ ks => ks.length ≤ 140737488355328 ∧ fitss ks
def fitss : List El → Prop
  | [] => True
  | k :: ks => fits k ∧ fitss ks
end
theorem fitss_mem : ∀ (ks : List El), fitss ks → ∀ k ∈ ks, fits k
  | [], _, k, h => by simp at h
  | x :: ks, h, k, hk => by
    rcases List.mem_cons.1 hk with rfl | hk
    · exact h.1
    · exact fitss_mem ks h.2 k hk
theorem fitss_of : ∀ (ks : List El), (∀ k ∈ ks, fits k) → fitss ks
  | [], _ => trivial
  | x :: ks, h => ⟨h x (by simp), fitss_of ks (fun k hk => h k (by simp [hk]))⟩

/-- Pairs of a depth and an element, as cells. -/
def pairsC : List (Nat × El) → List DV
  | [] => []
  | p :: l => .int .i64 (p.1 : Nat) :: elC p.2 ++ pairsC l

theorem pairsC_length : ∀ (l : List (Nat × El)), (pairsC l).length = l.length * 6
  | [] => rfl
  | p :: l => by simp only [pairsC, List.cons_append, List.length_cons, List.length_append, elC_length, pairsC_length l]; omega
theorem pairsC_append : ∀ (a b : List (Nat × El)), pairsC (a ++ b) = pairsC a ++ pairsC b
  | [], b => rfl
  | p :: a, b => by simp only [List.cons_append, pairsC, pairsC_append a b, List.append_assoc]
theorem pairsC_at : ∀ (l : List (Nat × El)) (i : Nat) (p : Nat × El), l[i]? = some p → ((pairsC l).drop (i * 6)).take 6 = .int .i64 (p.1 : Nat) :: elC p.2
  | [], i, p, h => by simp at h
  | q :: l, 0, p, h => by
    simp only [List.getElem?_cons_zero, Option.some.injEq] at h
    subst h
    have h6 : (DV.int .i64 (q.1 : Nat) :: elC q.2).length = 6 := by simp [elC_length]
    simp only [pairsC, Nat.zero_mul, List.drop_zero]
    rw [← h6, List.take_left]
  | q :: l, i + 1, p, h => by
    have ih := pairsC_at l i p (by simpa using h)
    have h6 : (DV.int .i64 (q.1 : Nat) :: elC q.2).length = 6 := by simp [elC_length]
    have e : (i + 1) * 6 = (DV.int .i64 (q.1 : Nat) :: elC q.2).length + i * 6 := by rw [h6]; omega
    rw [pairsC, e, ← List.drop_drop, List.drop_left]
    exact ih

theorem elsC_at : ∀ (l : List El) (i : Nat) (x : El), l[i]? = some x → ((elsC l).drop (i * 5)).take 5 = elC x
  | [], i, p, h => by simp at h
  | q :: l, 0, p, h => by
    simp only [List.getElem?_cons_zero, Option.some.injEq] at h
    subst h
    simp only [elsC, Nat.zero_mul, List.drop_zero]
    rw [← elC_length q, List.take_left]
  | q :: l, i + 1, p, h => by
    have ih := elsC_at l i p (by simpa using h)
    have e : (i + 1) * 5 = (elC q).length + i * 5 := by rw [elC_length]; omega
    rw [elsC, e, ← List.drop_drop, List.drop_left]
    exact ih

/-- One by one, as far as it is asked. -/
def runL {σ : Type} (step : σ → Nat → El → σ × Bool) : σ → List (Nat × El) → σ × Bool
  | s, [] => (s, true)
  | s, p :: l => bif (step s p.1 p.2).2 then runL step (step s p.1 p.2).1 l else ((step s p.1 p.2).1, false)

theorem runL_append {σ : Type} (step : σ → Nat → El → σ × Bool) : ∀ (a b : List (Nat × El)) (s : σ), runL step s (a ++ b) = bif (runL step s a).2 then runL step (runL step s a).1 b else ((runL step s a).1, false)
  | [], b, s => rfl
  | p :: a, b, s => by
    simp only [List.cons_append, runL]
    cases (step s p.1 p.2).2
    · rfl
    · simp only [cond_true]
      exact runL_append step a b _
end Go.Run.Tryd
