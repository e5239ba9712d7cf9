/- Texts of statements and declarations. -/
import Derived.Test.YtnhblghplohonaaGreatDoorAbR
set_option linter.unusedSimpArgs false
set_option linter.unusedVariables false
namespace Go.Proofs.YtnhblghplohonaaGreatDoor.Ab
open Go

/-- What stands behind '='. -/
def iniT : List Nd → List UInt8
  | [] => []
  | x :: _ => 32 :: 61 :: 32 :: (if x.kind = 44 then 123 :: (join2 [] (x.kids.map tx) ++ [125]) else tx x)
def optT (n : Nd) : List UInt8 := if n.kind = 56 then [] else tx n
/-- A declared variable's. -/
def varT (v : Nd) : List UInt8 := v.str ++ (if v.flag then (match v.kids with | [] => [] | x :: r => 91 :: (optT x ++ 93 :: iniT r)) else iniT v.kids)
/-- A parameter's. -/
def parT (v : Nd) : List UInt8 := (match v.kids with | x :: _ => x.str | [] => []) ++ 32 :: ((if v.num = 1 then [42] else []) ++ (v.str ++ (if v.flag then [91, 93] else [])))
mutual
/-- A statement's or a declaration's text, with its newline. -/
def ln : Nd → List UInt8
  | .mk k s _ _ _ l _ =>
    if k = 47 then 123 :: 10 :: ((lns l).flatten ++ [125, 10])
    else if k = 41 then [115, 116, 114, 117, 99, 116, 32] ++ (s ++ 32 :: 123 :: 10 :: ((lns l).flatten ++ [125, 59, 10]))
    else if k = 42 then (match l with | x :: r => x.str ++ 32 :: (join2 [] (r.map varT) ++ [59, 10]) | _ => [])
    else if k = 45 then (match l with | x :: r => x.str ++ 32 :: (s ++ 40 :: (join2 [] (r.dropLast.map parT) ++ 41 :: 32 :: (lns l).getLastD [])) | _ => [])
    else if k = 48 then (match l with | [x] => tx x ++ [59, 10] | _ => [])
    else if k = 49 then (match l, lns l with
      | [c, _], [_, ta] => [105, 102, 32, 40] ++ (tx c ++ 41 :: 10 :: ta)
      | [c, _, _], [_, ta, tb] => [105, 102, 32, 40] ++ (tx c ++ 41 :: 10 :: (ta ++ ([101, 108, 115, 101, 10] ++ tb)))
      | _, _ => [])
    else if k = 50 then (match l, lns l with | [c, _], [_, ta] => [119, 104, 105, 108, 101, 32, 40] ++ (tx c ++ 41 :: 10 :: ta) | _, _ => [])
    else if k = 51 then (match l, lns l with | [_, c], [ta, _] => 100 :: 111 :: 10 :: (ta ++ ([119, 104, 105, 108, 101, 32, 40] ++ (tx c ++ [41, 59, 10]))) | _, _ => [])
    else if k = 52 then (match l, lns l with | [a, b, c, _], [_, _, _, td] => [102, 111, 114, 32, 40] ++ (optT a ++ 59 :: 32 :: (optT b ++ 59 :: 32 :: (optT c ++ 41 :: 10 :: td))) | _, _ => [])
    else if k = 53 then [98, 114, 101, 97, 107, 59, 10]
    else if k = 54 then [99, 111, 110, 116, 105, 110, 117, 101, 59, 10]
    else if k = 55 then (match l with | [x] => [114, 101, 116, 117, 114, 110, 32] ++ (tx x ++ [59, 10]) | _ => [114, 101, 116, 117, 114, 110, 59, 10])
    else [59, 10]
def lns : List Nd → List (List UInt8)
  | [] => []
  | x :: r => ln x :: lns r
end
theorem lns_map : ∀ l : List Nd, lns l = l.map ln
  | [] => rfl
  | x :: r => by rw [lns, lns_map r, List.map_cons]
theorem ln_47 {n : Nd} (h : n.kind = 47) : ln n = 123 :: 10 :: ((n.kids.map ln).flatten ++ [125, 10]) := by
  cases n; simp only [Nd.kind] at h; subst h
  conv => lhs; unfold ln
  simp [lns_map, Nd.kids]
theorem ln_41 {n : Nd} (h : n.kind = 41) : ln n = [115, 116, 114, 117, 99, 116, 32] ++ (n.str ++ 32 :: 123 :: 10 :: ((n.kids.map ln).flatten ++ [125, 59, 10])) := by
  cases n; simp only [Nd.kind] at h; subst h
  conv => lhs; unfold ln
  simp [lns_map, Nd.kids, Nd.str]
theorem ln_42 {n x : Nd} {r : List Nd} (h : n.kind = 42) (hk : n.kids = x :: r) : ln n = x.str ++ 32 :: (join2 [] (r.map varT) ++ [59, 10]) := by
  cases n; simp only [Nd.kind, Nd.kids] at h hk; subst h hk
  conv => lhs; unfold ln
  simp
theorem ln_45 {n x : Nd} {r : List Nd} (h : n.kind = 45) (hk : n.kids = x :: r) : ln n = x.str ++ 32 :: (n.str ++ 40 :: (join2 [] (r.dropLast.map parT) ++ 41 :: 32 :: ((x :: r).map ln).getLastD [])) := by
  cases n; simp only [Nd.kind, Nd.kids] at h hk; subst h hk
  conv => lhs; unfold ln
  simp [lns_map, Nd.str]
theorem ln_48 {n x : Nd} (h : n.kind = 48) (hk : n.kids = [x]) : ln n = tx x ++ [59, 10] := by
  cases n; simp only [Nd.kind, Nd.kids] at h hk; subst h hk
  conv => lhs; unfold ln
  simp
theorem ln_49 {n c a : Nd} (h : n.kind = 49) (hk : n.kids = [c, a]) : ln n = [105, 102, 32, 40] ++ (tx c ++ 41 :: 10 :: ln a) := by
  cases n; simp only [Nd.kind, Nd.kids] at h hk; subst h hk
  conv => lhs; unfold ln
  simp [lns_map]
theorem ln_49' {n c a b : Nd} (h : n.kind = 49) (hk : n.kids = [c, a, b]) : ln n = [105, 102, 32, 40] ++ (tx c ++ 41 :: 10 :: (ln a ++ ([101, 108, 115, 101, 10] ++ ln b))) := by
  cases n; simp only [Nd.kind, Nd.kids] at h hk; subst h hk
  conv => lhs; unfold ln
  simp [lns_map]
theorem ln_50 {n c a : Nd} (h : n.kind = 50) (hk : n.kids = [c, a]) : ln n = [119, 104, 105, 108, 101, 32, 40] ++ (tx c ++ 41 :: 10 :: ln a) := by
  cases n; simp only [Nd.kind, Nd.kids] at h hk; subst h hk
  conv => lhs; unfold ln
  simp [lns_map]
theorem ln_51 {n c a : Nd} (h : n.kind = 51) (hk : n.kids = [a, c]) : ln n = 100 :: 111 :: 10 :: (ln a ++ ([119, 104, 105, 108, 101, 32, 40] ++ (tx c ++ [41, 59, 10]))) := by
  cases n; simp only [Nd.kind, Nd.kids] at h hk; subst h hk
  conv => lhs; unfold ln
  simp [lns_map]
theorem ln_52 {n a b c d : Nd} (h : n.kind = 52) (hk : n.kids = [a, b, c, d]) : ln n = [102, 111, 114, 32, 40] ++ (optT a ++ 59 :: 32 :: (optT b ++ 59 :: 32 :: (optT c ++ 41 :: 10 :: ln d))) := by
  cases n; simp only [Nd.kind, Nd.kids] at h hk; subst h hk
  conv => lhs; unfold ln
  simp [lns_map]
theorem ln_53 {n : Nd} (h : n.kind = 53) : ln n = [98, 114, 101, 97, 107, 59, 10] := by
  cases n; simp only [Nd.kind] at h; subst h
  conv => lhs; unfold ln
  simp
theorem ln_54 {n : Nd} (h : n.kind = 54) : ln n = [99, 111, 110, 116, 105, 110, 117, 101, 59, 10] := by
  cases n; simp only [Nd.kind] at h; subst h
  conv => lhs; unfold ln
  simp
theorem ln_55 {n : Nd} (h : n.kind = 55) (hk : n.kids = []) : ln n = [114, 101, 116, 117, 114, 110, 59, 10] := by
  cases n; simp only [Nd.kind, Nd.kids] at h hk; subst h hk
  conv => lhs; unfold ln
  simp
theorem ln_55' {n x : Nd} (h : n.kind = 55) (hk : n.kids = [x]) : ln n = [114, 101, 116, 117, 114, 110, 32] ++ (tx x ++ [59, 10]) := by
  cases n; simp only [Nd.kind, Nd.kids] at h hk; subst h hk
  conv => lhs; unfold ln
  simp
theorem ln_56 {n : Nd} (h : n.kind = 56) : ln n = [59, 10] := by
  cases n; simp only [Nd.kind] at h; subst h
  conv => lhs; unfold ln
  simp

/- ### What statements that may be have -/
/-- A statement or a declaration that may be. -/
def okL (n : Nd) : Bool := mayP n && (isS n || n.kind == 41 || n.kind == 42 || n.kind == 45)
theorem okL_S {n : Nd} (h : okL n = true) (hk : 47 ≤ n.kind ∧ n.kind ≤ 56) : statsP n = true ∧ ∀ x ∈ n.kids, mayP x = true := by
  have h1 := okS_stats hk.1 hk.2
  have hS : isS n = true := by rw [isS_range]; simp [hk]
  have h2 : okS n = true := by unfold okL at h; unfold okS; simp only [Bool.and_eq_true] at h; simp [hS, h.1]
  rw [h1] at h2
  simp only [Bool.and_eq_true, List.all_eq_true] at h2
  exact ⟨h2.1.2, h2.2⟩
theorem okL_D {n : Nd} (h : okL n = true) (hk : n.kind = 41 ∨ n.kind = 42 ∨ n.kind = 45) : declsP n = true ∧ ∀ x ∈ n.kids, mayP x = true := by
  unfold okL at h
  simp only [Bool.and_eq_true] at h
  have h1 := h.1
  rw [mayP_eq] at h1
  simp only [Bool.and_eq_true, List.all_eq_true] at h1
  refine ⟨?_, h1.2⟩
  have h2 := h1.1
  unfold itselfP isE isS at h2
  rcases hk with hk | hk | hk <;> simp [hk] at h2 <;> exact h2.2
theorem okL_kid {x : Nd} (h : mayP x = true) (hs : isS x = true) : okL x = true := by unfold okL; simp [h, hs]
theorem okL_42 {x : Nd} (h : mayP x = true) (hs : x.kind = 42) : okL x = true := by unfold okL; simp [h, hs]
theorem okE_kid {x : Nd} (h : mayP x = true) (hs : isE x = true) : okE x = true := by unfold okE; simp [h, hs]
theorem okQ_kid {x : Nd} (h : mayP x = true) (hs : isQ x = true) : x.kind = 56 ∨ okE x = true := by
  unfold isQ at hs
  simp only [Bool.or_eq_true, beq_iff_eq] at hs
  exact hs.imp id fun he => okE_kid h he
end Go.Proofs.YtnhblghplohonaaGreatDoor.Ab
