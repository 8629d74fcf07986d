/- Texts of this claim, those in one that belong together; printed by a program of this project. -/
import Derived.Lib.IndexLaws
import Derived.Lib.IndexMore
import Derived.Test.YtkkmmpofdcccmaaGreatDoorProg
import Derived.Test.YtkkmmpofdcccmaaGreatDoorKScriptParses3
set_option linter.unusedVariables false
set_option linter.unusedSimpArgs false
namespace Go.Proofs.YtkkmmpofdcccmaaGreatDoor.Col
open E Go.RowKit
def ns (G : List Nat) : List Int:=G.map fun n : Nat=>(n : Int)
theorem ns_len (G : List Nat) : (ns G).length = G.length:=by simp [ns]
def gv (G : List Nat) : Vector Int 8:=lvec 8 (ns (G ++ List.replicate (8 - G.length) 0))
theorem gv_toList {G : List Nat} (h : G.length ≤ 8) : (gv G).toList = ns (G ++ List.replicate (8 - G.length) 0):=by
 have hl : (ns (G ++ List.replicate (8 - G.length) 0)).length = 8:=by rw [ns_len]; simp; omega
 unfold gv
 rw [lvec_toList 8 _ (by omega),List.take_of_length_le (by omega)]
theorem gv_of {v : Vector Int 8} {G : List Nat} (h : v.toList = ns G) : v = gv G:=by
 have hl : G.length = 8:=by have:=congrArg List.length h; rw [ns_len] at this; simpa using this.symm
 apply Vector.toList_inj.1
 rw [gv_toList (by omega),h,hl]; simp
theorem gv_set {G : List Nat} (h : G.length < 8) (n : Nat) : vset (gv G) (G.length : Int) (n : Int) = gv (G ++ [n]):=by
 apply Vector.toList_inj.1
 rw [vset_toList,gv_toList (by omega),gv_toList (by simp; omega),Int.toNat_natCast]
 unfold ns
 rw [← List.map_set,List.set_append_right _ _ (Nat.le_refl _),Nat.sub_self,show 8 - G.length = (8 - (G.length + 1)) + 1 by omega,List.replicate_succ]
 simp
theorem gv_zero : (Vector.replicate 8 (0 : Int) : Vector Int 8) = gv []:=by
 apply Vector.toList_inj.1; rw [gv_toList (by simp)]; rfl
theorem ns_get (G : List Nat) (i : Nat) (n : Nat) (h : G[i]? = some n) : (ns G).getD i default = (n : Int):=by
 unfold ns; rw [List.getD_eq_getElem?_getD,List.getElem?_map,h]; rfl
theorem gv_get {G : List Nat} (h8 : G.length = 8) (i : Nat) (n : Nat) (h : G[i]? = some n) : vget (gv G) (i : Int) = (n : Int):=by
 unfold vget
 rw [gv_toList (by omega),h8,Int.toNat_natCast,show 8 - 8 = 0 from rfl,List.replicate_zero,List.append_nil]
 exact ns_get G i n h
def rd (acc : List Nat) (gp : Int) : S_colon_reader:={ f_g:=gv acc,f_n:=(acc.length : Int),f_gap:=gp }
def Res (r : Option (Bool × S_colon_reader)) (o : Option (List Nat × Int)) : Prop:=match o with
 | some (G,gp)=>r = some (true,rd G gp)
 | none=>∃ s',r = some (false,s')
def addG (acc l : List Nat) (gp : Int) : Option (List Nat × Int):=if acc.length + l.length ≤ 8 then some (acc ++ l,gp) else none
theorem put_full {acc : List Nat} (h : acc.length = 8) (gp : Int) (x : Int) : colon_reader_put (rd acc gp) x = some (false,rd acc gp):=by
 unfold colon_reader_put
 have e : ((rd acc gp).f_n == 8) = true:=by show ((acc.length : Int) == 8) = true; rw [h]; rfl
 rw [e,if_pos rfl]
theorem put_ok {acc : List Nat} (h : acc.length < 8) (gp : Int) (n : Nat) : colon_reader_put (rd acc gp) (n : Int) = some (true,rd (acc ++ [n]) gp):=by
 unfold colon_reader_put
 have e : ((rd acc gp).f_n == 8) = false:=by
  show ((acc.length : Int) == 8) = false
  rw [beq_eq_false_iff_ne]; omega
 have hb : (0 : Int) ≤ (rd acc gp).f_n ∧ (rd acc gp).f_n < 8:=by show (0 : Int) ≤ (acc.length : Int) ∧ (acc.length : Int) < 8; omega
 rw [e,if_neg Bool.false_ne_true,if_pos hb]
 refine congrArg some (congrArg (Prod.mk true) ?_)
 show S_colon_reader.mk (vset (gv acc) (acc.length : Int) (n : Int)) (wr .i64 ((acc.length : Int) + 1)) gp = S_colon_reader.mk (gv (acc ++ [n])) ((acc ++ [n]).length : Int) gp
 rw [gv_set h,wr_i64 (by omega) (by omega)]
 congr 1
 simp
theorem or16 (a b : Nat) (ha : a < 256) (hb : b < 256) : ior .u16 (ishl .u16 (wr .u16 (a : Int)) 8) (wr .u16 (b : Int)) = ((256 * a + b : Nat) : Int):=by
 rw [wr_u16 (by omega) (by omega),wr_u16 (by omega) (by omega),show (8 : Int) = ((8 : Nat) : Int) from rfl,ishl_nat .u16 rfl a 8 (by decide)]
 have e : (a * 2 ^ 8) % 2 ^ IntKind.u16.bits = a * 256:=by show (a * 256) % 65536 = _; omega
 rw [e,ior_nat .u16 rfl _ _ (by show _ < 65536; omega) (by show _ < 65536; omega)]
 have h2:=Nat.two_pow_add_eq_or_of_lt (i:=8) (b:=b) (by simpa using hb) a
 have e3 : 2 ^ 8 * a = a * 256:=by omega
 rw [e3] at h2
 rw [← h2,Nat.mul_comm a 256]
theorem tail_ok {acc : List Nat} (h : acc.length ≤ 8) (gp : Int) (p : List UInt8) (hp : p.length < 1000000) : Res (colon_reader_tail (rd acc gp) (bs p)) ((lst true [p]).bind fun x=>addG acc x gp):=by
 unfold colon_reader_tail
 rw [Hex.read_eq,bindM_some]
 unfold lst
 cases hr : Hex.read (bs p) with
 | some n =>
  show Res (if ((0 : Int) == 0) = true then _ else _) (((lst true []).map (n::·)).bind _)
  rw [if_pos (by rfl)]
  show Res _ (addG acc [n] gp)
  unfold addG
  by_cases h8 : acc.length = 8
  ·rw [put_full h8,if_neg (by simp; omega)]
   exact ⟨_,rfl⟩
  ·rw [put_ok (by omega),if_pos (by simp; omega)]
   rfl
 | none =>
  show Res (if ((5 : Int) == 0) = true then _ else _) _
  rw [if_neg (by decide),quad_parse p hp,bindM_some]
  by_cases h0 : (quadP p).2 = 0
  ·obtain ⟨m,hm,hq,_⟩:=quadP_back h0
   simp only [h0,and_self,if_pos,Option.bind_some]
   match m,hm with
   | [a,b,c,d],hm =>
    have ha:=a.toNat_lt
    have hb:=b.toNat_lt
    have hc:=c.toNat_lt
    have hd:=d.toNat_lt
    rw [hq]
    have e0 : vget (v4 [a,b,c,d]) 0 = (a.toNat : Int):=vget_v4 hm 0 a rfl
    have e1 : vget (v4 [a,b,c,d]) 1 = (b.toNat : Int):=vget_v4 hm 1 b rfl
    have e2 : vget (v4 [a,b,c,d]) 2 = (c.toNat : Int):=vget_v4 hm 2 c rfl
    have e3 : vget (v4 [a,b,c,d]) 3 = (d.toNat : Int):=vget_v4 hm 3 d rfl
    have eq : q2 (v4 [a,b,c,d]) = [256 * a.toNat + b.toNat,256 * c.toNat + d.toNat]:=by unfold q2; rw [e0,e1,e2,e3]; rfl
    show Res (if ((0 : Int) == 0) = true then (colon_reader_put (rd acc gp) (ior .u16 (ishl .u16 (wr .u16 (vget (v4 [a,b,c,d]) 0)) 8) (wr .u16 (vget (v4 [a,b,c,d]) 1))) >>= fun t7=>if t7.1 = true then (colon_reader_put t7.2 (ior .u16 (ishl .u16 (wr .u16 (vget (v4 [a,b,c,d]) 2)) 8) (wr .u16 (vget (v4 [a,b,c,d]) 3))) >>= fun t9=>some (t9.1,t9.2)) else (some (false,t7.2))) else _) (addG acc (q2 (v4 [a,b,c,d])) gp)
    rw [if_pos (by rfl),e0,e1,e2,e3,or16 _ _ ha hb,or16 _ _ hc hd,eq]
    unfold addG
    by_cases h8 : acc.length = 8
    ·rw [put_full h8,bindM_some,if_neg Bool.false_ne_true,if_neg (by simp; omega)]
     exact ⟨_,rfl⟩
    ·rw [put_ok (by omega),bindM_some,if_pos rfl]
     by_cases h7 : acc.length = 7
     ·rw [put_full (by simp; omega),bindM_some,if_neg (by simp; omega)]
      exact ⟨_,rfl⟩
     ·rw [put_ok (by simp; omega),bindM_some,if_pos (by simp; omega)]
      show _ = some (true,rd (acc ++ [_,_]) gp)
      rw [List.append_assoc]; rfl
  ·have hb : ((viOf (quadP p)).2 == 0) = false:=by rw [beq_eq_false_iff_ne]; show (((quadP p).2 : Nat) : Int) ≠ 0; omega
   rw [hb,if_neg Bool.false_ne_true]
   simp only [h0,false_and,if_false,Option.bind_none]
   exact ⟨_,rfl⟩
def isC : List UInt8 → Bool
 | x::_=>x == 58
 | []=>false
def isCC : List UInt8 → Bool
 | x::y::_=>x == 58 && y == 58
 | _=>false
theorem isC_iff (r : List UInt8) : isC r = true ↔ ∃ r2,r = 58::r2:=by
 cases r with
 | nil=>simp [isC]
 | cons x r=>simp [isC]
theorem isCC_iff (r : List UInt8) : isCC r = true ↔ ∃ r2,r = 58::58::r2:=by
 match r with
 | []=>simp [isCC]
 | [x]=>simp [isCC]
 | x::y::r=>simp [isCC]
theorem pre1 (r : List UInt8) : strings_HasPrefix (bs r) (⟨#[58]⟩ : ByteArray) = some (isC r):=by
 unfold strings_HasPrefix stringslite_HasPrefix
 cases r with
 | nil=>rw [if_neg (by decide)]; rfl
 | cons x r =>
  have hsz : (bs (x::r)).size = r.length + 1:=bs_size _
  have h1 : ((⟨#[58]⟩ : ByteArray).size : Int) = 1:=rfl
  rw [h1,hsz,if_pos (decide_eq_true (by omega)),if_pos (by omega),bindM_some]
  refine congrArg some ?_
  show seq ((bs (x::r)).extract 0 1) (bs [58]) = _
  rw [bs_extract]
  by_cases hx : x = 58
  ·subst hx
   exact seq_self _
  ·have hf : isC (x::r) = false:=by simp [isC,hx]
   rw [hf]
   cases hc : seq (bs ((List.take 1 (x::r)).drop 0)) (bs [58]) with
   | false=>rfl
   | true =>
    have:=bs_inj ((seq_iff _ _).1 hc)
    simp at this
    exact absurd this hx
theorem pre2 (r : List UInt8) : strings_HasPrefix (bs r) (⟨#[58,58]⟩ : ByteArray) = some (isCC r):=by
 unfold strings_HasPrefix stringslite_HasPrefix
 match r with
 | []=>rw [if_neg (by decide)]; rfl
 | [x] =>
  have hsz : (bs [x]).size = 1:=bs_size _
  have h1 : ((⟨#[58,58]⟩ : ByteArray).size : Int) = 2:=rfl
  rw [h1,hsz,if_neg (by decide)]; rfl
 | x::y::r =>
  have hsz : (bs (x::y::r)).size = r.length + 2:=bs_size _
  have h1 : ((⟨#[58,58]⟩ : ByteArray).size : Int) = 2:=rfl
  rw [h1,hsz,if_pos (decide_eq_true (by omega)),if_pos (by omega),bindM_some]
  refine congrArg some ?_
  show seq ((bs (x::y::r)).extract 0 2) (bs [58,58]) = _
  rw [bs_extract]
  by_cases hx : x = 58 ∧ y = 58
  ·obtain ⟨rfl,rfl⟩:=hx
   exact seq_self _
  ·have hf : isCC (x::y::r) = false:=by
    cases hc : isCC (x::y::r) with
    | false=>rfl
    | true=>simp [isCC] at hc; exact absurd hc hx
   rw [hf]
   cases hc : seq (bs ((List.take 2 (x::y::r)).drop 0)) (bs [58,58]) with
   | false=>rfl
   | true =>
    have:=bs_inj ((seq_iff _ _).1 hc)
    simp at this
    exact absurd this hx
def Loop (R : ByteArray → S_colon_reader → Option (Bool × S_colon_reader)) : Prop:=∀ s st,R s st = (lines_Cut s 58 >>= fun t8=>if (!t8.2.2) = true then (colon_reader_tail st t8.1 >>= fun t10=>some (t10.1,t10.2)) else (hexes_ReadGroup t8.1 >>= fun t11=>if (t11.2 != 0) = true then (some (false,st)) else (colon_reader_put st t11.1 >>= fun t13=>if (!t13.1) = true then (some (false,t13.2)) else (strings_HasPrefix t8.2.1 (⟨#[58]⟩ : ByteArray) >>= fun t15=>if (!t15) = true then (R t8.2.1 t13.2) else (if (decide (t13.2.f_gap ≥ 0)) = true then (some (false,t13.2)) else (if (0 : Int) ≤ 1 ∧ 1 ≤ (t8.2.1.size : Int) ∧ (t8.2.1.size : Int) ≤ (t8.2.1.size : Int) then if (seq (t8.2.1.extract (Int.toNat 1) (Int.toNat (t8.2.1.size : Int))) (⟨#[]⟩ : ByteArray)) = true then (some (true,{ t13.2 with f_gap:=t13.2.f_n })) else (R (t8.2.1.extract (Int.toNat 1) (Int.toNat (t8.2.1.size : Int))) ({ t13.2 with f_gap:=t13.2.f_n })) else none))))))
theorem loop0 : Loop colon_reader_read.l0:=fun s st=>colon_reader_read.l0.eq_def s st
theorem loop1 : Loop colon_reader_read.l1:=fun s st=>colon_reader_read.l1.eq_def s st
theorem seq_nil (l : List UInt8) : seq (bs l) (⟨#[]⟩ : ByteArray) = true ↔ l = []:=by
 rw [seq_iff]
 exact ⟨fun h=>bs_inj (k:=[]) h,fun h=>by rw [h]; rfl⟩
theorem res_pair {r : Option (Bool × S_colon_reader)} {o : Option (List Nat × Int)} (h : Res r o) : Res (r >>= fun t=>some (t.1,t.2)) o:=by
 unfold Res at *
 cases o with
 | none=>obtain ⟨s',h⟩:=h; rw [h]; exact ⟨s',rfl⟩
 | some q=>obtain ⟨G,gp⟩:=q; simp only at h ⊢; rw [h]; rfl
theorem res_id {r : Option (Bool × S_colon_reader)} {o : Option (List Nat × Int)} (h : Res r o) : Res (r >>= fun t=>some t) o:=by
 cases r <;> exact h
theorem round {R : ByteArray → S_colon_reader → Option (Bool × S_colon_reader)} (hR : Loop R) {acc : List Nat} (gp : Int) (p r : List UInt8) (hp : ∀ x ∈ p,x ≠ 58) (hl : p.length + r.length < 1000000) :
  (Hex.read (bs p) = none ∨ acc.length = 8 → ∃ s',R (bs (p ++ 58::r)) (rd acc gp) = some (false,s')) ∧
  (∀ n,Hex.read (bs p) = some n → acc.length < 8 → (∀ r2,r ≠ 58::r2) → R (bs (p ++ 58::r)) (rd acc gp) = R (bs r) (rd (acc ++ [n]) gp)) ∧
  (∀ n r2,Hex.read (bs p) = some n → acc.length < 8 → r = 58::r2 → 0 ≤ gp → ∃ s',R (bs (p ++ 58::r)) (rd acc gp) = some (false,s')) ∧
  (∀ n r2,Hex.read (bs p) = some n → acc.length < 8 → r = 58::r2 → gp < 0 → R (bs (p ++ 58::r)) (rd acc gp) = if r2 = [] then some (true,rd (acc ++ [n]) ((acc ++ [n]).length : Int)) else R (bs r2) (rd (acc ++ [n]) ((acc ++ [n]).length : Int))):=by
 have h58 : ((58 : UInt8).toNat : Int) = 58:=rfl
 have hcut:=cut_some p r 58 hp hl
 rw [h58] at hcut
 have h1 : ∀ (r2 : List UInt8),r = 58::r2 → (bs r).extract (Int.toNat 1) (Int.toNat ((bs r).size : Int)) = bs r2:=by
  intro r2 e
  rw [Int.toNat_natCast,bs_extract,bs_size,List.take_of_length_le (Nat.le_refl _),e]; rfl
 have h2 : ∀ (r2 : List UInt8),r = 58::r2 → (0 : Int) ≤ 1 ∧ 1 ≤ ((bs r).size : Int) ∧ ((bs r).size : Int) ≤ ((bs r).size : Int):=by
  intro r2 e
  rw [bs_size,e,List.length_cons]; omega
 refine ⟨fun h=>?_,fun n hn h8 hr=>?_,fun n r2 hn h8 hr hg=>?_,fun n r2 hn h8 hr hg=>?_⟩
 ·rw [hR,hcut,bindM_some]
  show ∃ s',(if (!true) = true then _ else _) = _
  rw [if_neg (by decide),Hex.read_eq,bindM_some]
  cases hq : Hex.read (bs p) with
  | none =>
   show ∃ s',(if ((5 : Int) != 0) = true then _ else _) = _
   rw [if_pos (by decide)]
   exact ⟨_,rfl⟩
  | some n =>
   show ∃ s',(if ((0 : Int) != 0) = true then _ else _) = _
   have h8 : acc.length = 8:=by rcases h with h | h; rw [h] at hq; cases hq; exact h
   rw [if_neg (by decide),put_full h8,bindM_some]
   exact ⟨_,rfl⟩
 ·rw [hR,hcut,bindM_some]
  show (if (!true) = true then _ else _) = _
  rw [if_neg (by decide),Hex.read_eq,bindM_some,hn]
  show (if ((0 : Int) != 0) = true then _ else _) = _
  rw [if_neg (by decide),put_ok h8,bindM_some]
  show (if (!true) = true then _ else _) = _
  have hf : isC r = false:=by
   cases hc : isC r with
   | false=>rfl
   | true=>obtain ⟨r2,h⟩:=(isC_iff r).1 hc; exact absurd h (hr r2)
  rw [if_neg (by decide),pre1,bindM_some,hf]
  rfl
 ·rw [hR,hcut,bindM_some]
  show ∃ s',(if (!true) = true then _ else _) = _
  rw [if_neg (by decide),Hex.read_eq,bindM_some,hn]
  show ∃ s',(if ((0 : Int) != 0) = true then _ else _) = _
  rw [if_neg (by decide),put_ok h8,bindM_some]
  show ∃ s',(if (!true) = true then _ else _) = _
  rw [if_neg (by decide),pre1,bindM_some,(isC_iff r).2 ⟨r2,hr⟩]
  show ∃ s',(if (!true) = true then _ else (if decide (gp ≥ 0) = true then _ else _)) = _
  rw [if_neg (by decide),if_pos (decide_eq_true hg)]
  exact ⟨_,rfl⟩
 ·rw [hR,hcut,bindM_some]
  show (if (!true) = true then _ else _) = _
  rw [if_neg (by decide),Hex.read_eq,bindM_some,hn]
  show (if ((0 : Int) != 0) = true then _ else _) = _
  rw [if_neg (by decide),put_ok h8,bindM_some]
  show (if (!true) = true then _ else _) = _
  rw [if_neg (by decide),pre1,bindM_some,(isC_iff r).2 ⟨r2,hr⟩]
  show (if (!true) = true then _ else (if decide (gp ≥ 0) = true then _ else (if _ then (if seq ((bs r).extract (Int.toNat 1) (Int.toNat ((bs r).size : Int))) _ = true then _ else _) else _))) = _
  rw [if_neg (by decide),if_neg (by rw [decide_eq_true_eq]; omega),if_pos (h2 r2 hr),h1 r2 hr]
  by_cases h0 : r2 = []
  ·subst h0
   rw [if_pos rfl,if_pos ((seq_nil []).2 rfl)]; rfl
  ·rw [if_neg h0,if_neg]; rfl
   intro e
   exact h0 ((seq_nil r2).1 e)
theorem run_gap {R : ByteArray → S_colon_reader → Option (Bool × S_colon_reader)} (hR : Loop R) (gp : Int) (hg : 0 ≤ gp) : ∀ (k : Nat) (l : List UInt8) (acc : List Nat),l.length ≤ k → l.length < 1000000 → acc.length ≤ 8 →
  Res (R (bs l) (rd acc gp)) ((lst true (parts 58 l)).bind fun x=>addG acc x gp):=by
 intro k
 induction k with
 | zero =>
  intro l acc hk hb h8
  obtain rfl : l = []:=List.eq_nil_of_length_eq_zero (by omega)
  have hc:=cut_none [] 58 (fun x h=>by cases h)
  rw [show ((58 : UInt8).toNat : Int) = 58 from rfl] at hc
  rw [hR,hc,bindM_some]
  exact res_pair (tail_ok h8 gp [] (by simp))
 | succ k ih =>
  intro l acc hk hb h8
  rcases split_at 58 l with h | ⟨p,r,rfl,h⟩
  ·have hc:=cut_none l 58 h
   rw [show ((58 : UInt8).toNat : Int) = 58 from rfl] at hc
   rw [hR,hc,bindM_some,parts_none _ _ h]
   exact res_pair (tail_ok h8 gp l hb)
  ·have hlen : (p ++ 58::r).length = p.length + (r.length + 1):=by simp
   obtain ⟨c1,c2,c3,_⟩:=round hR (acc:=acc) gp p r h (by omega)
   have hne:=parts_ne 58 r
   rw [parts_cons 58 r p h]
   cases hr : Hex.read (bs p) with
   | none =>
    have e : lst true (p::parts 58 r) = none:=by
     unfold lst
     rw [hr]
     simp [hne]
    rw [e]; exact c1 (.inl hr)
   | some n =>
    have e : lst true (p::parts 58 r) = (lst true (parts 58 r)).map (n::·):=by
     rw [lst,hr]
    rw [e]
    have hk2 : ∀ (o : Option (List Nat)),((o.map (n::·)).bind fun x=>addG acc x gp) = if acc.length = 8 then none else o.bind fun x=>addG (acc ++ [n]) x gp:=by
     intro o
     cases o with
     | none=>simp
     | some x =>
      simp only [Option.map_some,Option.bind_some]
      unfold addG
      by_cases ha : acc.length = 8
      ·rw [if_pos ha,if_neg (by simp; omega)]
      ·rw [if_neg ha]
       by_cases hb : acc.length + (n::x).length ≤ 8
       ·rw [if_pos hb,if_pos (by simp at hb ⊢; omega)]; simp
       ·rw [if_neg hb,if_neg (by simp at hb ⊢; omega)]
    rw [hk2]
    by_cases ha : acc.length = 8
    ·rw [if_pos ha]; exact c1 (.inr ha)
    ·rw [if_neg ha]
     by_cases hrc : ∃ r2,r = 58::r2
     ·obtain ⟨r2,hr2⟩:=hrc
      have e3 : lst true (parts 58 r) = none:=by rw [hr2,parts_colon]; exact lst_nil _ _ (.inr trivial)
      rw [e3]
      exact c3 n r2 hr (by omega) hr2 hg
     ·rw [c2 n hr (by omega) fun r2 e=>hrc ⟨r2,e⟩]
      exact ih r (acc ++ [n]) (by omega) (by omega) (by simp; omega)
def after (acc : List Nat) (ps : List (List UInt8)) : Option (List Nat × Int):=match spl ps with
 | none=>(lst true ps).bind fun x=>addG acc x (-1)
 | some (a,b)=>(lst false a).bind fun x=>(lstE true b).bind fun y=>if acc.length + x.length + y.length ≤ 8 then some (acc ++ x ++ y,((acc.length + x.length : Nat) : Int)) else none
theorem spl_head {p : List UInt8} {ps : List (List UInt8)} {a b : List (List UInt8)} (h : spl (p::ps) = some (a,b)) : ∃ r,a = p::r:=by
 rw [spl] at h
 split at h
 ·cases h; exact ⟨[],rfl⟩
 ·cases hs : spl ps with
  | none=>rw [hs] at h; cases h
  | some q=>rw [hs] at h; cases h; exact ⟨q.1,rfl⟩
theorem after_none {acc : List Nat} {p : List UInt8} {ps : List (List UInt8)} (hne : ps ≠ []) (h : Hex.read (bs p) = none) : after acc (p::ps) = none:=by
 unfold after
 cases hs : spl (p::ps) with
 | none =>
  have e : lst true (p::ps) = none:=by
   unfold lst
   rw [h]; simp [hne]
  simp only [e]; rfl
 | some q =>
  obtain ⟨a,b⟩:=q
  obtain ⟨r,rfl⟩:=spl_head hs
  have e : lst false (p::r) = none:=by
   unfold lst
   rw [h]; simp
  simp only [e]; rfl
theorem after_some {acc : List Nat} {p : List UInt8} {ps : List (List UInt8)} {n : Nat} (h : Hex.read (bs p) = some n) (hc : ¬ (ps.head? = some [] ∧ 2 ≤ ps.length)) : after acc (p::ps) = if acc.length = 8 then none else after (acc ++ [n]) ps:=by
 have e0 : spl (p::ps) = (spl ps).map fun q=>(p::q.1,q.2):=by rw [spl,if_neg hc]
 have el : ∀ b t,lst b (p::t) = (lst b t).map (n::·):=fun b t=>by rw [lst,h]
 unfold after
 rw [e0]
 cases hs : spl ps with
 | none =>
  simp only [Option.map_none,el]
  cases hl : lst true ps with
  | none=>simp
  | some x =>
   simp only [Option.map_some,Option.bind_some]
   unfold addG
   by_cases ha : acc.length = 8
   ·rw [if_pos ha,if_neg (by simp; omega)]
   ·rw [if_neg ha]
    by_cases hb : acc.length + (n::x).length ≤ 8
    ·rw [if_pos hb,if_pos (by simp at hb ⊢; omega)]; simp
    ·rw [if_neg hb,if_neg (by simp at hb ⊢; omega)]
 | some q =>
  obtain ⟨a,b⟩:=q
  simp only [Option.map_some,el]
  cases hl : lst false a with
  | none=>simp
  | some x =>
   simp only [Option.map_some,Option.bind_some]
   cases hl2 : lstE true b with
   | none=>simp
   | some y =>
    simp only [Option.bind_some]
    by_cases ha : acc.length = 8
    ·rw [if_pos ha,if_neg (by simp; omega)]
    ·rw [if_neg ha]
     by_cases hb : acc.length + (n::x).length + y.length ≤ 8
     ·rw [if_pos hb,if_pos (by simp at hb ⊢; omega)]
      simp only [List.append_assoc,List.cons_append,List.nil_append,List.length_cons,List.length_append,List.length_nil]
      refine congrArg some (congrArg (Prod.mk _) ?_)
      omega
     ·rw [if_neg hb,if_neg (by simp at hb ⊢; omega)]
theorem after_gap {acc : List Nat} (h8 : acc.length ≤ 8) {p : List UInt8} {r2 : List UInt8} {n : Nat} (h : Hex.read (bs p) = some n) : after acc (p::[]::parts 58 r2) = if acc.length = 8 then none else if r2 = [] then some (acc ++ [n],((acc ++ [n]).length : Int)) else (lst true (parts 58 r2)).bind fun y=>addG (acc ++ [n]) y ((acc ++ [n]).length : Int):=by
 have hne:=parts_ne 58 r2
 have e0 : spl (p::[]::parts 58 r2) = some ([p],parts 58 r2):=by
  rw [spl,if_pos]; rfl
  refine ⟨rfl,?_⟩
  cases hp : parts 58 r2 with
  | nil=>exact absurd hp hne
  | cons a b=>simp
 have el : lst false [p] = some [n]:=by rw [lst,h]; rfl
 unfold after
 simp only [e0,el,Option.bind_some]
 unfold lstE
 by_cases h0 : r2 = []
 ·subst h0
  have e : parts 58 [] = [[]]:=rfl
  simp only [e,if_true,Option.bind_some]
  by_cases ha : acc.length = 8
  ·rw [if_pos ha,if_neg (by simp; omega)]
  ·rw [if_neg ha]
   rw [if_pos (by simp; omega)]; simp
 ·rw [if_neg (fun e=>h0 ((parts_nil_iff r2).1 e)),if_neg h0]
  cases hl : lst true (parts 58 r2) with
  | none=>simp
  | some y =>
   simp only [Option.bind_some]
   unfold addG
   by_cases ha : acc.length = 8
   ·rw [if_pos ha,if_neg (by simp; omega)]
   ·rw [if_neg ha]
    by_cases hb : acc.length + [n].length + y.length ≤ 8
    ·rw [if_pos hb,if_pos (by simp at hb ⊢; omega)]; simp
    ·rw [if_neg hb,if_neg (by simp at hb ⊢; omega)]
theorem run_all {R : ByteArray → S_colon_reader → Option (Bool × S_colon_reader)} (hR : Loop R) : ∀ (k : Nat) (l : List UInt8) (acc : List Nat),l.length ≤ k → l.length < 1000000 → acc.length ≤ 8 →
  Res (R (bs l) (rd acc (-1))) (after acc (parts 58 l)):=by
 intro k
 induction k with
 | zero =>
  intro l acc hk hb h8
  obtain rfl : l = []:=List.eq_nil_of_length_eq_zero (by omega)
  have hc:=cut_none [] 58 (fun x h=>by cases h)
  rw [show ((58 : UInt8).toNat : Int) = 58 from rfl] at hc
  rw [hR,hc,bindM_some]
  exact res_pair (tail_ok h8 (-1) [] (by simp))
 | succ k ih =>
  intro l acc hk hb h8
  rcases split_at 58 l with h | ⟨p,r,rfl,h⟩
  ·have hc:=cut_none l 58 h
   rw [show ((58 : UInt8).toNat : Int) = 58 from rfl] at hc
   rw [hR,hc,bindM_some,parts_none _ _ h]
   exact res_pair (tail_ok h8 (-1) l hb)
  ·have hlen : (p ++ 58::r).length = p.length + (r.length + 1):=by simp
   obtain ⟨c1,c2,_,c4⟩:=round hR (acc:=acc) (-1) p r h (by omega)
   have hne:=parts_ne 58 r
   rw [parts_cons 58 r p h]
   cases hr : Hex.read (bs p) with
   | none=>rw [after_none hne hr]; exact c1 (.inl hr)
   | some n =>
    by_cases hrc : ∃ r2,r = 58::r2
    ·obtain ⟨r2,hr2⟩:=hrc
     subst hr2
     rw [parts_colon,after_gap h8 hr]
     by_cases ha : acc.length = 8
     ·rw [if_pos ha]; exact c1 (.inr ha)
     ·rw [if_neg ha,c4 n r2 hr (by omega) rfl (by omega)]
      by_cases h0 : r2 = []
      ·rw [if_pos h0,if_pos h0]; rfl
      ·rw [if_neg h0,if_neg h0]
       exact run_gap hR _ (by omega) r2.length r2 (acc ++ [n]) (Nat.le_refl _) (by simp only [List.length_append,List.length_cons] at hb; omega) (by simp; omega)
    ·rw [after_some hr (fun hc=>hrc ((parts_head r).1 hc))]
     by_cases ha : acc.length = 8
     ·rw [if_pos ha]; exact c1 (.inr ha)
     ·rw [if_neg ha,c2 n hr (by omega) fun r2 e=>hrc ⟨r2,e⟩]
      exact ih r (acc ++ [n]) (by omega) (by omega) (by simp; omega)
def readL (l : List UInt8) : Option (List Nat × Int):=if isCC l = true then (if l.drop 2 = [] then some ([],0) else (lst true (parts 58 (l.drop 2))).bind fun x=>addG [] x 0) else after [] (parts 58 l)
theorem read_ok (l : List UInt8) (hb : l.length < 1000000) : Res (colon_reader_read (rd [] (-1)) (bs l)) (readL l):=by
 unfold colon_reader_read readL
 rw [pre2,bindM_some]
 by_cases hc : isCC l = true
 ·obtain ⟨r,rfl⟩:=(isCC_iff l).1 hc
  have hg : (0 : Int) ≤ 2 ∧ 2 ≤ ((bs (58::58::r)).size : Int) ∧ ((bs (58::58::r)).size : Int) ≤ ((bs (58::58::r)).size : Int):=by
   rw [bs_size,List.length_cons,List.length_cons]; omega
  have hx : (bs (58::58::r)).extract (Int.toNat 2) (Int.toNat ((bs (58::58::r)).size : Int)) = bs r:=by
   rw [Int.toNat_natCast,bs_extract,bs_size,List.take_of_length_le (Nat.le_refl _)]; rfl
  rw [if_pos hc,if_pos hc,if_pos hg,hx]
  show Res (if seq (bs r) (⟨#[]⟩ : ByteArray) = true then _ else _) (if r = [] then _ else _)
  by_cases h0 : r = []
  ·subst h0
   rw [if_pos rfl,if_pos ((seq_nil []).2 rfl)]; rfl
  ·rw [if_neg h0,if_neg (fun e=>h0 ((seq_nil r).1 e))]
   exact res_id (run_gap loop0 0 (by omega) r.length r [] (Nat.le_refl _) (by simp only [List.length_cons] at hb; omega) (by simp))
 ·rw [if_neg hc,if_neg hc]
  exact res_id (run_all loop1 l.length l [] (Nat.le_refl _) hb (by simp))
def fin (q : List Nat × Int) : Option (List Nat):=if q.2 < 0 then (if q.1.length = 8 then some q.1 else none) else if q.1.length = 8 then none else some (q.1.take q.2.toNat ++ (List.replicate (8 - q.1.length) 0 ++ q.1.drop q.2.toNat))
theorem addG_some {acc l : List Nat} {gp : Int} {q : List Nat × Int} (h : addG acc l gp = some q) : q.1.length ≤ 8 ∧ q.2 = gp:=by
 unfold addG at h
 split at h
 ·cases h; simp; omega
 ·cases h
theorem readL_ok {l : List UInt8} {q : List Nat × Int} (h : readL l = some q) : q.1.length ≤ 8 ∧ q.2 ≤ q.1.length:=by
 unfold readL at h
 split at h
 ·split at h
  ·cases h; simp
  ·obtain ⟨x,_,h⟩:=Option.bind_eq_some_iff.1 h
   have:=addG_some h
   omega
 ·unfold after at h
  split at h
  ·obtain ⟨x,_,h⟩:=Option.bind_eq_some_iff.1 h
   have:=addG_some h
   omega
  ·obtain ⟨x,_,h⟩:=Option.bind_eq_some_iff.1 h
   obtain ⟨y,_,h⟩:=Option.bind_eq_some_iff.1 h
   split at h
   ·cases h; simp at *; omega
   ·cases h
theorem spl_ne : ∀ {ps : List (List UInt8)} {a b : List (List UInt8)},spl ps = some (a,b) → a ≠ []
 | [],_,_,h=>by cases h
 | p::r,a,b,h=>by
  obtain ⟨t,rfl⟩:=spl_head h
  simp
theorem spl_colons {l : List UInt8} {b : List (List UInt8)} (h : spl (parts 58 l) = some ([[]],b)) : isCC l = true:=by
 have hne:=parts_ne 58 l
 cases hp : parts 58 l with
 | nil=>exact absurd hp hne
 | cons p r =>
  rw [hp,spl] at h
  split at h
  ·next hc =>
   simp only [Option.some.injEq,Prod.mk.injEq,List.cons.injEq,and_true] at h
   obtain ⟨rfl,_⟩:=h
   obtain ⟨l2,rfl⟩:=(parts_head l).1 ⟨by rw [hp]; rfl,by rw [hp]; simp; omega⟩
   rw [parts_colon] at hp
   obtain rfl:=(List.cons.inj hp).2
   obtain ⟨l3,rfl⟩:=(parts_head l2).1 hc
   rfl
  ·cases hs : spl r with
   | none=>rw [hs] at h; cases h
   | some q =>
    rw [hs] at h
    simp only [Option.map_some,Option.some.injEq,Prod.mk.injEq,List.cons.injEq] at h
    obtain ⟨a,b'⟩:=q
    exact absurd h.1.2 (spl_ne hs)
theorem parse_read (l : List UInt8) : parseL l = (readL l).bind fin:=by
 unfold readL
 by_cases hc : isCC l = true
 ·obtain ⟨r,rfl⟩:=(isCC_iff l).1 hc
  rw [if_pos hc]
  have hne:=parts_ne 58 r
  have e0 : spl (parts 58 (58::58::r)) = some ([[]],parts 58 r):=by
   rw [parts_colon,parts_colon,spl,if_pos]; rfl
   refine ⟨rfl,?_⟩
   cases hp : parts 58 r with
   | nil=>exact absurd hp hne
   | cons a b=>simp
  have e1 : lstE false [[]] = some []:=rfl
  unfold parseL
  simp only [e0,e1,Option.bind_some]
  show _ = (if r = [] then _ else (lst true (parts 58 r)).bind _ : Option (List Nat × Int)).bind fin
  by_cases h0 : r = []
  ·subst h0; rfl
  ·rw [if_neg h0]
   unfold lstE
   rw [if_neg (fun e=>h0 ((parts_nil_iff r).1 e))]
   cases hl : lst true (parts 58 r) with
   | none=>rfl
   | some y =>
    simp only [Option.bind_some]
    unfold addG
    by_cases h7 : y.length ≤ 7
    ·rw [if_pos (by simp; omega),if_pos (by simp; omega)]
     show _ = fin (y,0)
     unfold fin
     simp only [Int.lt_irrefl,if_false]
     rw [if_neg (by omega)]
     simp
    ·rw [if_neg (by simp; omega)]
     by_cases h8 : y.length = 8
     ·rw [if_pos (by simp; omega)]
      show _ = fin (y,0)
      unfold fin
      simp only [Int.lt_irrefl,if_false]
      rw [if_pos h8]
     ·rw [if_neg (by simp; omega)]; rfl
 ·rw [if_neg hc]
  unfold parseL after
  cases hs : spl (parts 58 l) with
  | none =>
   simp only
   cases hl : lst true (parts 58 l) with
   | none=>rfl
   | some x =>
    simp only [Option.bind_some]
    unfold addG
    by_cases h8 : x.length = 8
    ·rw [if_pos h8,if_pos (by simp; omega)]
     show _ = fin (x,-1)
     unfold fin
     rw [if_pos (by show (-1 : Int) < 0; omega),if_pos h8]
    ·rw [if_neg h8]
     by_cases h9 : x.length ≤ 8
     ·rw [if_pos (by simp; omega)]
      show _ = fin (x,-1)
      unfold fin
      rw [if_pos (by show (-1 : Int) < 0; omega),if_neg h8]
     ·rw [if_neg (by simp; omega)]; rfl
  | some q =>
   obtain ⟨a,b⟩:=q
   simp only
   have ea : lstE false a = lst false a:=by
    unfold lstE
    rw [if_neg]
    intro e; subst e
    exact hc (spl_colons hs)
   rw [ea]
   cases hl : lst false a with
   | none=>rfl
   | some x =>
    simp only [Option.bind_some]
    cases hl2 : lstE true b with
    | none=>rfl
    | some y =>
     simp only [Option.bind_some,List.nil_append,List.length_nil,Nat.zero_add]
     by_cases h8 : x.length + y.length ≤ 8
     ·rw [if_pos h8]
      show _ = fin (x ++ y,((x.length : Nat) : Int))
      unfold fin
      simp only [Int.toNat_natCast,List.take_left',List.drop_left',List.length_append]
      rw [if_neg (show ¬ ((x.length : Nat) : Int) < 0 by omega)]
      by_cases h7 : x.length + y.length ≤ 7
      ·rw [if_pos h7,if_neg (by omega),Nat.sub_sub]
      ·rw [if_neg h7,if_pos (by omega)]
     ·rw [if_neg h8,if_neg (by omega)]; rfl
theorem ns_take (G : List Nat) (k : Nat) : (ns G).take k = ns (G.take k):=by unfold ns; rw [List.map_take]
theorem ns_drop (G : List Nat) (k : Nat) : (ns G).drop k = ns (G.drop k):=by unfold ns; rw [List.map_drop]
theorem ns_app (G H : List Nat) : ns (G ++ H) = ns G ++ ns H:=by unfold ns; rw [List.map_append]
theorem spread_ok {G : List Nat} {gp : Int} (h8 : G.length ≤ 8) (hg : gp ≤ G.length) (hg1 : -1 ≤ gp) : ∃ v,colon_reader_spread (rd G gp) = some (v,(fin (G,gp)).isSome,rd G gp) ∧ ∀ K,fin (G,gp) = some K → v = gv K ∧ K.length = 8:=by
 unfold colon_reader_spread fin
 show ∃ v,(if decide (gp < 0) = true then some (gv G,((G.length : Int) == 8),rd G gp) else if ((G.length : Int) == 8) = true then some (gv G,false,rd G gp) else _) = _ ∧ _
 by_cases hn : gp < 0
 ·rw [if_pos (decide_eq_true hn)]
  simp only [hn,if_true]
  by_cases h : G.length = 8
  ·rw [if_pos h]
   exact ⟨gv G,by rw [h]; rfl,fun K hK=>by cases hK; exact ⟨rfl,h⟩⟩
  ·rw [if_neg h]
   have e : ((G.length : Int) == 8) = false:=by rw [beq_eq_false_iff_ne]; omega
   exact ⟨gv G,by rw [e]; rfl,fun K hK=>by cases hK⟩
 ·rw [if_neg (by rw [decide_eq_true_eq]; exact hn)]
  simp only [hn,if_false]
  by_cases h : G.length = 8
  ·rw [if_pos h]
   have e : ((G.length : Int) == 8) = true:=by rw [h]; rfl
   exact ⟨gv G,by rw [e]; rfl,fun K hK=>by cases hK⟩
  ·rw [if_neg h]
   have e : ((G.length : Int) == 8) = false:=by rw [beq_eq_false_iff_ne]; omega
   rw [e,if_neg Bool.false_ne_true]
   obtain ⟨g,rfl⟩:=Int.eq_ofNat_of_zero_le (show 0 ≤ gp by omega)
   have hgl : g ≤ G.length:=by omega
   have w1 : wr .i64 (8 - (G.length : Int)) = ((8 - G.length : Nat) : Int):=by rw [wr_i64 (by omega) (by omega)]; omega
   have w2 : wr .i64 (((8 - G.length : Nat) : Int) + (g : Int)) = ((8 - G.length + g : Nat) : Int):=by rw [wr_i64 (by omega) (by omega)]; omega
   show ∃ v,(if (0 : Int) ≤ 0 ∧ (0 : Int) ≤ (g : Int) ∧ (g : Int) ≤ 8 then if (0 : Int) ≤ wr .i64 (wr .i64 (8 - (G.length : Int)) + (g : Int)) ∧ wr .i64 (wr .i64 (8 - (G.length : Int)) + (g : Int)) ≤ 8 ∧ (8 : Int) ≤ 8 then if (0 : Int) ≤ (g : Int) ∧ (g : Int) ≤ (G.length : Int) ∧ (G.length : Int) ≤ 8 then some (vcopy (vcopy (Vector.replicate 8 (0 : Int) : Vector Int 8) (Int.toNat 0) (List.take (Int.toNat (8 - 0)) (lsub (Vector.toList (gv G)) 0 (g : Int)))) (Int.toNat (wr .i64 (wr .i64 (8 - (G.length : Int)) + (g : Int)))) (List.take (Int.toNat (8 - wr .i64 (wr .i64 (8 - (G.length : Int)) + (g : Int)))) (lsub (Vector.toList (gv G)) (g : Int) (G.length : Int))),true,rd G (g : Int)) else none else none else none) = _ ∧ _
   rw [w1,w2,if_pos (by omega),if_pos (by omega),if_pos (by omega)]
   have t1 : List.take (Int.toNat (8 - 0)) (lsub (Vector.toList (gv G)) 0 (g : Int)) = ns (G.take g):=by
    unfold lsub
    rw [gv_toList h8,Int.toNat_natCast,ns_take,List.take_append_of_le_length hgl]
    show List.take 8 (ns (G.take g)) = _
    exact List.take_of_length_le (by rw [ns_len,List.length_take]; omega)
   have t2 : List.take (Int.toNat (8 - ((8 - G.length + g : Nat) : Int))) (lsub (Vector.toList (gv G)) (g : Int) (G.length : Int)) = ns (G.drop g):=by
    unfold lsub
    rw [gv_toList h8,Int.toNat_natCast,Int.toNat_natCast,ns_take,List.take_left' rfl,ns_drop]
    exact List.take_of_length_le (by rw [ns_len,List.length_drop]; omega)
   rw [t1,t2,Int.toNat_natCast]
   refine ⟨_,rfl,fun K hK=>?_⟩
   cases hK
   have hz : (Vector.replicate 8 (0 : Int) : Vector Int 8).toList = ns (List.replicate 8 0):=by simp [ns]
   have c1 : (vcopy (Vector.replicate 8 (0 : Int) : Vector Int 8) (Int.toNat 0) (ns (G.take g))).toList = ns (G.take g ++ List.replicate (8 - g) 0):=by
    rw [vcopy_toList _ _ _ (by rw [ns_len,List.length_take]; show 0 + _ ≤ 8; omega),hz,ns_len,List.length_take,Nat.min_eq_left hgl,ns_drop,ns_app]
    show [] ++ ns (G.take g) ++ ns ((List.replicate 8 0).drop (0 + g)) = _
    rw [List.nil_append,List.drop_replicate,Nat.zero_add]
   constructor
   ·apply gv_of
    rw [vcopy_toList _ _ _ (by rw [ns_len,List.length_drop]; omega),c1,ns_len,List.length_drop,ns_take,ns_drop,← ns_app,← ns_app]
    congr 1
    have hA : (G.take g).length = g:=by rw [List.length_take]; omega
    have e5 : (G.take g ++ List.replicate (8 - g) 0).drop (8 - G.length + g + (G.length - g)) = []:=List.drop_eq_nil_of_le (by simp; omega)
    rw [e5,List.append_nil,List.take_append,List.take_of_length_le (by omega),hA,List.take_replicate]
    rw [show min (8 - G.length + g - g) (8 - g) = 8 - G.length by omega,Int.toNat_natCast,List.append_assoc]
   ·simp; omega
def v16 (m : List UInt8) : Vector Int 16:=lvec 16 (ob m)
theorem v16_toList {m : List UInt8} (h : m.length = 16) : (v16 m).toList = ob m:=by
 unfold v16
 rw [lvec_toList 16 _ (by rw [ob_length]; omega),List.take_of_length_le (by rw [ob_length]; omega)]
theorem v16_of {v : Vector Int 16} {m : List UInt8} (h : v.toList = ob m) : v = v16 m:=by
 have hl : m.length = 16:=by have:=congrArg List.length h; rw [ob_length] at this; simpa using this.symm
 apply Vector.toList_inj.1
 rw [v16_toList hl,h]
theorem v16_zero : (Vector.replicate 16 (0 : Int) : Vector Int 16) = v16 (List.replicate 16 0):=v16_of rfl
theorem v16_set {m : List UInt8} (h : m.length = 16) (i : Nat) (c : UInt8) : vset (v16 m) (i : Int) (c.toNat : Int) = v16 (m.set i c):=by
 apply Vector.toList_inj.1
 rw [vset_toList,v16_toList h,v16_toList (by simpa using h),Int.toNat_natCast]
 unfold ob
 rw [List.map_set]
theorem v16_get {m : List UInt8} (h : m.length = 16) (i : Nat) (c : UInt8) (hc : m[i]? = some c) : vget (v16 m) (i : Int) = (c.toNat : Int):=by
 unfold vget
 rw [v16_toList h,Int.toNat_natCast,List.getD_eq_getElem?_getD]
 unfold ob
 rw [List.getElem?_map,hc]; rfl
theorem set2 (A : List UInt8) (k : Nat) (x y : UInt8) : ((A ++ List.replicate (k + 2) 0).set A.length x).set (A.length + 1) y = A ++ (x::y::List.replicate k 0):=by
 rw [List.set_append_right _ _ (Nat.le_refl _),Nat.sub_self,List.replicate_succ,List.replicate_succ,List.set_cons_zero,List.set_append_right _ _ (by omega),show A.length + 1 - A.length = 1 by omega]
 rfl
theorem un_step (G : List Nat) (i n : Nat) (h : G[i]? = some n) : un (G.take (i + 1)) = un (G.take i) ++ [UInt8.ofNat (n / 256),UInt8.ofNat (n % 256)]:=by
 rw [List.take_add_one,h,un_app]; rfl
theorem put2 (G : List Nat) (h8 : G.length = 8) (i n : Nat) (hi : i < 8) (h : G[i]? = some n) (hn : n < 65536) (x y : Int) (hx : x = ((n / 256 : Nat) : Int)) (hy : y = ((n % 256 : Nat) : Int)) :
  vset (vset (v16 (un (G.take i) ++ List.replicate (16 - 2 * i) 0)) ((2 * i : Nat) : Int) x) ((2 * i + 1 : Nat) : Int) y = v16 (un (G.take (i + 1)) ++ List.replicate (16 - 2 * (i + 1)) 0):=by
 have hA : (un (G.take i)).length = 2 * i:=by rw [un_len,List.length_take]; omega
 have e1 : ((UInt8.ofNat (n / 256)).toNat : Int) = ((n / 256 : Nat) : Int):=by rw [UInt8.toNat_ofNat',Nat.mod_eq_of_lt (by omega)]
 have e2 : ((UInt8.ofNat (n % 256)).toNat : Int) = ((n % 256 : Nat) : Int):=by rw [UInt8.toNat_ofNat',Nat.mod_eq_of_lt (by omega)]
 subst hx hy
 rw [← e1,← e2,v16_set (by simp [hA]; omega),v16_set (by simp [hA]; omega),un_step G i n h,show 16 - 2 * i = (16 - 2 * (i + 1)) + 2 by omega]
 have:=set2 (un (G.take i)) (16 - 2 * (i + 1)) (UInt8.ofNat (n / 256)) (UInt8.ofNat (n % 256))
 rw [hA] at this
 rw [this,List.append_assoc]; rfl
theorem bytes_loop {G : List Nat} (h8 : G.length = 8) (hG : ∀ n ∈ G,n < 65536) (b : Bool) (st : S_colon_reader) : ∀ (k i : Nat),i + k = 8 → colon_Parse.l0 (gv G,b,st) (i : Int) (v16 (un (G.take i) ++ List.replicate (16 - 2 * i) 0)) = some (v16 (un G)):=by
 intro k
 induction k with
 | zero =>
  intro i hi
  obtain rfl : i = 8:=by omega
  rw [colon_Parse.l0.eq_def,if_neg (by decide),List.take_of_length_le (by omega)]
  simp
 | succ k ih =>
  intro i hi
  have hlt : i < 8:=by omega
  obtain ⟨n,hn⟩ : ∃ n,G[i]? = some n:=⟨_,List.getElem?_eq_getElem (by omega)⟩
  have hn6:=hG n (List.mem_of_getElem? hn)
  have w1 : wr .i64 (2 * (i : Int)) = ((2 * i : Nat) : Int):=by rw [wr_i64 (by omega) (by omega)]; omega
  have w2 : wr .i64 (((2 * i : Nat) : Int) + 1) = ((2 * i + 1 : Nat) : Int):=by rw [wr_i64 (by omega) (by omega)]; omega
  have w3 : wr .i64 ((i : Int) + 1) = ((i + 1 : Nat) : Int):=by rw [wr_i64 (by omega) (by omega)]; omega
  have hv : vget (gv G) (i : Int) = (n : Int):=gv_get h8 i n hn
  rw [colon_Parse.l0.eq_def,if_pos (decide_eq_true (by omega)),if_pos (by omega),w1,w2,if_pos (by omega),if_pos (by omega),w3]
  show colon_Parse.l0 (gv G,b,st) _ (vset (vset _ _ (wr .u8 (ishr .u16 (vget (gv G) (i : Int)) 8))) _ (wr .u8 (vget (gv G) (i : Int)))) = _
  rw [hv,put2 G h8 i n hlt hn hn6]
  ·exact ih (i + 1) (by omega)
  ·rw [show (8 : Int) = ((8 : Nat) : Int) from rfl,ishr_nat .u16 n 8 (by decide),wr_u8 (by omega) (by show ((n / 256 : Nat) : Int) < 256; omega)]
  ·rw [wr_u8_mod]; omega
theorem lst_lt (last : Bool) : ∀ (ps : List (List UInt8)) (x : List Nat),lst last ps = some x → ∀ n ∈ x,n < 65536
 | [],x,h,n,hn=>by cases h; cases hn
 | p::r,x,h,n,hn=>by
  rw [lst] at h
  cases hr : Hex.read (bs p) with
  | some m =>
   rw [hr] at h
   obtain ⟨y,hy,rfl⟩:=Option.map_eq_some_iff.1 h
   rcases List.mem_cons.1 hn with rfl | hn
   ·exact Hex.read_lt _ _ hr
   ·exact lst_lt last r y hy n hn
  | none =>
   rw [hr] at h
   simp only at h
   split at h
   ·next hq =>
    cases h
    obtain ⟨m,hm,hq2,_⟩:=quadP_back hq.1
    match m,hm with
    | [a,b,c,d],hm =>
     have ha:=a.toNat_lt
     have hb:=b.toNat_lt
     have hc:=c.toNat_lt
     have hd:=d.toNat_lt
     have e0 : vget (v4 [a,b,c,d]) 0 = (a.toNat : Int):=vget_v4 hm 0 a rfl
     have e1 : vget (v4 [a,b,c,d]) 1 = (b.toNat : Int):=vget_v4 hm 1 b rfl
     have e2 : vget (v4 [a,b,c,d]) 2 = (c.toNat : Int):=vget_v4 hm 2 c rfl
     have e3 : vget (v4 [a,b,c,d]) 3 = (d.toNat : Int):=vget_v4 hm 3 d rfl
     rw [hq2] at hn
     unfold q2 at hn
     simp only [e0,e1,e2,e3,Int.toNat_natCast,List.mem_cons,List.not_mem_nil,or_false] at hn
     omega
   ·cases h
theorem lstE_lt {last : Bool} {ps : List (List UInt8)} {x : List Nat} (h : lstE last ps = some x) : ∀ n ∈ x,n < 65536:=by
 unfold lstE at h
 split at h
 ·cases h; intro n hn; cases hn
 ·exact lst_lt last ps x h
theorem parseL_ok {l : List UInt8} {G : List Nat} (h : parseL l = some G) : G.length = 8 ∧ ∀ n ∈ G,n < 65536:=by
 unfold parseL at h
 split at h
 ·obtain ⟨x,hx,h⟩:=Option.bind_eq_some_iff.1 h
  split at h
  ·next h8=>cases h; exact ⟨h8,lst_lt _ _ _ hx⟩
  ·cases h
 ·obtain ⟨x,hx,h⟩:=Option.bind_eq_some_iff.1 h
  obtain ⟨y,hy,h⟩:=Option.bind_eq_some_iff.1 h
  split at h
  ·cases h
   refine ⟨by simp; omega,fun n hn=>?_⟩
   rcases List.mem_append.1 hn with hn | hn
   ·exact lstE_lt hx n hn
   ·rcases List.mem_append.1 hn with hn | hn
    ·have:=List.eq_of_mem_replicate hn; omega
    ·exact lstE_lt hy n hn
  ·cases h
def parseV (l : List UInt8) : Vector Int 16:=v16 (match parseL l with | some G=>un G | none=>List.replicate 16 0)
theorem colon_parse (l : List UInt8) (hb : l.length < 1000000) : colon_Parse (bs l) = some (parseV l,if (parseL l).isSome then 0 else 5):=by
 unfold colon_Parse parseV
 have h0 : ({ ({ f_g:=(Vector.replicate 8 (0 : Int) : (Vector Int 8)),f_n:=(0 : Int),f_gap:=(0 : Int) } : S_colon_reader) with f_gap:=(-1) } : S_colon_reader) = rd [] (-1):=by
  show S_colon_reader.mk _ _ _ = S_colon_reader.mk _ _ _
  rw [gv_zero]; rfl
 rw [h0,parse_read]
 have hr:=read_ok l hb
 cases hq : readL l with
 | none =>
  rw [hq] at hr
  obtain ⟨s',hr⟩:=hr
  rw [hr,bindM_some]
  show (if (!false) = true then _ else _) = _
  rw [if_pos (show (!false) = true from rfl),v16_zero]; rfl
 | some q =>
  obtain ⟨G,gp⟩:=q
  rw [hq] at hr
  have hr' : colon_reader_read (rd [] (-1)) (bs l) = some (true,rd G gp):=hr
  rw [hr',bindM_some]
  show (if (!true) = true then _ else _) = _
  obtain ⟨h8,hg⟩:=readL_ok hq
  have hg1 : -1 ≤ gp:=by
   unfold readL at hq
   split at hq
   ·split at hq
    ·cases hq; omega
    ·obtain ⟨x,_,hq⟩:=Option.bind_eq_some_iff.1 hq
     have:=(addG_some hq).2
     simp only at this; omega
   ·unfold after at hq
    split at hq
    ·obtain ⟨x,_,hq⟩:=Option.bind_eq_some_iff.1 hq
     have:=(addG_some hq).2
     simp only at this; omega
    ·obtain ⟨x,_,hq⟩:=Option.bind_eq_some_iff.1 hq
     obtain ⟨y,_,hq⟩:=Option.bind_eq_some_iff.1 hq
     split at hq
     ·cases hq; omega
     ·cases hq
  obtain ⟨v,hv,hK⟩:=spread_ok h8 hg hg1
  rw [if_neg (by decide)]
  show (colon_reader_spread (rd G gp) >>= fun t5=>_) = _
  rw [hv,bindM_some]
  show (if (!(fin (G,gp)).isSome) = true then _ else _) = some (v16 (match fin (G,gp) with | some K=>un K | none=>List.replicate 16 0),if (fin (G,gp)).isSome = true then 0 else 5)
  cases hf : fin (G,gp) with
  | none =>
   rw [if_pos (show (!(none : Option (List Nat)).isSome) = true from rfl),v16_zero]; rfl
  | some K =>
   obtain ⟨hv2,hK8⟩:=hK K hf
   have hlt : ∀ n ∈ K,n < 65536:=(parseL_ok (l:=l) (G:=K) (by rw [parse_read,hq]; exact hf)).2
   rw [if_neg (show ¬ (!(some K).isSome) = true from Bool.false_ne_true),v16_zero,hv2]
   have:=bytes_loop hK8 hlt true (rd G gp) 8 0 rfl
   rw [show 16 - 2 * 0 = 16 from rfl,List.take_zero,show un [] = [] from rfl,List.nil_append,show ((0 : Nat) : Int) = 0 from rfl] at this
   show (colon_Parse.l0 (gv K,true,rd G gp) 0 (v16 (List.replicate 16 0)) >>= fun q9=>_) = _
   rw [this]; rfl
end Go.Proofs.YtkkmmpofdcccmaaGreatDoor.Col
namespace Go.Proofs.YtkkmmpofdcccmaaGreatDoor.Col
open E Go.RowKit
def gapL : List UInt8 → Option (List UInt8 × List UInt8)
 | []=>none
 | c::r=>if isCC (c::r) = true then some ([],r.drop 1) else (gapL r).map fun q=>(c::q.1,q.2)
theorem gapL_eq : ∀ {l a b : List UInt8},gapL l = some (a,b) → l = a ++ 58::58::b
 | [],_,_,h=>by cases h
 | c::r,a,b,h=>by
  unfold gapL at h
  split at h
  ·next hc =>
   obtain ⟨r2,hr⟩:=(isCC_iff _).1 hc
   cases h
   rw [hr]
   obtain ⟨_,rfl⟩:=List.cons.inj hr
   rfl
  ·obtain ⟨q,hq,h⟩:=Option.map_eq_some_iff.1 h
   obtain ⟨a',b'⟩:=q
   cases h
   rw [gapL_eq hq]; rfl
theorem u8_58 (x : UInt8) : ((x.toNat : Int) == 58) = (x == 58):=by
 by_cases h : x = 58
 ·subst h; rfl
 ·have h2 : x.toNat ≠ 58:=fun e=>h (UInt8.toNat_inj.1 e)
  have h3 : (x == 58) = false:=by simp [h]
  rw [h3,beq_eq_false_iff_ne]; omega
theorem gap_loop (l : List UInt8) (hl : l.length < 1000000) : ∀ (k i : Nat),l.length - i = k → i ≤ l.length →
  crawlwayref09_gap.l0 (bs l) (i : Int) = some (match gapL (l.drop i) with | some (a,_)=>.ret ((i + a.length : Nat) : Int) | none=>.nx ()):=by
 intro k
 induction k with
 | zero =>
  intro i hk hi
  have w : wr .i64 ((i : Int) + 1) = ((i + 1 : Nat) : Int):=by rw [wr_i64 (by omega) (by omega)]; omega
  rw [crawlwayref09_gap.l0.eq_def,w,bs_size,if_neg (by rw [decide_eq_true_eq]; omega),List.drop_eq_nil_of_le (by omega)]; rfl
 | succ k ih =>
  intro i hk hi
  have w : wr .i64 ((i : Int) + 1) = ((i + 1 : Nat) : Int):=by rw [wr_i64 (by omega) (by omega)]; omega
  obtain ⟨c,hc,hd⟩:=drop_get l i (by omega)
  have hbc : bt (bs l) (i : Int) = (c.toNat : Int):=bt_at (by rw [bs_list]; exact hc)
  have e58:=u8_58
  have hi1:=ih (i + 1) (by omega) (by omega)
  rw [crawlwayref09_gap.l0.eq_def,w,bs_size]
  by_cases h1 : i + 1 < l.length
  ·obtain ⟨d,hdd,hd2⟩:=drop_get l (i + 1) h1
   have hbd : bt (bs l) ((i + 1 : Nat) : Int) = (d.toNat : Int):=bt_at (by rw [bs_list]; exact hdd)
   rw [if_pos (decide_eq_true (by omega)),if_pos (by omega),hbc,e58,hbd,e58,hd,hi1,hd2]
   unfold gapL
   by_cases hc58 : c = 58
   ·subst hc58
    rw [if_pos (by rfl),if_pos (by omega)]
    by_cases hd58 : d = 58
    ·subst hd58
     rw [if_pos (by rfl),if_pos (by rfl)]; rfl
    ·have hf : (d == 58) = false:=by simp [hd58]
     have hf2 : isCC (58::d::l.drop (i + 1 + 1)) = false:=by simp [isCC,hd58]
     rw [hf,if_neg Bool.false_ne_true,hf2,if_neg Bool.false_ne_true]
     have e : gapL (d::l.drop (i + 1 + 1)) = if isCC (d::l.drop (i + 1 + 1)) = true then some ([],(l.drop (i + 1 + 1)).drop 1) else (gapL (l.drop (i + 1 + 1))).map fun q=>(d::q.1,q.2):=rfl
     rw [← e]
     cases hg : gapL (d::l.drop (i + 1 + 1)) with
     | none=>rfl
     | some q=>obtain ⟨a,b⟩:=q; simp; omega
   ·have hf : (c == 58) = false:=by simp [hc58]
    have hf2 : isCC (c::d::l.drop (i + 1 + 1)) = false:=by simp [isCC,hc58]
    rw [hf,if_neg Bool.false_ne_true,hf2,if_neg Bool.false_ne_true]
    have e : gapL (d::l.drop (i + 1 + 1)) = if isCC (d::l.drop (i + 1 + 1)) = true then some ([],(l.drop (i + 1 + 1)).drop 1) else (gapL (l.drop (i + 1 + 1))).map fun q=>(d::q.1,q.2):=rfl
    rw [← e]
    cases hg : gapL (d::l.drop (i + 1 + 1)) with
    | none=>rfl
    | some q=>obtain ⟨a,b⟩:=q; simp; omega
  ·rw [if_neg (by rw [decide_eq_true_eq]; omega),hd,List.drop_eq_nil_of_le (show l.length ≤ i + 1 by omega)]
   rfl
theorem gap_ok (l : List UInt8) (hl : l.length < 1000000) : crawlwayref09_gap (bs l) = some (match gapL l with | some (a,_)=>(a.length : Int) | none=>-1):=by
 unfold crawlwayref09_gap
 have h:=gap_loop l hl l.length 0 (by omega) (by omega)
 rw [show ((0 : Nat) : Int) = 0 from rfl,List.drop_zero] at h
 rw [h,bindM_some]
 cases gapL l with
 | none=>rfl
 | some q=>obtain ⟨a,b⟩:=q; simp
theorem parts_other {c : UInt8} (hc : c ≠ 58) (r : List UInt8) : parts 58 (c::r) = (c::(parts 58 r).headD [])::(parts 58 r).tail:=by rw [parts,if_neg hc]
theorem spl_gap : ∀ (l : List UInt8),spl (parts 58 l) = (gapL l).map fun q=>(parts 58 q.1,parts 58 q.2)
 | []=>rfl
 | c::r=>by
  have ih:=spl_gap r
  have hne:=parts_ne 58 r
  unfold gapL
  by_cases hc : c = 58
  ·subst hc
   rw [parts_colon,spl]
   by_cases hr : ∃ r2,r = 58::r2
   ·rw [if_pos ((parts_head r).2 hr),if_pos ((isCC_iff _).2 (by obtain ⟨r2,h⟩:=hr; exact ⟨r2,by rw [h]⟩))]
    obtain ⟨r2,rfl⟩:=hr
    rw [parts_colon]; rfl
   ·rw [if_neg (fun h=>hr ((parts_head r).1 h)),if_neg (fun h=>hr (by obtain ⟨r2,h⟩:=(isCC_iff _).1 h; exact ⟨r2,(List.cons.inj h).2⟩)),ih]
    cases gapL r with
    | none=>rfl
    | some q=>simp [parts_colon]
  ·rw [parts_other hc]
   have hcc : ¬ isCC (c::r) = true:=fun h=>by obtain ⟨r2,h⟩:=(isCC_iff _).1 h; exact hc (List.cons.inj h).1
   rw [if_neg hcc]
   cases hp : parts 58 r with
   | nil=>exact absurd hp hne
   | cons h t =>
    rw [hp] at ih
    show spl ((c::h)::t) = _
    rw [spl] at ih ⊢
    have key : ∀ (q : Option (List UInt8 × List UInt8)),(∀ z,q = some z → ∃ h' t',parts 58 z.1 = h'::t') →
      ((q.map fun q=>(c::q.1,q.2)).map fun q=>(parts 58 q.1,parts 58 q.2)) = (q.map fun q=>(parts 58 q.1,parts 58 q.2)).map fun x=>((c::x.1.headD [])::x.1.tail,x.2):=by
     intro q _
     cases q with
     | none=>rfl
     | some z=>simp [parts_other hc]
    rw [key _ (fun z _=>by
     have:=parts_ne 58 z.1
     cases hz : parts 58 z.1 with
     | nil=>exact absurd hz this
     | cons a b=>exact ⟨a,b,rfl⟩),← ih]
    by_cases hcond : t.head? = some [] ∧ 2 ≤ t.length
    ·rw [if_pos hcond,if_pos hcond]; rfl
    ·rw [if_neg hcond,if_neg hcond]
     cases spl t with
     | none=>rfl
     | some z=>rfl
theorem lget_map {α β : Type} [Inhabited β] (f : α → β) (ps : List α) (i : Nat) (p : α) (h : ps[i]? = some p) : lget (ps.map f) (i : Int) = f p:=by
 unfold lget
 rw [Int.toNat_natCast,List.getD_eq_getElem?_getD,List.getElem?_map,h]; rfl
theorem list_loop (last : Bool) (ps : List (List UInt8)) (hps : ps.length < 1000000) (hsz : ∀ p ∈ ps,p.length < 1000000) : ∀ (k i : Nat) (acc : List Nat),ps.length - i = k → i ≤ ps.length → acc.length ≤ 2 * i →
  crawlwayref09_list.l0 last (ps.map bs) (ns acc) (i : Int) = some (match lst last (ps.drop i) with | some x=>.nx (ns (acc ++ x)) | none=>.ret ([],false)):=by
 intro k
 induction k with
 | zero =>
  intro i acc hk hi ha
  rw [crawlwayref09_list.l0.eq_def,if_neg (by rw [decide_eq_true_eq]; simp; omega),List.drop_eq_nil_of_le (by omega)]
  simp [lst]
 | succ k ih =>
  intro i acc hk hi ha
  have w : wr .i64 ((i : Int) + 1) = ((i + 1 : Nat) : Int):=by rw [wr_i64 (by omega) (by omega)]; omega
  obtain ⟨p,hp,hd⟩:=drop_get ps i (by omega)
  have hpm:=hsz p (List.mem_of_getElem? hp)
  have hlen : ((ps.map bs).length : Int) = (ps.length : Int):=by simp
  have w2 : wr .i64 ((ps.length : Int) - 1) = (ps.length : Int) - 1:=wr_i64 (by omega) (by omega)
  rw [crawlwayref09_list.l0.eq_def,hlen,if_pos (decide_eq_true (by omega)),if_pos (by omega),lget_map bs ps i p hp,Hex.refRead_eq,bindM_some,hd,lst]
  cases hr : Hex.read (bs p) with
  | some n =>
   show (if decide ((n : Int) ≥ 0) = true then _ else _) = _
   rw [if_pos (decide_eq_true (by omega)),if_pos (by rw [ns_len]; omega),w]
   have h2:=ih (i + 1) (acc ++ [n]) (by omega) (by omega) (by simp; omega)
   rw [ns_app] at h2
   show crawlwayref09_list.l0 last (ps.map bs) (ns acc ++ [(n : Int)]) _ = _
   have e : ns [n] = [(n : Int)]:=rfl
   rw [← e,h2]
   simp only
   cases lst last (ps.drop (i + 1)) with
   | none=>rfl
   | some x=>simp [ns_app,e]
  | none =>
   show (if decide ((-1 : Int) ≥ 0) = true then _ else _) = _
   rw [if_neg (by decide),if_pos (by omega),quad_parse_ref p hpm,bindM_some]
   simp only
   by_cases h0 : (quadP p).2 = 0
   ·obtain ⟨m,hm,hq,_⟩:=quadP_back h0
    have hb : ((viOf (quadP p)).2 != 0) = false:=by rw [hq]; rfl
    rw [hb,if_neg Bool.false_ne_true]
    cases last with
    | false =>
     rw [if_pos (by rfl),if_neg (by simp)]
    | true =>
     rw [if_neg (by decide),w2]
     by_cases hl : i + 1 < ps.length
     ·rw [if_pos (decide_eq_true (by omega)),if_neg]
      rintro ⟨_,_,h⟩
      have:=congrArg List.length h
      simp at this; omega
     ·have hdn : ps.drop (i + 1) = []:=List.drop_eq_nil_of_le (by omega)
      rw [if_neg (by rw [decide_eq_true_eq]; omega),if_pos (by rw [ns_len]; omega),if_pos ⟨h0,rfl,hdn⟩,w]
      match m,hm with
      | [a,b,c,d],hm =>
       have la:=a.toNat_lt
       have lb:=b.toNat_lt
       have lc:=c.toNat_lt
       have ld:=d.toNat_lt
       rw [hq]
       have e0 : vget (v4 [a,b,c,d]) 0 = (a.toNat : Int):=vget_v4 hm 0 a rfl
       have e1 : vget (v4 [a,b,c,d]) 1 = (b.toNat : Int):=vget_v4 hm 1 b rfl
       have e2 : vget (v4 [a,b,c,d]) 2 = (c.toNat : Int):=vget_v4 hm 2 c rfl
       have e3 : vget (v4 [a,b,c,d]) 3 = (d.toNat : Int):=vget_v4 hm 3 d rfl
       have eq : q2 (v4 [a,b,c,d]) = [256 * a.toNat + b.toNat,256 * c.toNat + d.toNat]:=by unfold q2; rw [e0,e1,e2,e3]; rfl
       have g1 : ∀ x y : Nat,x < 256 → y < 256 → wr .i64 (wr .i64 (256 * wr .i64 (x : Int)) + wr .i64 (y : Int)) = ((256 * x + y : Nat) : Int):=by
        intro x y hx hy
        rw [wr_i64 (x:=(x : Int)) (by omega) (by omega),wr_i64 (x:=(y : Int)) (by omega) (by omega),wr_i64 (x:=256 * (x : Int)) (by omega) (by omega),wr_i64 (by omega) (by omega)]; omega
       show crawlwayref09_list.l0 true (ps.map bs) (ns acc ++ [wr .i64 (wr .i64 (256 * wr .i64 (vget (v4 [a,b,c,d]) 0)) + wr .i64 (vget (v4 [a,b,c,d]) 1)),wr .i64 (wr .i64 (256 * wr .i64 (vget (v4 [a,b,c,d]) 2)) + wr .i64 (vget (v4 [a,b,c,d]) 3))]) _ = some (Ctl.nx (ns (acc ++ q2 (v4 [a,b,c,d]))))
       rw [e0,e1,e2,e3,g1 _ _ la lb,g1 _ _ lc ld,eq,crawlwayref09_list.l0.eq_def,hlen,if_neg (by rw [decide_eq_true_eq]; omega),ns_app]; rfl
   ·have hb : ((viOf (quadP p)).2 != 0) = true:=by rw [bne_iff_ne]; show (((quadP p).2 : Nat) : Int) ≠ 0; omega
    rw [hb,if_pos rfl,if_neg (fun h=>h0 h.1)]
def liOf (o : Option (List Nat)) : List Int × Bool:=match o with
 | some x=>(ns x,true)
 | none=>([],false)
theorem list_ok (l : List UInt8) (last : Bool) (hl : l.length < 100000) : crawlwayref09_list (bs l) last = some (liOf (lstE last (parts 58 l))):=by
 unfold crawlwayref09_list lstE
 by_cases h0 : l = []
 ·subst h0
  rw [if_pos ((seq_nil []).2 rfl),if_pos (show parts 58 [] = [[]] from rfl)]; rfl
 ·rw [if_neg (fun e=>h0 ((seq_nil l).1 e)),if_neg (fun e=>h0 ((parts_nil_iff l).1 e))]
  have h58 : ((58 : UInt8).toNat : Int) = 58:=rfl
  have hp:=parts_ref 58 l (by omega)
  rw [h58] at hp
  rw [hp,bindM_some]
  have:=list_loop last (parts 58 l) (by have:=parts_len 58 l; omega) (fun p hpm=>by have:=part_short 58 l p hpm; omega) (parts 58 l).length 0 [] (by omega) (by omega) (by simp)
  rw [show ns [] = ([] : List Int) from rfl,show ((0 : Nat) : Int) = 0 from rfl,List.drop_zero] at this
  rw [this,bindM_some]
  cases lst last (parts 58 l) with
  | none=>rfl
  | some x=>rfl
def Bytes (L : List Int) (R : Int → Vector Int 16 → Option (Vector Int 16)) : Prop:=∀ i o,R i o = if (decide (i < 8)) = true then (if (0 : Int) ≤ i ∧ i < (L.length : Int) then if (0 : Int) ≤ wr .i64 (2 * i) ∧ wr .i64 (2 * i) < 16 then if (0 : Int) ≤ i ∧ i < (L.length : Int) then if (0 : Int) ≤ wr .i64 ((wr .i64 (2 * i)) + 1) ∧ wr .i64 ((wr .i64 (2 * i)) + 1) < 16 then R (wr .i64 (i + 1)) (vset (vset o (wr .i64 (2 * i)) (wr .u8 (wr .i64 (Int.tdiv (lget L i) 256)))) (wr .i64 ((wr .i64 (2 * i)) + 1)) (wr .u8 (Int.tmod (lget L i) 256))) else none else none else none else none) else (some o)
theorem ref_bytes {R : Int → Vector Int 16 → Option (Vector Int 16)} {G : List Nat} (hR : Bytes (ns G) R) (h8 : G.length = 8) (hG : ∀ n ∈ G,n < 65536) : ∀ (k i : Nat),i + k = 8 → R (i : Int) (v16 (un (G.take i) ++ List.replicate (16 - 2 * i) 0)) = some (v16 (un G)):=by
 intro k
 induction k with
 | zero =>
  intro i hi
  obtain rfl : i = 8:=by omega
  rw [hR,if_neg (by decide),List.take_of_length_le (by omega)]
  simp
 | succ k ih =>
  intro i hi
  have hlt : i < 8:=by omega
  obtain ⟨n,hn⟩ : ∃ n,G[i]? = some n:=⟨_,List.getElem?_eq_getElem (by omega)⟩
  have hn6:=hG n (List.mem_of_getElem? hn)
  have w1 : wr .i64 (2 * (i : Int)) = ((2 * i : Nat) : Int):=by rw [wr_i64 (by omega) (by omega)]; omega
  have w2 : wr .i64 (((2 * i : Nat) : Int) + 1) = ((2 * i + 1 : Nat) : Int):=by rw [wr_i64 (by omega) (by omega)]; omega
  have w3 : wr .i64 ((i : Int) + 1) = ((i + 1 : Nat) : Int):=by rw [wr_i64 (by omega) (by omega)]; omega
  have hv : lget (ns G) (i : Int) = (n : Int):=by unfold lget; rw [Int.toNat_natCast]; exact ns_get G i n hn
  have hl : ((ns G).length : Int) = 8:=by rw [ns_len,h8]; rfl
  have d1 : Int.tdiv (n : Int) 256 = ((n / 256 : Nat) : Int):=by rw [Int.tdiv_eq_ediv_of_nonneg (by omega)]; omega
  have d2 : Int.tmod (n : Int) 256 = ((n % 256 : Nat) : Int):=by rw [Int.tmod_eq_emod_of_nonneg (by omega)]; omega
  rw [hR,if_pos (decide_eq_true (by omega)),hl,if_pos (by omega),w1,w2,if_pos (by omega),if_pos (by omega),if_pos (by omega),w3,hv,d1,d2,put2 G h8 i n hlt hn hn6]
  ·exact ih (i + 1) (by omega)
  ·rw [wr_i64 (by omega) (by omega),wr_u8 (by omega) (by omega)]
  ·rw [wr_u8 (by omega) (by omega)]
theorem bytes0 (L : List Int) (b : Bool) : Bytes L fun i o=>crawlwayref09_Parse.l0 (L,b) i o:=fun i o=>by
 show crawlwayref09_Parse.l0 (L,b) i o = _
 rw [crawlwayref09_Parse.l0.eq_def]
theorem bytes3 (q y : List Int) (b : Bool) : Bytes (q ++ y) fun i o=>crawlwayref09_Parse.l3 (y,b) q i o:=fun i o=>by
 show crawlwayref09_Parse.l3 (y,b) q i o = _
 rw [crawlwayref09_Parse.l3.eq_def]
theorem lst_len (last : Bool) : ∀ (ps : List (List UInt8)) (x : List Nat),lst last ps = some x → x.length ≤ ps.length + 1
 | [],x,h=>by cases h; simp
 | p::r,x,h=>by
  rw [lst] at h
  cases hr : Hex.read (bs p) with
  | some m =>
   rw [hr] at h
   obtain ⟨y,hy,rfl⟩:=Option.map_eq_some_iff.1 h
   have:=lst_len last r y hy
   simp; omega
  | none =>
   rw [hr] at h
   simp only at h
   split at h
   ·cases h; simp [q2]
   ·cases h
theorem lstE_len {last : Bool} {ps : List (List UInt8)} {x : List Nat} (h : lstE last ps = some x) : x.length ≤ ps.length + 1:=by
 unfold lstE at h
 split at h
 ·cases h; simp
 ·exact lst_len last ps x h
theorem copy_loop (G : List Nat) (hG : G.length < 1000000) (b : Bool) : ∀ (k i : Nat),G.length - i = k → i ≤ G.length → crawlwayref09_Parse.l1 (ns G,b) (ns (G.take i)) (i : Int) = some (ns G):=by
 intro k
 induction k with
 | zero =>
  intro i hk hi
  rw [crawlwayref09_Parse.l1.eq_def]
  show (if decide ((i : Int) < ((ns G).length : Int)) = true then _ else _) = _
  rw [ns_len,if_neg (by rw [decide_eq_true_eq]; omega),List.take_of_length_le (by omega)]
 | succ k ih =>
  intro i hk hi
  obtain ⟨n,hn⟩ : ∃ n,G[i]? = some n:=⟨_,List.getElem?_eq_getElem (by omega)⟩
  have w : wr .i64 ((i : Int) + 1) = ((i + 1 : Nat) : Int):=by rw [wr_i64 (by omega) (by omega)]; omega
  have hv : lget (ns G) (i : Int) = (n : Int):=by unfold lget; rw [Int.toNat_natCast]; exact ns_get G i n hn
  have h2:=ih (i + 1) (by omega) (by omega)
  rw [List.take_add_one,hn,ns_app] at h2
  rw [crawlwayref09_Parse.l1.eq_def]
  show (if decide ((i : Int) < ((ns G).length : Int)) = true then (if (0 : Int) ≤ (i : Int) ∧ (i : Int) < ((ns G).length : Int) then if (ns (G.take i)).length.succ * 8 ≤ _ then crawlwayref09_Parse.l1 (ns G,b) (ns (G.take i) ++ [lget (ns G) (i : Int)]) (wr .i64 ((i : Int) + 1)) else none else none) else _) = _
  rw [ns_len,ns_len,if_pos (decide_eq_true (by omega)),if_pos (by omega),if_pos (by rw [List.length_take]; omega),hv,w]
  exact h2
theorem zero_loop (y : List Int) (b : Bool) (hy : y.length ≤ 8) : ∀ (k : Nat) (G : List Nat),8 - (G.length + y.length) = k → G.length ≤ 8 → crawlwayref09_Parse.l2 (y,b) (ns G) = some (ns (G ++ List.replicate (8 - (G.length + y.length)) 0)):=by
 intro k
 induction k with
 | zero =>
  intro G hk hG
  rw [crawlwayref09_Parse.l2.eq_def]
  show (if decide (wr .i64 (((ns G).length : Int) + (y.length : Int)) < 8) = true then _ else _) = _
  rw [ns_len,wr_i64 (by omega) (by omega),if_neg (by rw [decide_eq_true_eq]; omega),hk]
  simp
 | succ k ih =>
  intro G hk hG
  have h2:=ih (G ++ [0]) (by simp; omega) (by simp; omega)
  rw [ns_app] at h2
  rw [crawlwayref09_Parse.l2.eq_def]
  show (if decide (wr .i64 (((ns G).length : Int) + (y.length : Int)) < 8) = true then (if (ns G).length.succ * 8 ≤ _ then crawlwayref09_Parse.l2 (y,b) (ns G ++ [0]) else none) else _) = _
  rw [ns_len,wr_i64 (by omega) (by omega),if_pos (decide_eq_true (by omega)),if_pos (by omega)]
  show crawlwayref09_Parse.l2 (y,b) (ns G ++ ns [0]) = _
  rw [h2,List.append_assoc,hk]
  simp only [List.length_append,List.length_cons,List.length_nil]
  rw [show 8 - (G.length + (0 + 1) + y.length) = k by omega,List.replicate_succ]
  rfl
theorem ref_parse (l : List UInt8) (hb : l.length < 100000) : crawlwayref09_Parse (bs l) = some (parseV l,(parseL l).isSome):=by
 unfold crawlwayref09_Parse parseV
 have hgap:=gap_ok l (by omega)
 have hspl:=spl_gap l
 cases hg : gapL l with
 | none =>
  rw [hg] at hspl
  have hspl' : spl (parts 58 l) = none:=hspl
  have hgap' : crawlwayref09_gap (bs l) = some (-1):=by rw [hgap,hg]
  rw [hgap',bindM_some]
  show (if decide ((-1 : Int) < 0) = true then _ else _) = _
  rw [if_pos (by decide),list_ok l true hb,bindM_some]
  have e : lstE true (parts 58 l) = some [] ∧ l = [] ∨ lstE true (parts 58 l) = lst true (parts 58 l) ∧ l ≠ []:=by
   unfold lstE
   by_cases h0 : l = []
   ·subst h0; exact .inl ⟨rfl,rfl⟩
   ·exact .inr ⟨if_neg (fun e=>h0 ((parts_nil_iff l).1 e)),h0⟩
  rcases e with ⟨e,h0⟩ | ⟨e,h0⟩
  ·subst h0
   rw [e]
   have e2 : parseL [] = none:=rfl
   rw [e2]
   show (if (!true) = true then _ else (if ((0 : Int) != 8) = true then _ else _)) = _
   rw [if_neg (by decide),if_pos (by decide),v16_zero]; rfl
  ·rw [e]
   have e2 : parseL l = (lst true (parts 58 l)).bind fun x=>if x.length = 8 then some x else none:=by unfold parseL; rw [hspl']
   have hok : ∀ {G : List Nat},parseL l = some G → G.length = 8 ∧ ∀ n ∈ G,n < 65536:=fun h=>parseL_ok h
   rw [e2] at hok ⊢
   cases hl : lst true (parts 58 l) with
   | none =>
    show (if (!false) = true then _ else _) = _
    rw [if_pos (show (!false) = true from rfl),v16_zero]; rfl
   | some x =>
    rw [hl] at hok
    show (if (!true) = true then _ else (if (((ns x).length : Int) != 8) = true then _ else _)) = _
    rw [if_neg (by decide),ns_len]
    simp only [Option.bind_some] at hok ⊢
    by_cases h8 : x.length = 8
    ·have hne : ((x.length : Int) != 8) = false:=by rw [h8]; rfl
     rw [if_pos h8] at hok ⊢
     have hlt:=(hok rfl).2
     rw [hne,if_neg Bool.false_ne_true,v16_zero]
     have:=ref_bytes (bytes0 (ns x) true) h8 hlt 8 0 rfl
     rw [show 16 - 2 * 0 = 16 from rfl,List.take_zero,show un [] = [] from rfl,List.nil_append,show ((0 : Nat) : Int) = 0 from rfl] at this
     show (crawlwayref09_Parse.l0 (ns x,true) 0 (v16 (List.replicate 16 0)) >>= fun q10=>_) = _
     rw [this]; rfl
    ·have hne : ((x.length : Int) != 8) = true:=by rw [bne_iff_ne]; omega
     rw [hne,if_pos rfl,if_neg h8,v16_zero]; rfl
 | some q =>
  obtain ⟨a,b⟩:=q
  rw [hg] at hspl
  have hspl' : spl (parts 58 l) = some (parts 58 a,parts 58 b):=hspl
  have hl:=gapL_eq hg
  have hlen : l.length = a.length + (b.length + 2):=by rw [hl]; simp
  have hgap' : crawlwayref09_gap (bs l) = some (a.length : Int):=by rw [hgap,hg]
  rw [hgap',bindM_some]
  have w2 : wr .i64 ((a.length : Int) + 2) = ((a.length + 2 : Nat) : Int):=by rw [wr_i64 (by omega) (by omega)]; omega
  have x1 : (bs l).extract (Int.toNat 0) (Int.toNat (a.length : Int)) = bs a:=by
   rw [Int.toNat_natCast,bs_extract,hl,List.take_left' rfl]; rfl
  have x2 : (bs l).extract (Int.toNat ((a.length + 2 : Nat) : Int)) (Int.toNat ((bs l).size : Int)) = bs b:=by
   rw [Int.toNat_natCast,Int.toNat_natCast,bs_extract,bs_size,List.take_of_length_le (Nat.le_refl _),hl,List.drop_append,List.drop_eq_nil_of_le (by omega),show a.length + 2 - a.length = 2 by omega]; rfl
  have hsz : (bs l).size = l.length:=bs_size l
  rw [if_neg (by rw [decide_eq_true_eq]; omega),if_pos (by rw [hsz]; omega),x1,list_ok a false (by omega),bindM_some,w2,if_pos (by rw [hsz]; omega),x2,list_ok b true (by omega),bindM_some]
  have e2 : parseL l = (lstE false (parts 58 a)).bind fun x=>(lstE true (parts 58 b)).bind fun y=>if x.length + y.length ≤ 7 then some (x ++ (List.replicate (8 - x.length - y.length) 0 ++ y)) else none:=by unfold parseL; rw [hspl']
  have hok : ∀ {G : List Nat},parseL l = some G → G.length = 8 ∧ ∀ n ∈ G,n < 65536:=fun h=>parseL_ok h
  rw [e2] at hok ⊢
  cases hx : lstE false (parts 58 a) with
  | none =>
   show (if (!false) = true then _ else _) = _
   rw [if_pos (show (!false) = true from rfl),v16_zero]; rfl
  | some x =>
   rw [hx] at hok
   cases hy : lstE true (parts 58 b) with
   | none =>
    show (if (!true) = true then _ else (if (!false) = true then _ else _)) = _
    rw [if_neg (by decide),if_pos (show (!false) = true from rfl),v16_zero]; rfl
   | some y =>
    rw [hy] at hok
    simp only [Option.bind_some] at hok ⊢
    have hxl : x.length < 1000000:=by have:=lstE_len hx; have:=parts_len 58 a; omega
    have hyl : y.length < 1000000:=by have:=lstE_len hy; have:=parts_len 58 b; omega
    show (if (!true) = true then _ else (if (!true) = true then _ else (if decide (wr .i64 (((ns x).length : Int) + ((ns y).length : Int)) > 7) = true then _ else _))) = _
    rw [if_neg (by decide),if_neg (by decide),ns_len,ns_len,wr_i64 (by omega) (by omega)]
    by_cases h7 : x.length + y.length ≤ 7
    ·rw [if_neg (by rw [decide_eq_true_eq]; omega)]
     rw [if_pos h7] at hok ⊢
     obtain ⟨h8,hlt⟩:=hok rfl
     have c1:=copy_loop x hxl true x.length 0 (by omega) (by omega)
     rw [List.take_zero,show ns [] = ([] : List Int) from rfl,show ((0 : Nat) : Int) = 0 from rfl] at c1
     show (crawlwayref09_Parse.l1 (ns x,true) [] 0 >>= fun q37=>crawlwayref09_Parse.l2 (ns y,true) q37 >>= fun q55=>_) = _
     rw [c1,bindM_some,zero_loop (ns y) true (by rw [ns_len]; omega) _ x rfl (by omega),bindM_some]
     rw [show liOf (some y) = (ns y,true) from rfl,ns_len,ns_len,if_pos (by simp; omega),v16_zero]
     have b3:=bytes3 (ns (x ++ List.replicate (8 - (x.length + y.length)) 0)) (ns y) true
     have eG : ns (x ++ List.replicate (8 - (x.length + y.length)) 0) ++ ns y = ns (x ++ (List.replicate (8 - x.length - y.length) 0 ++ y)):=by
      rw [← ns_app,List.append_assoc,Nat.sub_sub]
     rw [eG] at b3
     have:=ref_bytes b3 h8 hlt 8 0 rfl
     rw [show 16 - 2 * 0 = 16 from rfl,List.take_zero,show un [] = [] from rfl,List.nil_append,show ((0 : Nat) : Int) = 0 from rfl] at this
     rw [this]; rfl
    ·rw [if_pos (decide_eq_true (by omega)),if_neg h7,v16_zero]; rfl
end Go.Proofs.YtkkmmpofdcccmaaGreatDoor.Col
namespace Go.Proofs.YtkkmmpofdcccmaaGreatDoor.Col
open E Go.RowKit
theorem gr_get : ∀ (l : List UInt8) (i : Nat) (a b : UInt8), l[2 * i]? = some a → l[2 * i + 1]? = some b → (gr l)[i]? = some (256 * a.toNat + b.toNat)
  | x :: y :: r, 0, a, b, ha, hb => by simp at ha hb; subst ha hb; rfl
  | x :: y :: r, i + 1, a, b, ha, hb => by
    have e1 : 2 * (i + 1) = 2 * i + 1 + 1 := by omega
    have e2 : 2 * (i + 1) + 1 = 2 * i + 1 + 1 + 1 := by omega
    rw [e1] at ha
    rw [e2] at hb
    simp only [List.getElem?_cons_succ] at ha hb
    exact gr_get r i a b ha hb
  | [x], i, a, b, ha, hb => by
    cases i with
    | zero => simp at hb
    | succ i => have : 2 * (i + 1) = (2 * i + 1) + 1 := by omega
                rw [this] at ha; simp at ha
  | [], i, a, b, ha, hb => by simp at ha
theorem ofBig2 (a b : UInt8) : endian_OfBig (ob [a,b]) = some (((256 * a.toNat + b.toNat : Nat) : Int),0):=by
 have ha:=a.toNat_lt
 have hb:=b.toNat_lt
 have e1 : ior .u64 (ishl .u64 0 8) (wr .u64 (a.toNat : Int)) = (a.toNat : Int):=by
  rw [wr_u64 (by omega) (by omega),show (8 : Int) = ((8 : Nat) : Int) from rfl,show (0 : Int) = ((0 : Nat) : Int) from rfl,ishl_nat .u64 rfl 0 8 (by decide),ior_nat .u64 rfl _ _ (by decide) (by show _ < 18446744073709551616; omega)]
  simp
 have e2 : ior .u64 (ishl .u64 (a.toNat : Int) 8) (wr .u64 (b.toNat : Int)) = ((256 * a.toNat + b.toNat : Nat) : Int):=by
  rw [wr_u64 (by omega) (by omega),show (8 : Int) = ((8 : Nat) : Int) from rfl,ishl_nat .u64 rfl a.toNat 8 (by decide)]
  have e : (a.toNat * 2 ^ 8) % 2 ^ IntKind.u64.bits = a.toNat * 256:=by show (a.toNat * 256) % 18446744073709551616 = _; omega
  rw [e,ior_nat .u64 rfl _ _ (by show _ < 18446744073709551616; omega) (by show _ < 18446744073709551616; omega)]
  have h2:=Nat.two_pow_add_eq_or_of_lt (i:=8) (b:=b.toNat) (by simpa using hb) a.toNat
  have e3 : 2 ^ 8 * a.toNat = a.toNat * 256:=by omega
  rw [e3] at h2
  rw [← h2,Nat.mul_comm a.toNat 256]
 have l0 : lget (ob [a,b]) 0 = (a.toNat : Int):=rfl
 have l1 : lget (ob [a,b]) 1 = (b.toNat : Int):=rfl
 have hl : ((ob [a,b]).length : Int) = 2:=rfl
 unfold endian_OfBig endian_sized
 rw [hl,if_pos (by decide),bindM_some]
 show (if (!true) = true then _ else _) = _
 rw [if_neg (by decide),endian_OfBig.l0.eq_def,hl,if_pos (by decide),if_pos (by decide),l0,e1,show wr .i64 (0 + 1) = 1 from rfl,endian_OfBig.l0.eq_def,hl,if_pos (by decide),if_pos (by decide),l1,e2,show wr .i64 (1 + 1) = 2 from rfl,endian_OfBig.l0.eq_def,hl,if_neg (by decide),bindM_some]
theorem groups_loop {m : List UInt8} (hm : m.length = 16) : ∀ (k i : Nat),i + k = 8 → colon_groups.l0 (v16 m) (i : Int) (gv ((gr m).take i)) = some (gv (gr m)):=by
 have hg : (gr m).length = 8:=by rw [gr_len,hm]
 intro k
 induction k with
 | zero =>
  intro i hi
  obtain rfl : i = 8:=by omega
  rw [colon_groups.l0.eq_def,if_neg (by decide),List.take_of_length_le (by omega)]
 | succ k ih =>
  intro i hi
  have w1 : wr .i64 (2 * (i : Int)) = ((2 * i : Nat) : Int):=by rw [wr_i64 (by omega) (by omega)]; omega
  have w2 : wr .i64 (((2 * i : Nat) : Int) + 2) = ((2 * i + 2 : Nat) : Int):=by rw [wr_i64 (by omega) (by omega)]; omega
  have w3 : wr .i64 ((i : Int) + 1) = ((i + 1 : Nat) : Int):=by rw [wr_i64 (by omega) (by omega)]; omega
  obtain ⟨a,ha⟩ : ∃ a,m[2 * i]? = some a:=⟨_,List.getElem?_eq_getElem (by omega)⟩
  obtain ⟨b,hb⟩ : ∃ b,m[2 * i + 1]? = some b:=⟨_,List.getElem?_eq_getElem (by omega)⟩
  have hn:=gr_get m i a b ha hb
  have la:=a.toNat_lt
  have lb:=b.toNat_lt
  have hs : lsub (Vector.toList (v16 m)) ((2 * i : Nat) : Int) ((2 * i + 2 : Nat) : Int) = ob [a,b]:=by
   unfold lsub
   rw [v16_toList hm,Int.toNat_natCast,Int.toNat_natCast]
   unfold ob
   rw [← List.map_take,← List.map_drop]
   congr 1
   rw [List.take_add_one,List.take_add_one,ha,hb]
   have hl : (m.take (2 * i)).length = 2 * i:=by rw [List.length_take]; omega
   simp only [Option.toList]
   rw [List.append_assoc,List.drop_left' hl]; rfl
  have hi8 : ((gr m).take i).length = i:=by rw [List.length_take]; omega
  rw [colon_groups.l0.eq_def,if_pos (decide_eq_true (by omega)),w1,w2,if_pos (by omega),hs,ofBig2,bindM_some,if_pos (by omega),w3]
  show colon_groups.l0 (v16 m) _ (vset (gv ((gr m).take i)) (i : Int) (wr .u16 ((256 * a.toNat + b.toNat : Nat) : Int))) = _
  rw [wr_u16 (by omega) (by omega)]
  have h2:=gv_set (G:=(gr m).take i) (by omega) (256 * a.toNat + b.toNat)
  rw [hi8] at h2
  have h3:=ih (i + 1) (by omega)
  rw [List.take_add_one,hn] at h3
  rw [h2]; exact h3
theorem groups_ok {m : List UInt8} (hm : m.length = 16) : colon_groups (v16 m) = some (gv (gr m)):=by
 unfold colon_groups
 have:=groups_loop hm 8 0 rfl
 rw [List.take_zero,← gv_zero,show ((0 : Nat) : Int) = 0 from rfl] at this
 rw [this,bindM_some]
theorem zp_get {G : List Nat} {i n : Nat} (h : G[i]? = some n) : (zp G)[i]? = some (n == 0):=by unfold zp; rw [List.getElem?_map,h]; rfl
def ii (q : Nat × Nat) : Int × Int:=((q.1 : Int),(q.2 : Int))
theorem int_zero (n : Nat) : ((n : Int) != 0) = !(n == 0):=by
 by_cases h : n = 0
 ·subst h; rfl
 ·have h2 : (n == 0) = false:=by simp [h]
  rw [h2]
  have : ((n : Int) != 0) = true:=by rw [bne_iff_ne]; omega
  rw [this]; rfl
theorem longest_loop {G : List Nat} (h8 : G.length = 8) : ∀ (k i p z now : Nat),i + k = 8 → p ≤ 8 → z ≤ 8 → now ≤ i → colon_longest.l0 (gv G) (p : Int) (z : Int) (now : Int) (i : Int) = some (ii (lgC ((zp G).drop i) i p z now)):=by
 intro k
 induction k with
 | zero =>
  intro i p z now hi hp hz hn
  obtain rfl : i = 8:=by omega
  rw [colon_longest.l0.eq_def,if_neg (by decide),List.drop_eq_nil_of_le (by rw [zp_len]; omega)]; rfl
 | succ k ih =>
  intro i p z now hi hp hz hn
  obtain ⟨n,hn'⟩ : ∃ n,G[i]? = some n:=⟨_,List.getElem?_eq_getElem (by omega)⟩
  obtain ⟨c,hc,hd⟩:=drop_get (zp G) i (by rw [zp_len]; omega)
  rw [zp_get hn'] at hc
  cases hc
  have w1 : wr .i64 ((i : Int) + 1) = ((i + 1 : Nat) : Int):=by rw [wr_i64 (by omega) (by omega)]; omega
  have w2 : wr .i64 ((now : Int) + 1) = ((now + 1 : Nat) : Int):=by rw [wr_i64 (by omega) (by omega)]; omega
  have w3 : wr .i64 (((i + 1 : Nat) : Int) - ((now + 1 : Nat) : Int)) = ((i + 1 - (now + 1) : Nat) : Int):=by rw [wr_i64 (by omega) (by omega)]; omega
  rw [colon_longest.l0.eq_def,if_pos (decide_eq_true (by omega)),if_pos (by omega),gv_get h8 i n hn',int_zero,w1,w2,w3,hd,lgC]
  cases hb : (n == 0) with
  | false =>
   rw [if_pos (show (!false) = true from rfl),if_pos (show false = false from rfl)]
   exact ih (i + 1) p z 0 (by omega) hp hz (by omega)
  | true =>
   rw [if_neg (show ¬ (!true) = true by decide),if_neg (show ¬ true = false by decide)]
   by_cases hg : now + 1 > z
   ·rw [if_pos (decide_eq_true (by omega)),if_pos hg]
    exact ih (i + 1) _ _ _ (by omega) (by omega) (by omega) (by omega)
   ·rw [if_neg (by rw [decide_eq_true_eq]; omega),if_neg hg]
    exact ih (i + 1) _ _ _ (by omega) hp hz (by omega)
theorem longest_ok {G : List Nat} (h8 : G.length = 8) : colon_longest (gv G) = some (ii (lg (zp G))):=by
 unfold colon_longest
 have:=longest_loop h8 8 0 0 0 0 rfl (by omega) (by omega) (by omega)
 rw [List.drop_zero,lg_code (by rw [zp_len,h8])] at this
 rw [show (0 : Int) = ((0 : Nat) : Int) from rfl,this,bindM_some]
theorem row_loop (A : List Nat) (hA : ∀ n ∈ A,n < 65536) (hl : A.length ≤ 8) : ∀ (k i : Nat),A.length - i = k → i ≤ A.length → colon_row.l0 (ns A) ((A.take i).map Hex.grp) (i : Int) = some (A.map Hex.grp):=by
 intro k
 induction k with
 | zero =>
  intro i hk hi
  rw [colon_row.l0.eq_def,ns_len,if_neg (by rw [decide_eq_true_eq]; omega),List.take_of_length_le (by omega)]
 | succ k ih =>
  intro i hk hi
  obtain ⟨n,hn⟩ : ∃ n,A[i]? = some n:=⟨_,List.getElem?_eq_getElem (by omega)⟩
  have w : wr .i64 ((i : Int) + 1) = ((i + 1 : Nat) : Int):=by rw [wr_i64 (by omega) (by omega)]; omega
  have hv : lget (ns A) (i : Int) = (n : Int):=by unfold lget; rw [Int.toNat_natCast]; exact ns_get A i n hn
  have h2:=ih (i + 1) (by omega) (by omega)
  rw [List.take_add_one,hn,List.map_append] at h2
  rw [colon_row.l0.eq_def,ns_len,if_pos (decide_eq_true (by omega)),if_pos (by omega),hv,Hex.group_eq n (hA n (List.mem_of_getElem? hn)),bindM_some,if_pos (by rw [List.length_map,List.length_take]; omega),w]
  exact h2
theorem row_join : ∀ (A : List Nat),[58].intercalate (A.map g1) = rowL A
 | []=>rfl
 | [n]=>by simp [List.intercalate,rowL]
 | n::m::r=>by
  have:=row_join (m::r)
  simp only [List.intercalate,List.map_cons,List.intersperse,List.flatten_cons,rowL] at this ⊢
  rw [this]; rfl
theorem bjoin_row (A : List Nat) : bjoin (A.map Hex.grp) (⟨#[58]⟩ : ByteArray) = bs (rowL A):=by
 apply mk_inj
 rw [bs_list,← row_join]
 unfold bjoin Lib.join
 simp only [List.map_map]
 rfl
theorem row_ok (A : List Nat) (hA : ∀ n ∈ A,n < 65536) (hl : A.length ≤ 8) : colon_row (ns A) = some (bs (rowL A)):=by
 unfold colon_row
 have h:=row_loop A hA hl A.length 0 (by omega) (by omega)
 rw [List.take_zero,List.map_nil,show ((0 : Nat) : Int) = 0 from rfl] at h
 have hs:=rowL_len A hA
 rw [h,bindM_some,if_pos (by rw [List.length_map]; omega),bjoin_row,if_pos (by rw [bs_size]; omega)]
theorem bs_app (l k : List UInt8) : bs l ++ bs k = bs (l ++ k):=by apply mk_inj; rw [append_list,bs_list,bs_list,bs_list]
theorem text_ok {m : List UInt8} (hm : m.length = 16) : colon_Text (v16 m) = some (bs (textL (gr m))):=by
 have hg : (gr m).length = 8:=by rw [gr_len,hm]
 have hlt:=gr_lt m
 have hf:=lg_fits (z:=zp (gr m)) (by rw [zp_len,hg])
 have hgl : (gv (gr m)).toList = ns (gr m):=by rw [gv_toList (by omega),hg]; simp
 unfold colon_Text
 rw [groups_ok hm,bindM_some,longest_ok hg,bindM_some,hgl]
 unfold textL
 generalize lg (zp (gr m)) = q at hf
 obtain ⟨p,z⟩:=q
 simp only at hf
 show (if decide ((z : Int) < 2) = true then _ else (if (0 : Int) ≤ 0 ∧ (0 : Int) ≤ (p : Int) ∧ (p : Int) ≤ 8 then colon_row (lsub (ns (gr m)) 0 (p : Int)) >>= fun t8=>if t8.size + (⟨#[58,58]⟩ : ByteArray).size ≤ 140737488355328 then if (0 : Int) ≤ wr .i64 ((p : Int) + (z : Int)) ∧ wr .i64 ((p : Int) + (z : Int)) ≤ 8 ∧ (8 : Int) ≤ 8 then colon_row (lsub (ns (gr m)) (wr .i64 ((p : Int) + (z : Int))) 8) >>= fun t11=>if (t8 ++ (⟨#[58,58]⟩ : ByteArray)).size + t11.size ≤ 140737488355328 then some ((t8 ++ (⟨#[58,58]⟩ : ByteArray)) ++ t11) else none else none else none else none)) = some (bs (if z < 2 then rowL (gr m) else rowL ((gr m).take p) ++ 58::58::rowL ((gr m).drop (p + z))))
 by_cases h2 : z < 2
 ·rw [if_pos (decide_eq_true (by omega)),if_pos h2,row_ok _ hlt (by omega)]; rfl
 ·have w : wr .i64 ((p : Int) + (z : Int)) = ((p + z : Nat) : Int):=by rw [wr_i64 (by omega) (by omega)]; omega
  have s1 : lsub (ns (gr m)) 0 (p : Int) = ns ((gr m).take p):=by unfold lsub; rw [Int.toNat_natCast,ns_take]; rfl
  have s2 : lsub (ns (gr m)) ((p + z : Nat) : Int) 8 = ns ((gr m).drop (p + z)):=by
   unfold lsub; rw [Int.toNat_natCast,show Int.toNat 8 = 8 from rfl,List.take_of_length_le (by rw [ns_len]; omega),ns_drop]
  have hA : ∀ n ∈ (gr m).take p,n < 65536:=fun n hn=>hlt n (List.mem_of_mem_take hn)
  have hB : ∀ n ∈ (gr m).drop (p + z),n < 65536:=fun n hn=>hlt n (List.mem_of_mem_drop hn)
  have lA:=rowL_len _ hA
  have lB:=rowL_len _ hB
  rw [List.length_take] at lA
  rw [List.length_drop] at lB
  have h58 : (⟨#[58,58]⟩ : ByteArray) = bs [58,58]:=rfl
  rw [if_neg (by rw [decide_eq_true_eq]; omega),if_pos (by omega),s1,row_ok _ hA (by rw [List.length_take]; omega),bindM_some,h58,if_pos (by rw [bs_size,bs_size]; simp only [List.length_cons,List.length_nil]; omega),w,if_pos (by omega),s2,row_ok _ hB (by rw [List.length_drop]; omega),bindM_some,bs_app,if_pos (by rw [bs_size,bs_size]; simp only [List.length_append,List.length_cons,List.length_nil]; omega),bs_app,if_neg h2]
  rw [List.append_assoc]; rfl
end Go.Proofs.YtkkmmpofdcccmaaGreatDoor.Col
namespace Go.Proofs.YtkkmmpofdcccmaaGreatDoor.Col
open E Go.RowKit
theorem refGroups_loop {m : List UInt8} (hm : m.length = 16) : ∀ (k i : Nat),i + k = 8 → crawlwayref09_groups.l0 (v16 m) (i : Int) (gv ((gr m).take i)) = some (gv (gr m)):=by
 have hg : (gr m).length = 8:=by rw [gr_len,hm]
 intro k
 induction k with
 | zero =>
  intro i hi
  obtain rfl : i = 8:=by omega
  rw [crawlwayref09_groups.l0.eq_def,if_neg (by decide),List.take_of_length_le (by omega)]
 | succ k ih =>
  intro i hi
  have w1 : wr .i64 (2 * (i : Int)) = ((2 * i : Nat) : Int):=by rw [wr_i64 (by omega) (by omega)]; omega
  have w2 : wr .i64 (((2 * i : Nat) : Int) + 1) = ((2 * i + 1 : Nat) : Int):=by rw [wr_i64 (by omega) (by omega)]; omega
  have w3 : wr .i64 ((i : Int) + 1) = ((i + 1 : Nat) : Int):=by rw [wr_i64 (by omega) (by omega)]; omega
  obtain ⟨a,ha⟩ : ∃ a,m[2 * i]? = some a:=⟨_,List.getElem?_eq_getElem (by omega)⟩
  obtain ⟨b,hb⟩ : ∃ b,m[2 * i + 1]? = some b:=⟨_,List.getElem?_eq_getElem (by omega)⟩
  have hn:=gr_get m i a b ha hb
  have la:=a.toNat_lt
  have lb:=b.toNat_lt
  have va:=v16_get hm (2 * i) a ha
  have vb:=v16_get hm (2 * i + 1) b hb
  have hi8 : ((gr m).take i).length = i:=by rw [List.length_take]; omega
  have e : wr .i64 (wr .i64 (256 * wr .i64 (a.toNat : Int)) + wr .i64 (b.toNat : Int)) = ((256 * a.toNat + b.toNat : Nat) : Int):=by
   rw [wr_i64 (x:=(a.toNat : Int)) (by omega) (by omega),wr_i64 (x:=(b.toNat : Int)) (by omega) (by omega),wr_i64 (x:=256 * (a.toNat : Int)) (by omega) (by omega),wr_i64 (by omega) (by omega)]; omega
  have h2:=gv_set (G:=(gr m).take i) (by omega) (256 * a.toNat + b.toNat)
  rw [hi8] at h2
  have h3:=ih (i + 1) (by omega)
  rw [List.take_add_one,hn] at h3
  rw [crawlwayref09_groups.l0.eq_def,if_pos (decide_eq_true (by omega)),w1,w2,if_pos (by omega),if_pos (by omega),if_pos (by omega),w3,va,vb,e,h2]
  exact h3
theorem refGroups_ok {m : List UInt8} (hm : m.length = 16) : crawlwayref09_groups (v16 m) = some (gv (gr m)):=by
 unfold crawlwayref09_groups
 have:=refGroups_loop hm 8 0 rfl
 rw [List.take_zero,← gv_zero,show ((0 : Nat) : Int) = 0 from rfl] at this
 rw [this,bindM_some]
theorem run_loop {G : List Nat} (h8 : G.length = 8) (f : Nat) (hf : f ≤ 8) : ∀ (k i : Nat),f + i + k = 8 → crawlwayref09_run.l0 (gv G) (f : Int) (i : Int) = some ((i + runz ((zp G).drop (f + i)) : Nat) : Int):=by
 intro k
 induction k with
 | zero =>
  intro i hi
  have w : wr .i64 ((f : Int) + (i : Int)) = ((f + i : Nat) : Int):=by rw [wr_i64 (by omega) (by omega)]; omega
  rw [crawlwayref09_run.l0.eq_def,w,if_neg (by rw [decide_eq_true_eq]; omega),List.drop_eq_nil_of_le (by rw [zp_len]; omega)]; rfl
 | succ k ih =>
  intro i hi
  have w : wr .i64 ((f : Int) + (i : Int)) = ((f + i : Nat) : Int):=by rw [wr_i64 (by omega) (by omega)]; omega
  have w1 : wr .i64 ((i : Int) + 1) = ((i + 1 : Nat) : Int):=by rw [wr_i64 (by omega) (by omega)]; omega
  obtain ⟨n,hn'⟩ : ∃ n,G[f + i]? = some n:=⟨_,List.getElem?_eq_getElem (by omega)⟩
  obtain ⟨c,hc,hd⟩:=drop_get (zp G) (f + i) (by rw [zp_len]; omega)
  rw [zp_get hn'] at hc
  cases hc
  have ez : ((n : Int) == 0) = (n == 0):=by
   by_cases h : n = 0
   ·subst h; rfl
   ·have h2 : (n == 0) = false:=by simp [h]
    rw [h2,beq_eq_false_iff_ne]; omega
  rw [crawlwayref09_run.l0.eq_def,w,if_pos (decide_eq_true (by omega)),if_pos (by omega),gv_get h8 (f + i) n hn',ez,w1,hd]
  cases hb : (n == 0) with
  | false=>rw [if_neg Bool.false_ne_true]; rfl
  | true =>
   rw [if_pos rfl,ih (i + 1) (by omega)]
   simp only [runz]
   rw [show f + (i + 1) = f + i + 1 by omega]
   congr 2; omega
theorem run_ok {G : List Nat} (h8 : G.length = 8) (f : Nat) (hf : f ≤ 8) : crawlwayref09_run (gv G) (f : Int) = some ((runz ((zp G).drop f) : Nat) : Int):=by
 unfold crawlwayref09_run
 have:=run_loop h8 f hf (8 - f) 0 (by omega)
 rw [show ((0 : Nat) : Int) = 0 from rfl,Nat.zero_add,Nat.add_zero] at this
 rw [this,bindM_some]
theorem refText_loop {G : List Nat} (h8 : G.length = 8) : ∀ (k i p z : Nat),i + k = 8 → crawlwayref09_Text.l0 (gv G) (p : Int) (z : Int) (i : Int) = some (ii (lgR ((zp G).drop i) i p z)):=by
 intro k
 induction k with
 | zero =>
  intro i p z hi
  obtain rfl : i = 8:=by omega
  rw [crawlwayref09_Text.l0.eq_def,if_neg (by decide),List.drop_eq_nil_of_le (by rw [zp_len]; omega)]; rfl
 | succ k ih =>
  intro i p z hi
  have w1 : wr .i64 ((i : Int) + 1) = ((i + 1 : Nat) : Int):=by rw [wr_i64 (by omega) (by omega)]; omega
  obtain ⟨c,hc,hd⟩:=drop_get (zp G) i (by rw [zp_len]; omega)
  rw [crawlwayref09_Text.l0.eq_def,if_pos (decide_eq_true (by omega)),run_ok h8 i (by omega),bindM_some,bindM_some,w1,hd,lgR]
  by_cases hg : runz (c::(zp G).drop (i + 1)) > z
  ·rw [if_pos (decide_eq_true (by omega)),if_pos hg]
   exact ih (i + 1) _ _ (by omega)
  ·rw [if_neg (by rw [decide_eq_true_eq]; omega),if_neg hg]
   exact ih (i + 1) _ _ (by omega)
theorem rowL_snoc : ∀ (A : List Nat) (n : Nat),rowL (A ++ [n]) = if A = [] then g1 n else rowL A ++ 58::g1 n
 | [],n=>rfl
 | [a],n=>by rw [if_neg (by simp)]; rfl
 | a::b::r,n=>by
  have:=rowL_snoc (b::r) n
  rw [if_neg (by simp)] at this ⊢
  show g1 a ++ 58::rowL ((b::r) ++ [n]) = _
  rw [this,rowL]
  simp
theorem bs_grp (n : Nat) : Hex.grp n = bs (g1 n):=eq_bs _
theorem refRow_loop {G : List Nat} (h8 : G.length = 8) (hlt : ∀ n ∈ G,n < 65536) (f t : Nat) (ht : t ≤ 8) : ∀ (k i : Nat),i + k = t → f ≤ i → crawlwayref09_row.l0 (gv G) (f : Int) (t : Int) (bs (rowL ((G.take i).drop f))) (i : Int) = some (bs (rowL ((G.take t).drop f))):=by
 intro k
 induction k with
 | zero =>
  intro i hi hf
  obtain rfl : i = t:=by omega
  rw [crawlwayref09_row.l0.eq_def,if_neg (by rw [decide_eq_true_eq]; omega)]
 | succ k ih =>
  intro i hi hf
  obtain ⟨n,hn⟩ : ∃ n,G[i]? = some n:=⟨_,List.getElem?_eq_getElem (by omega)⟩
  have hn6:=hlt n (List.mem_of_getElem? hn)
  have hgl:=g1_len n hn6
  have w1 : wr .i64 ((i : Int) + 1) = ((i + 1 : Nat) : Int):=by rw [wr_i64 (by omega) (by omega)]; omega
  have h3:=ih (i + 1) (by omega) (by omega)
  rw [List.take_add_one,hn,List.drop_append_of_le_length (by rw [List.length_take]; omega)] at h3
  have h3':=h3
  rw [show (some n).toList = [n] from rfl,rowL_snoc] at h3
  have hsz:=rowL_len ((G.take i).drop f) fun x hx=>hlt x (List.mem_of_mem_take (List.mem_of_mem_drop hx))
  have hll : ((G.take i).drop f).length = i - f:=by rw [List.length_drop,List.length_take]; omega
  rw [hll] at hsz
  have h58 : (⟨#[58]⟩ : ByteArray) = bs [58]:=rfl
  rw [crawlwayref09_row.l0.eq_def,if_pos (decide_eq_true (by omega)),gv_get h8 i n hn,Hex.refGroup_eq n hn6,bs_grp,w1,h58]
  by_cases hfi : f < i
  ·have hne : ¬ (G.take i).drop f = []:=fun e=>by have:=congrArg List.length e; rw [hll] at this; simp at this; omega
   rw [if_neg hne] at h3
   rw [if_pos (decide_eq_true (by omega)),if_pos (by rw [bs_size,bs_size]; simp only [List.length_cons,List.length_nil]; omega),if_pos (by omega),bindM_some,bs_app,if_pos (by rw [bs_size,bs_size,List.length_append]; simp only [List.length_cons,List.length_nil]; omega),bs_app,List.append_assoc]
   exact h3
  ·have he : (G.take i).drop f = []:=List.eq_nil_of_length_eq_zero (by rw [hll]; omega)
   rw [if_pos he] at h3
   rw [if_neg (by rw [decide_eq_true_eq]; omega),if_pos (by omega),bindM_some,if_pos (by rw [bs_size,bs_size]; omega),bs_app,he]
   exact h3
theorem refRow_ok {G : List Nat} (h8 : G.length = 8) (hlt : ∀ n ∈ G,n < 65536) (f t : Nat) (hf : f ≤ t) (ht : t ≤ 8) : crawlwayref09_row (gv G) (f : Int) (t : Int) = some (bs (rowL ((G.take t).drop f))):=by
 unfold crawlwayref09_row
 have h:=refRow_loop h8 hlt f t ht (t - f) f (by omega) (Nat.le_refl _)
 have he : (G.take f).drop f = []:=List.drop_eq_nil_of_le (by rw [List.length_take]; omega)
 rw [he] at h
 show (crawlwayref09_row.l0 (gv G) (f : Int) (t : Int) (bs (rowL [])) (f : Int) >>= fun q2=>_) = _
 rw [h,bindM_some]
theorem refText_ok {m : List UInt8} (hm : m.length = 16) : crawlwayref09_Text (v16 m) = some (bs (textL (gr m))):=by
 have hg : (gr m).length = 8:=by rw [gr_len,hm]
 have hlt:=gr_lt m
 have hf:=lg_fits (z:=zp (gr m)) (by rw [zp_len,hg])
 have hl:=refText_loop hg 8 0 0 0 rfl
 rw [List.drop_zero,show ((0 : Nat) : Int) = 0 from rfl] at hl
 unfold crawlwayref09_Text
 rw [refGroups_ok hm,bindM_some,hl,bindM_some]
 unfold textL
 show (if decide (((lg (zp (gr m))).2 : Int) < 2) = true then _ else crawlwayref09_row (gv (gr m)) 0 ((lg (zp (gr m))).1 : Int) >>= fun t14=>if t14.size + (⟨#[58,58]⟩ : ByteArray).size ≤ 140737488355328 then crawlwayref09_row (gv (gr m)) (wr .i64 (((lg (zp (gr m))).1 : Int) + ((lg (zp (gr m))).2 : Int))) 8 >>= fun t16=>if (t14 ++ (⟨#[58,58]⟩ : ByteArray)).size + t16.size ≤ 140737488355328 then some ((t14 ++ (⟨#[58,58]⟩ : ByteArray)) ++ t16) else none else none) = _
 generalize lg (zp (gr m)) = q at hf
 obtain ⟨p,z⟩:=q
 simp only at hf ⊢
 by_cases h2 : z < 2
 ·have hr:=refRow_ok hg hlt 0 8 (by omega) (by omega)
  rw [show ((0 : Nat) : Int) = 0 from rfl,show ((8 : Nat) : Int) = 8 from rfl,List.take_of_length_le (by omega),List.drop_zero] at hr
  rw [if_pos (decide_eq_true (by omega)),if_pos h2,hr]; rfl
 ·have w : wr .i64 ((p : Int) + (z : Int)) = ((p + z : Nat) : Int):=by rw [wr_i64 (by omega) (by omega)]; omega
  have hA:=rowL_len ((gr m).take p) fun n hn=>hlt n (List.mem_of_mem_take hn)
  have hB:=rowL_len ((gr m).drop (p + z)) fun n hn=>hlt n (List.mem_of_mem_drop hn)
  rw [List.length_take] at hA
  rw [List.length_drop] at hB
  have r1:=refRow_ok hg hlt 0 p (by omega) (by omega)
  rw [show ((0 : Nat) : Int) = 0 from rfl,List.drop_zero] at r1
  have r2:=refRow_ok hg hlt (p + z) 8 (by omega) (by omega)
  rw [show ((8 : Nat) : Int) = 8 from rfl,List.take_of_length_le (by omega)] at r2
  have h58 : (⟨#[58,58]⟩ : ByteArray) = bs [58,58]:=rfl
  rw [if_neg (by rw [decide_eq_true_eq]; omega),r1,bindM_some,h58,if_pos (by rw [bs_size,bs_size]; simp only [List.length_cons,List.length_nil]; omega),w,r2,bindM_some,bs_app,if_pos (by rw [bs_size,bs_size]; simp only [List.length_append,List.length_cons,List.length_nil]; omega),bs_app,if_neg h2]
  rw [List.append_assoc]; rfl
end Go.Proofs.YtkkmmpofdcccmaaGreatDoor.Col
namespace Go.Proofs.YtkkmmpofdcccmaaGreatDoor.AdrT
open E Go.RowKit
open Adr
def z16 : List UInt8:=List.replicate 16 0
def hasC (l : List UInt8) : Bool:=l.any (· == 58)
theorem hasC_iff (l : List UInt8) : hasC l = true ↔ ∃ p r,l = p ++ 58::r ∧ ∀ x ∈ p,x ≠ 58:=by
 constructor
 ·intro h
  rcases split_at 58 l with h2 | h2
  ·unfold hasC at h
   obtain ⟨x,hx,h3⟩:=List.any_eq_true.1 h
   exact absurd (beq_iff_eq.1 h3) (h2 x hx)
  ·exact h2
 ·rintro ⟨p,r,rfl,_⟩
  unfold hasC; simp
theorem hasC_no {l : List UInt8} (h : hasC l = false) : ∀ x ∈ l,x ≠ 58:=fun x hx e=>by
 have:=List.any_eq_false.1 h x hx
 subst e; simp at this
theorem unb_ob (l : List UInt8) : unb (ob l) = l:=by
 unfold unb ob
 rw [List.map_map]
 conv=>rhs; rw [← List.map_id l]
 apply List.map_congr_left
 intro b _
 show UInt8.ofNat (Int.toNat ((b.toNat : Int))) = b
 rw [Int.toNat_natCast,UInt8.ofNat_toNat]
def quadA (l : List UInt8) : S_api_Addr × Int:=if (quadP l).2 = 0 then (mkA 4 (fourL (unb (quadP l).1.toList)),0) else (mkA 0 z16,((quadP l).2 : Int))
def adrP (l : List UInt8) : S_api_Addr × Int:=if hasC l = true then (match Col.parseL l with | some G=>(mkA 6 (Col.un G),0) | none=>(mkA 0 z16,5)) else quadA l
theorem six_eq (m : List UInt8) : addr_Six (Col.v16 m) = some (mkA 6 m):=rfl
theorem four_v4 {m : List UInt8} (hm : m.length = 4) : addr_Four (v4 m) = some (mkA 4 (fourL m)):=four_eq _ _ (v4_toList hm)
theorem quadP_m {l : List UInt8} (h : (quadP l).2 = 0) : ∃ m,m.length = 4 ∧ (quadP l).1 = v4 m ∧ unb (quadP l).1.toList = m ∧ qText m = l:=by
 obtain ⟨m,hm,hq,ht⟩:=quadP_back h
 refine ⟨m,hm,by rw [hq],?_,ht⟩
 rw [hq]
 show unb (v4 m).toList = m
 rw [v4_toList hm,unb_ob]
theorem addr_parse (l : List UInt8) (hl : l.length < 1000000) : addr_Parse (bs l) = some (adrP l):=by
 unfold addr_Parse adrP
 have h58 : ((58 : UInt8).toNat : Int) = 58:=rfl
 cases hc : hasC l with
 | true =>
  obtain ⟨p,r,he,hp⟩:=(hasC_iff l).1 hc
  have hcut : lines_Cut (bs l) 58 = some (bs p,bs r,true):=by
   rw [he,← h58]; exact cut_some p r 58 hp (by rw [he] at hl; simp at hl; omega)
  rw [hcut,bindM_some,if_pos rfl,if_pos rfl,Col.colon_parse l hl,bindM_some]
  unfold Col.parseV
  cases hq : Col.parseL l with
  | none =>
   show (if ((5 : Int) != 0) = true then _ else _) = _
   rw [if_pos (by decide),zero_mkA]; rfl
  | some G =>
   show (if ((0 : Int) != 0) = true then _ else (addr_Six (Col.v16 (Col.un G)) >>= fun t7=>some (t7,0))) = _
   rw [if_neg (by decide),six_eq,bindM_some]
 | false =>
  have hcut:=cut_none l 58 (hasC_no hc)
  rw [h58] at hcut
  rw [hcut,bindM_some,if_neg Bool.false_ne_true,if_neg Bool.false_ne_true,quad_parse l hl,bindM_some]
  unfold quadA
  by_cases h0 : (quadP l).2 = 0
  ·obtain ⟨m,hm,hv,hu,_⟩:=quadP_m h0
   have hb : ((viOf (quadP l)).2 != 0) = false:=by
    show ((((quadP l).2 : Nat) : Int) != 0) = false
    rw [h0]; rfl
   rw [hb,if_neg Bool.false_ne_true,if_pos h0,hu]
   show (addr_Four (quadP l).1 >>= fun t11=>some (t11,0)) = _
   rw [hv,four_v4 hm,bindM_some]
  ·have hb : ((viOf (quadP l)).2 != 0) = true:=by rw [bne_iff_ne]; show (((quadP l).2 : Nat) : Int) ≠ 0; omega
   rw [hb,if_pos rfl,if_neg h0,zero_mkA]; rfl
def ofL (b : List UInt8) : S_api_Addr × Int:=if b.length = 4 then (mkA 4 (fourL b),0) else if b.length = 16 then (mkA 6 b,0) else (mkA 0 z16,5)
def OfLoop (R : List Int → Int → S_api_Addr → Option S_api_Addr) : Prop:=∀ xs i a,R xs i a = if (decide (i < (xs.length : Int))) = true then (if (0 : Int) ≤ i ∧ i < (xs.length : Int) then if (0 : Int) ≤ i ∧ i < 16 then R xs (wr .i64 (i + 1)) ({ a with f_B:=vset a.f_B i (lget xs i) }) else none else none) else (some a)
theorem of_loop {R : List Int → Int → S_api_Addr → Option S_api_Addr} (hR : OfLoop R) (V : Int) (b : List UInt8) (hb : b.length ≤ 16) : ∀ (k i : Nat),i + k = b.length → R (ob b) (i : Int) (mkA V (b.take i ++ List.replicate (16 - i) 0)) = some (mkA V (b ++ List.replicate (16 - b.length) 0)):=by
 intro k
 induction k with
 | zero =>
  intro i hi
  rw [hR,ob_length,if_neg (by rw [decide_eq_true_eq]; omega),List.take_of_length_le (by omega),show i = b.length by omega]
 | succ k ih =>
  intro i hi
  obtain ⟨c,hc⟩ : ∃ c,b[i]? = some c:=⟨_,List.getElem?_eq_getElem (by omega)⟩
  have w : wr .i64 ((i : Int) + 1) = ((i + 1 : Nat) : Int):=by rw [wr_i64 (by omega) (by omega)]; omega
  have hA : (b.take i).length = i:=by rw [List.length_take]; omega
  have hs : (b.take i ++ List.replicate (16 - i) 0).set i c = b.take (i + 1) ++ List.replicate (16 - (i + 1)) 0:=by
   have : 16 - i = (16 - (i + 1)) + 1:=by omega
   rw [this,List.replicate_succ,List.take_add_one,hc]
   have e:=List.set_append_right (s:=b.take i) (t:=0::List.replicate (16 - (i + 1)) 0) i c (by omega)
   rw [e,hA,Nat.sub_self]
   simp
  have hg : lget (ob b) (i : Int) = (c.toNat : Int):=lget_ob b i c hc
  rw [hR,ob_length,if_pos (decide_eq_true (by omega)),if_pos (by omega),if_pos (by omega),w,hg]
  show R (ob b) _ (S_api_Addr.mk V (vset (vb (b.take i ++ List.replicate (16 - i) 0)) (i : Int) (c.toNat : Int))) = _
  rw [vset_vb (by simp; omega),hs]
  exact ih (i + 1) (by omega)
theorem ofl0 : OfLoop crawlwayref10_Of.l0:=fun xs i a=>crawlwayref10_Of.l0.eq_def xs i a
theorem ofl1 : OfLoop crawlwayref10_Of.l1:=fun xs i a=>crawlwayref10_Of.l1.eq_def xs i a
theorem ref_of (b : List UInt8) : crawlwayref10_Of (ob b) = some ((ofL b).1,decide ((ofL b).2 = 0)):=by
 unfold crawlwayref10_Of ofL
 rw [ob_length]
 have z4 : ({ ({ f_V:=(0 : Int),f_B:=(Vector.replicate 16 (0 : Int) : (Vector Int 16)) } : S_api_Addr) with f_V:=4 } : S_api_Addr) = mkA 4 (List.replicate 16 0):=by
  show S_api_Addr.mk _ _ = S_api_Addr.mk _ _
  rw [zero_vb]
 have z6 : ({ { ({ f_V:=(0 : Int),f_B:=(Vector.replicate 16 (0 : Int) : (Vector Int 16)) } : S_api_Addr) with f_V:=4 } with f_V:=6 } : S_api_Addr) = mkA 6 (List.replicate 16 0):=by
  show S_api_Addr.mk _ _ = S_api_Addr.mk _ _
  rw [zero_vb]
 rw [z6,z4,zero_mkA]
 by_cases h4 : b.length = 4
 ·have e4 : ((b.length : Int) != 4) = false:=by rw [h4]; rfl
  have e16 : ((b.length : Int) == 16) = false:=by rw [h4]; rfl
  have:=of_loop ofl1 4 b (by omega) b.length 0 (by omega)
  rw [List.take_zero,List.nil_append,show ((0 : Nat) : Int) = 0 from rfl,show 16 - 0 = 16 from rfl] at this
  rw [e4,if_neg Bool.false_ne_true,e16,if_neg Bool.false_ne_true,bindM_some,this,bindM_some,if_pos h4,h4]; rfl
 ·have e4 : ((b.length : Int) != 4) = true:=by rw [bne_iff_ne]; omega
  rw [e4,if_pos rfl,if_neg h4]
  by_cases h16 : b.length = 16
  ·have n16 : ((b.length : Int) != 16) = false:=by rw [h16]; rfl
   have e16 : ((b.length : Int) == 16) = true:=by rw [h16]; rfl
   have:=of_loop ofl0 6 b (by omega) b.length 0 (by omega)
   rw [List.take_zero,List.nil_append,show ((0 : Nat) : Int) = 0 from rfl,show 16 - 0 = 16 from rfl] at this
   rw [n16,if_neg Bool.false_ne_true,e16,if_pos rfl,bindM_some,this,bindM_some,if_pos h16,h16]
   show some (mkA 6 (b ++ []),true) = _
   rw [List.append_nil]; rfl
  ·have n16 : ((b.length : Int) != 16) = true:=by rw [bne_iff_ne]; omega
   rw [n16,if_pos rfl,if_neg h16]; rfl
theorem parts_many (l : List UInt8) : (1 < (parts 58 l).length) ↔ hasC l = true:=by
 cases hc : hasC l with
 | true =>
  obtain ⟨p,r,rfl,hp⟩:=(hasC_iff l).1 hc
  rw [parts_cons 58 r p hp]
  have:=parts_ne 58 r
  cases hq : parts 58 r with
  | nil=>exact absurd hq this
  | cons _ _=>simp
 | false=>rw [parts_none 58 l (hasC_no hc)]; simp
theorem ref_parse10 (l : List UInt8) (hl : l.length < 100000) : crawlwayref10_Parse (bs l) = some (adrP l):=by
 unfold crawlwayref10_Parse adrP
 have hp:=parts_ref 58 l (by omega)
 rw [show ((58 : UInt8).toNat : Int) = 58 from rfl] at hp
 rw [hp,bindM_some,List.length_map]
 cases hc : hasC l with
 | true =>
  have hm:=(parts_many l).2 hc
  rw [if_pos (decide_eq_true (by omega)),if_pos rfl,Col.ref_parse l hl,bindM_some]
  unfold Col.parseV
  cases hq : Col.parseL l with
  | none =>
   show (if (!false) = true then _ else _) = _
   rw [if_pos (show (!false) = true from rfl),zero_mkA]; rfl
  | some G =>
   show (if (!true) = true then _ else _) = _
   rw [if_neg (by decide)]; rfl
 | false =>
  have hm : ¬ 1 < (parts 58 l).length:=fun h=>by rw [(parts_many l).1 h] at hc; cases hc
  rw [if_neg (by rw [decide_eq_true_eq]; omega),if_neg Bool.false_ne_true,quad_parse_ref l (by omega),bindM_some]
  unfold quadA
  by_cases h0 : (quadP l).2 = 0
  ·obtain ⟨m,hm,hv,hu,_⟩:=quadP_m h0
   have hb : ((viOf (quadP l)).2 != 0) = false:=by
    show ((((quadP l).2 : Nat) : Int) != 0) = false
    rw [h0]; rfl
   rw [hb,if_neg Bool.false_ne_true,if_pos h0,hu]
   show (crawlwayref10_Of [vget (quadP l).1 0,vget (quadP l).1 1,vget (quadP l).1 2,vget (quadP l).1 3] >>= fun t13=>some (t13.1,0)) = _
   rw [hv]
   match m,hm with
   | [a,b,c,d],hm =>
    have e0 : vget (v4 [a,b,c,d]) 0 = (a.toNat : Int):=vget_v4 hm 0 a rfl
    have e1 : vget (v4 [a,b,c,d]) 1 = (b.toNat : Int):=vget_v4 hm 1 b rfl
    have e2 : vget (v4 [a,b,c,d]) 2 = (c.toNat : Int):=vget_v4 hm 2 c rfl
    have e3 : vget (v4 [a,b,c,d]) 3 = (d.toNat : Int):=vget_v4 hm 3 d rfl
    rw [e0,e1,e2,e3]
    show (crawlwayref10_Of (ob [a,b,c,d]) >>= _) = _
    rw [ref_of]; rfl
  ·have hb : ((viOf (quadP l)).2 != 0) = true:=by rw [bne_iff_ne]; show (((quadP l).2 : Nat) : Int) ≠ 0; omega
   rw [hb,if_pos rfl,if_neg h0,zero_mkA]; rfl
def adrT (V : Int) (l : List UInt8) : List UInt8:=if rightL V l = true then (if V = 4 then qText (l.take 4) else Col.textL (Col.gr l)) else []
theorem addr_text {V : Int} {l : List UInt8} (hl : l.length = 16) : addr_Text (mkA V l) = some (bs (adrT V l)):=by
 unfold addr_Text adrT
 rw [right_code hl,bindM_some]
 cases hr : rightL V l with
 | false=>rfl
 | true =>
  have h4l : (l.take 4).length = 4:=by rw [List.length_take]; omega
  rw [if_neg (by decide),if_pos rfl]
  by_cases h4 : V = 4
  ·have e : ((mkA V l).f_V == 4) = true:=by show (V == 4) = true; rw [h4]; rfl
   rw [e,if_pos rfl,if_pos h4]
   show (if 4 ≤ (lsub (vb l).toList 0 4).length then (quad_Text (lvec 4 (lsub (vb l).toList 0 4)) >>= fun t9=>some t9) else none) = _
   have hv : lvec 4 (lsub (vb l).toList 0 4) = v4 (l.take 4):=v4_of (take4 hl)
   rw [if_pos (take4_len hl),hv,quad_text h4l]; rfl
  ·have e : ((mkA V l).f_V == 4) = false:=by rw [beq_eq_false_iff_ne]; exact h4
   rw [e,if_neg Bool.false_ne_true,if_neg h4]
   show (colon_Text (Col.v16 l) >>= fun t10=>some t10) = _
   rw [Col.text_ok hl]; rfl
theorem four_vget {l : List UInt8} (hl : l.length = 16) : vset (vset (vset (vset (Vector.replicate 4 (0 : Int) : (Vector Int 4)) 0 (vget (vb l) 0)) 1 (vget (vb l) 1)) 2 (vget (vb l) 2)) 3 (vget (vb l) 3) = v4 (l.take 4):=by
 have g0:=vget_vb hl 0 (by omega)
 have g1:=vget_vb hl 1 (by omega)
 have g2:=vget_vb hl 2 (by omega)
 have g3:=vget_vb hl 3 (by omega)
 rw [show ((0 : Nat) : Int) = 0 from rfl] at g0
 rw [show ((1 : Nat) : Int) = 1 from rfl] at g1
 rw [show ((2 : Nat) : Int) = 2 from rfl] at g2
 rw [show ((3 : Nat) : Int) = 3 from rfl] at g3
 apply v4_of
 rw [g0,g1,g2,g3]
 obtain ⟨a,b,c,d,r,rfl⟩ : ∃ a b c d r,l = a::b::c::d::r:=by
  obtain ⟨a,l1,rfl⟩:=List.exists_cons_of_length_pos (show 0 < l.length by omega)
  rw [List.length_cons] at hl
  obtain ⟨b,l2,rfl⟩:=List.exists_cons_of_length_pos (show 0 < l1.length by omega)
  rw [List.length_cons] at hl
  obtain ⟨c,l3,rfl⟩:=List.exists_cons_of_length_pos (show 0 < l2.length by omega)
  rw [List.length_cons] at hl
  obtain ⟨d,l4,rfl⟩:=List.exists_cons_of_length_pos (show 0 < l3.length by omega)
  exact ⟨a,b,c,d,l4,rfl⟩
 have e0 : bg (a::b::c::d::r) 0 = a.toNat:=rfl
 have e1 : bg (a::b::c::d::r) 1 = b.toNat:=rfl
 have e2 : bg (a::b::c::d::r) 2 = c.toNat:=rfl
 have e3 : bg (a::b::c::d::r) 3 = d.toNat:=rfl
 have et : (a::b::c::d::r).take 4 = [a,b,c,d]:=rfl
 rw [e0,e1,e2,e3,et]
 simp only [vset_toList]
 rfl
theorem ref_text10 {V : Int} {l : List UInt8} (hl : l.length = 16) : crawlwayref10_Text (mkA V l) = some (bs (adrT V l)):=by
 unfold crawlwayref10_Text adrT
 rw [right_ref hl,bindM_some]
 cases hr : rightL V l with
 | false=>rfl
 | true =>
  have h4l : (l.take 4).length = 4:=by rw [List.length_take]; omega
  rw [if_neg (by decide),if_pos rfl]
  rcases right_cases hr with h6 | ⟨h4,_⟩
  ·subst h6
   rw [if_pos (show ((mkA 6 l).f_V == 6) = true from rfl),if_neg (by decide)]
   show (crawlwayref09_Text (Col.v16 l) >>= fun t5=>some t5) = _
   rw [Col.refText_ok hl]; rfl
  ·subst h4
   have e46 : ((mkA 4 l).f_V == 6) = false:=beq_eq_false_iff_ne.2 (by show (4 : Int) ≠ 6; decide)
   rw [e46,if_neg Bool.false_ne_true,if_pos rfl]
   show (crawlwayref08_Text (vset (vset (vset (vset (Vector.replicate 4 (0 : Int) : (Vector Int 4)) 0 (vget (vb l) 0)) 1 (vget (vb l) 1)) 2 (vget (vb l) 2)) 3 (vget (vb l) 3)) >>= fun t6=>some t6) = _
   rw [four_vget hl,refQuad_loop h4l]; rfl
theorem dec_nocolon (n : Nat) : ∀ x ∈ Lib.decDigits n,x ≠ 58:=fun x hx=>by
 have:=dig_iff.1 (List.all_eq_true.1 (decDigits_dig n) x hx)
 intro e; subst e
 have : (58 : UInt8).toNat = 58:=rfl
 omega
theorem qText_nocolon {m : List UInt8} (hm : m.length = 4) : hasC (qText m) = false:=by
 cases h : hasC (qText m) with
 | false=>rfl
 | true =>
  exfalso
  unfold hasC at h
  obtain ⟨x,hx,h3⟩:=List.any_eq_true.1 h
  have h58:=beq_iff_eq.1 h3
  match m,hm with
  | [a,b,c,d],_ =>
   have hx' : x ∈ Lib.decDigits a.toNat ++ 46::(Lib.decDigits b.toNat ++ 46::(Lib.decDigits c.toNat ++ 46::Lib.decDigits d.toNat)):=hx
   simp only [List.mem_append,List.mem_cons] at hx'
   rcases hx' with h | h | h | h | h | h | h
   ·exact dec_nocolon _ x h h58
   ·subst h; cases h58
   ·exact dec_nocolon _ x h h58
   ·subst h; cases h58
   ·exact dec_nocolon _ x h h58
   ·subst h; cases h58
   ·exact dec_nocolon _ x h h58
theorem hasC_app (p r : List UInt8) : hasC (p ++ 58::r) = true:=by unfold hasC; simp
theorem textL_colon {G : List Nat} (h8 : G.length = 8) : hasC (Col.textL G) = true:=by
 unfold Col.textL
 split
 ·match G,h8 with
  | a::b::r,_=>exact hasC_app _ _
 ·exact hasC_app _ _
theorem parse_text10 {V : Int} {l : List UInt8} (hl : l.length = 16) (hr : rightL V l = true) : adrP (adrT V l) = (mkA V l,0):=by
 unfold adrT adrP
 rw [if_pos hr]
 rcases right_cases hr with h6 | ⟨h4,hlow⟩
 ·subst h6
  have hg : (Col.gr l).length = 8:=by rw [Col.gr_len,hl]
  rw [if_neg (show ¬ (6 : Int) = 4 by decide),textL_colon hg,if_pos rfl,Col.parse_text _ (Col.gr_lt l) hg]
  show (mkA 6 (Col.un (Col.gr l)),(0 : Int)) = _
  rw [Col.un_gr l (by omega)]
 ·subst h4
  have h4l : (l.take 4).length = 4:=by rw [List.length_take]; omega
  rw [if_pos rfl,qText_nocolon h4l,if_neg Bool.false_ne_true]
  unfold quadA
  rw [quadP_text h4l]
  show (if (0 : Nat) = 0 then (mkA 4 (fourL (unb (v4 (l.take 4)).toList)),(0 : Int)) else _) = _
  rw [if_pos rfl,v4_toList h4l,unb_ob,← (low_iff hl).1 hlow]
theorem adrP_right {h : List UInt8} (e : (adrP h).2 = 0) : ∃ V k,(adrP h).1 = mkA V k ∧ k.length = 16 ∧ rightL V k = true:=by
 unfold adrP at e ⊢
 split at e
 ·next hc =>
  rw [if_pos hc]
  cases hq : Col.parseL h with
  | none=>rw [hq] at e; cases e
  | some G =>
   exact ⟨6,Col.un G,rfl,by rw [Col.un_len,(Col.parseL_ok hq).1],rfl⟩
 ·next hc =>
  rw [if_neg hc]
  unfold quadA at e ⊢
  split at e
  ·next h0 =>
   obtain ⟨m,hm,_,hu,_⟩:=quadP_m h0
   rw [if_pos h0,hu]
   have hf:=fourL_len hm
   refine ⟨4,fourL m,rfl,hf,?_⟩
   unfold rightL
   have hlow : low (fourL m) = true:=(low_iff hf).2 (by
    unfold fourL
    rw [List.take_left' hm])
   rw [hlow]; rfl
  ·next h0 =>
   have : ((quadP h).2 : Int) = 0:=e
   omega
theorem adrT_len {V : Int} {l : List UInt8} (hl : l.length = 16) : (adrT V l).length ≤ 42:=by
 unfold adrT
 split
 ·split
  ·have:=qText_len (m:=l.take 4) (by rw [List.length_take]; omega); omega
  ·exact Col.textL_len _ (Col.gr_lt l) (by rw [Col.gr_len,hl])
 ·simp
end Go.Proofs.YtkkmmpofdcccmaaGreatDoor.AdrT
namespace Go.Proofs.YtkkmmpofdcccmaaGreatDoor.Host
open E Go.RowKit
open Adr AdrT
def isB : List UInt8 → Bool
 | x::y::_=>x == 93 && y == 58
 | _=>false
theorem isB_iff (r : List UInt8) : isB r = true ↔ ∃ r2,r = 93::58::r2:=by
 match r with
 | []=>simp [isB]
 | [x]=>simp [isB]
 | x::y::r=>simp [isB]
def cutL : List UInt8 → Option (List UInt8 × List UInt8)
 | []=>none
 | c::r=>if isB (c::r) = true then some ([],r.drop 1) else (cutL r).map fun q=>(c::q.1,q.2)
theorem cutL_eq : ∀ {l a b : List UInt8},cutL l = some (a,b) → l = a ++ 93::58::b
 | [],_,_,h=>by cases h
 | c::r,a,b,h=>by
  unfold cutL at h
  split at h
  ·next hc =>
   obtain ⟨r2,hr⟩:=(isB_iff _).1 hc
   cases h
   rw [hr]
   obtain ⟨_,rfl⟩:=List.cons.inj hr
   rfl
  ·obtain ⟨q,hq,h⟩:=Option.map_eq_some_iff.1 h
   obtain ⟨a',b'⟩:=q
   cases h
   rw [cutL_eq hq]; rfl
theorem pre_isB (l : List UInt8) : List.isPrefixOf [93,58] l = isB l:=by
 match l with
 | []=>rfl
 | [x]=>simp [List.isPrefixOf,isB]
 | x::y::r=>simp only [List.isPrefixOf,isB,Bool.and_true]; rw [BEq.comm (a:=(93 : UInt8)),BEq.comm (a:=(58 : UInt8))]
theorem index_cut : ∀ (l : List UInt8),Lib.index l [93,58] = match cutL l with | some (a,_)=>(a.length : Int) | none=>-1
 | []=>rfl
 | c::r=>by
  unfold Lib.index cutL
  rw [pre_isB]
  by_cases h : isB (c::r) = true
  ·rw [if_pos h,if_pos h]; rfl
  ·rw [if_neg h,if_neg h,index_cut r]
   cases cutL r with
   | none=>rfl
   | some q =>
    obtain ⟨a,b⟩:=q
    have : (((a.length : Nat) : Int) == -1) = false:=by rw [beq_eq_false_iff_ne]; omega
    simp only [Option.map_some,List.length_cons]
    rw [this,if_neg Bool.false_ne_true]
    exact (Int.natCast_succ _).symm
theorem lib_cut (l : List UInt8) : Lib.cut l [93,58] = match cutL l with | some (a,b)=>(a,b,true) | none=>(l,[],false):=by
 unfold Lib.cut
 rw [index_cut]
 cases h : cutL l with
 | none=>rfl
 | some q =>
  obtain ⟨a,b⟩:=q
  have hl:=cutL_eq h
  simp only
  rw [if_pos (by omega),Int.toNat_natCast]
  have e1 : l.take a.length = a:=by rw [hl]; exact List.take_left' rfl
  have e2 : l.drop (a.length + ([93,58] : List UInt8).length) = b:=by
   rw [hl,List.drop_append,List.drop_eq_nil_of_le (by omega)]
   simp only [List.length_cons,List.length_nil,List.nil_append]
   rw [show a.length + (0 + 1 + 1) - a.length = 2 by omega]; rfl
  rw [e1,e2]
theorem scut_eq (l : List UInt8) : scut (bs l) (⟨#[93,58]⟩ : ByteArray) = match cutL l with | some (a,b)=>(bs a,bs b,true) | none=>(bs l,bs [],false):=by
 have h:=lib_cut l
 unfold scut
 rw [bs_list]
 show ((⟨(Lib.cut l [93,58]).1.toArray⟩ : ByteArray),(⟨(Lib.cut l [93,58]).2.1.toArray⟩ : ByteArray),(Lib.cut l [93,58]).2.2) = _
 rw [h]
 cases cutL l with
 | none=>rfl
 | some q=>rfl
theorem index_colon (l : List UInt8) : decide (0 ≤ Lib.indexByte l 58) = hasC l:=by
 cases hc : hasC l with
 | true =>
  obtain ⟨p,r,rfl,hp⟩:=(hasC_iff l).1 hc
  rw [index_at p r 58 hp]
  exact decide_eq_true (by omega)
 | false =>
  have:=cut_none l 58 (hasC_no hc)
  have h1:=Lib.indexByte_ge l 58
  refine decide_eq_false fun h=>?_
  obtain ⟨o,ho⟩:=Int.eq_ofNat_of_zero_le h
  have:=(Lib.indexByte_some ho).1
  exact hasC_no hc 58 (List.mem_of_getElem? this) rfl
def f58 : List UInt8 → Option (List UInt8 × List UInt8)
 | []=>none
 | c::r=>if c = 58 then some ([],r) else (f58 r).map fun q=>(c::q.1,q.2)
theorem f58_at (r : List UInt8) : ∀ (p : List UInt8),(∀ x ∈ p,x ≠ 58) → f58 (p ++ 58::r) = some (p,r)
 | [],_=>by
  show (if (58 : UInt8) = 58 then some ([],r) else _) = _
  rw [if_pos rfl]
 | c::p,h=>by
  show (if c = 58 then _ else (f58 (p ++ 58::r)).map _) = _
  rw [if_neg (h c (List.mem_cons_self ..)),f58_at r p fun x hx=>h x (List.mem_cons_of_mem _ hx)]; rfl
theorem f58_none : ∀ (l : List UInt8),(∀ x ∈ l,x ≠ 58) → f58 l = none
 | [],_=>rfl
 | c::r,h=>by
  unfold f58
  rw [if_neg (h c (List.mem_cons_self ..)),f58_none r fun x hx=>h x (List.mem_cons_of_mem _ hx)]; rfl
def six (l : List UInt8) : Bool:=l.head? == some 91
def halL (l : List UInt8) : Option (List UInt8 × List UInt8):=if six l = true then (cutL (l.drop 1)).bind fun q=>if hasC q.1 = true then some q else none else f58 l
theorem cutPrefix (l : List UInt8) : strings_CutPrefix (bs l) (⟨#[91]⟩ : ByteArray) = some (if six l = true then (bs (l.drop 1),true) else (bs l,false)):=by
 have hp : stringslite_HasPrefix (bs l) (⟨#[91]⟩ : ByteArray) = some (six l):=by
  unfold stringslite_HasPrefix
  cases l with
  | nil=>rw [if_neg (by decide)]; rfl
  | cons x r =>
   have hsz : (bs (x::r)).size = r.length + 1:=bs_size _
   have h1 : ((⟨#[91]⟩ : ByteArray).size : Int) = 1:=rfl
   rw [h1,hsz,if_pos (decide_eq_true (by omega)),if_pos (by omega)]
   refine congrArg some ?_
   show seq ((bs (x::r)).extract 0 1) (bs [91]) = _
   rw [bs_extract]
   by_cases hx : x = 91
   ·subst hx
    exact seq_self _
   ·have hf : six (x::r) = false:=by simp [six,hx]
    rw [hf]
    cases hc : seq (bs ((List.take 1 (x::r)).drop 0)) (bs [91]) with
    | false=>rfl
    | true =>
     have:=bs_inj ((seq_iff _ _).1 hc)
     simp at this
     exact absurd this hx
 unfold strings_CutPrefix stringslite_CutPrefix
 rw [hp,bindM_some]
 cases h : six l with
 | false=>rfl
 | true =>
  have hne : 1 ≤ l.length:=by
   cases l with
   | nil=>cases h
   | cons x r=>simp
  have h1 : ((⟨#[91]⟩ : ByteArray).size : Int) = 1:=rfl
  have hx : (bs l).extract (Int.toNat 1) (Int.toNat ((bs l).size : Int)) = bs (l.drop 1):=by
   rw [Int.toNat_natCast,bs_extract,bs_size,List.take_of_length_le (Nat.le_refl _)]; rfl
  rw [if_neg (by decide),h1,if_pos (by rw [bs_size]; omega),hx]; rfl
theorem halves_ok (l : List UInt8) (hl : l.length < 1000000) : ∃ a b,hostport_halves (bs l) = some (a,b,(halL l).isSome) ∧ ∀ h p,halL l = some (h,p) → a = bs h ∧ b = bs p:=by
 unfold hostport_halves halL
 rw [cutPrefix,bindM_some]
 cases h6 : six l with
 | true =>
  have hd : (l.drop 1).length < 1000000:=by rw [List.length_drop]; omega
  rw [if_pos rfl]
  show ∃ a b,(if true = true then (if (bs (l.drop 1)).size < 4294967281 then if (scut (bs (l.drop 1)) (⟨#[93,58]⟩ : ByteArray)).2.2 = true then some ((scut (bs (l.drop 1)) (⟨#[93,58]⟩ : ByteArray)).1,(scut (bs (l.drop 1)) (⟨#[93,58]⟩ : ByteArray)).2.1,decide (0 ≤ Lib.indexByte (scut (bs (l.drop 1)) (⟨#[93,58]⟩ : ByteArray)).1.data.toList 58)) else some ((scut (bs (l.drop 1)) (⟨#[93,58]⟩ : ByteArray)).1,(scut (bs (l.drop 1)) (⟨#[93,58]⟩ : ByteArray)).2.1,false) else none) else _) = _ ∧ _
  rw [if_pos rfl,if_pos (by rw [bs_size]; omega),scut_eq]
  cases hc : cutL (l.drop 1) with
  | none =>
   exact ⟨_,_,rfl,fun h p e=>by cases e⟩
  | some q =>
   obtain ⟨a,b⟩:=q
   simp only [if_true,bs_list,index_colon,Option.bind_some]
   cases hasC a with
   | true=>exact ⟨_,_,rfl,fun h p e=>by cases e; exact ⟨rfl,rfl⟩⟩
   | false=>exact ⟨_,_,rfl,fun h p e=>by cases e⟩
 | false =>
  have hb : bt (⟨#[58]⟩ : ByteArray) 0 = 58:=rfl
  rw [if_neg Bool.false_ne_true]
  show ∃ a b,(if false = true then _ else (if (0 : Int) ≤ 0 ∧ (0 : Int) < ((⟨#[58]⟩ : ByteArray).size : Int) then lines_Cut (bs l) (bt (⟨#[58]⟩ : ByteArray) 0) >>= fun t6=>some (t6.1,t6.2.1,t6.2.2) else none)) = _ ∧ _
  rw [if_neg Bool.false_ne_true,if_pos (by decide),hb]
  have h58 : ((58 : UInt8).toNat : Int) = 58:=rfl
  rcases split_at 58 l with h2 | ⟨p,r,rfl,h2⟩
  ·have hcut:=cut_none l 58 h2
   rw [h58] at hcut
   rw [hcut,bindM_some,if_neg Bool.false_ne_true,f58_none l h2]
   exact ⟨_,_,rfl,fun h p e=>by cases e⟩
  ·have hcut:=cut_some p r 58 h2 (by simp at hl; omega)
   rw [h58] at hcut
   rw [hcut,bindM_some,if_neg Bool.false_ne_true,f58_at r p h2]
   exact ⟨_,_,rfl,fun h q e=>by cases e; exact ⟨rfl,rfl⟩⟩
def mkE (A : S_api_Addr) (n : Int) : S_api_Endpoint:={ f_A:=A,f_Port:=n }
def zE : S_api_Endpoint:={ f_A:=({ f_V:=(0 : Int),f_B:=(Vector.replicate 16 (0 : Int) : (Vector Int 16)) } : S_api_Addr),f_Port:=(0 : Int) }
def endQ (h p : List UInt8) : S_api_Endpoint × Int:=if (adrP h).2 = 0 then (if (rdU p 65535).2 = 0 then (if (rdU p 65535).1 = 0 then (zE,6) else (mkE (adrP h).1 ((rdU p 65535).1 : Int),0)) else (zE,((rdU p 65535).2 : Int))) else (zE,(adrP h).2)
def endP (l : List UInt8) : S_api_Endpoint × Int:=match halL l with
 | some (h,p)=>endQ h p
 | none=>(zE,5)
theorem tail_ok {P : Option (S_api_Addr × Int)} {R : Option (Int × Int)} (h p : List UInt8) (hP : P = some (adrP h)) (hR : R = some (iiOf (rdU p 65535))) :
  (P >>= fun t4=>if (t4.2 != 0) = true then (some (zE,t4.2)) else (R >>= fun t7=>if (t7.2 != 0) = true then (some (zE,t7.2)) else (if (t7.1 == 0) = true then (some (zE,6)) else (some ({ { zE with f_A:=t4.1 } with f_Port:=wr .i64 t7.1 },0))))) = some (endQ h p):=by
 subst hP hR
 rw [bindM_some]
 unfold endQ
 have hle:=rdU_le p 65535
 by_cases h1 : (adrP h).2 = 0
 ·have e : ((adrP h).2 != 0) = false:=by rw [h1]; rfl
  rw [e,if_neg Bool.false_ne_true,if_pos h1,bindM_some]
  show (if ((((rdU p 65535).2 : Nat) : Int) != 0) = true then _ else (if ((((rdU p 65535).1 : Nat) : Int) == 0) = true then _ else some (S_api_Endpoint.mk (adrP h).1 (wr .i64 (((rdU p 65535).1 : Nat) : Int)),(0 : Int)))) = _
  by_cases h2 : (rdU p 65535).2 = 0
  ·have e2 : ((((rdU p 65535).2 : Nat) : Int) != 0) = false:=by rw [h2]; rfl
   rw [e2,if_neg Bool.false_ne_true,if_pos h2]
   by_cases h3 : (rdU p 65535).1 = 0
   ·rw [h3,if_pos (by rfl),if_pos rfl]
   ·have e3 : ((((rdU p 65535).1 : Nat) : Int) == 0) = false:=by rw [beq_eq_false_iff_ne]; omega
    rw [e3,if_neg Bool.false_ne_true,if_neg h3,wr_i64 (by omega) (by omega)]; rfl
  ·have e2 : ((((rdU p 65535).2 : Nat) : Int) != 0) = true:=by rw [bne_iff_ne]; omega
   rw [e2,if_pos rfl,if_neg h2]; rfl
 ·have e : ((adrP h).2 != 0) = true:=by rw [bne_iff_ne]; exact h1
  rw [e,if_pos rfl,if_neg h1]
theorem halL_len {l h p : List UInt8} (e : halL l = some (h,p)) : h.length ≤ l.length ∧ p.length ≤ l.length:=by
 unfold halL at e
 split at e
 ·obtain ⟨q,hq,e⟩:=Option.bind_eq_some_iff.1 e
  split at e
  ·cases e
   have:=congrArg List.length (cutL_eq hq)
   rw [List.length_drop,List.length_append,List.length_cons,List.length_cons] at this
   omega
  ·cases e
 ·rcases split_at 58 l with h2 | ⟨a,r,rfl,h2⟩
  ·rw [f58_none l h2] at e; cases e
  ·rw [f58_at r a h2] at e
   cases e
   rw [List.length_append,List.length_cons]
   omega
theorem host_parse (l : List UInt8) (hl : l.length < 100000) : hostport_Parse (bs l) = some (endP l):=by
 unfold hostport_Parse endP
 obtain ⟨a,b,hh,hab⟩:=halves_ok l (by omega)
 rw [hh,bindM_some]
 cases hq : halL l with
 | none =>
  show (if (!false) = true then _ else _) = _
  rw [if_pos (show (!false) = true from rfl)]; rfl
 | some q =>
  obtain ⟨h,p⟩:=q
  obtain ⟨rfl,rfl⟩:=hab h p hq
  have hlen:=halL_len hq
  show (if (!true) = true then _ else _) = _
  rw [if_neg (by decide)]
  exact tail_ok h p (addr_parse h (by omega)) (by
   have:=read_code (bs p) 65535 (by rw [bs_size]; omega) (by omega)
   rw [bs_list] at this
   exact this)
theorem u8_93 (x : UInt8) : ((x.toNat : Int) == 93) = (x == 93):=by
 by_cases h : x = 93
 ·subst h; rfl
 ·have h2 : x.toNat ≠ 93:=fun e=>h (UInt8.toNat_inj.1 e)
  have h3 : (x == 93) = false:=by simp [h]
  rw [h3,beq_eq_false_iff_ne]; omega
theorem cut_loop (l : List UInt8) (hl : l.length < 1000000) : ∀ (k i : Nat),l.length - i = k → i ≤ l.length →
  crawlwayref12_cut.l0 (bs l) (i : Int) = some (match cutL (l.drop i) with | some (a,b)=>.ret (bs (l.take i ++ a),bs b,true) | none=>.nx ()):=by
 intro k
 induction k with
 | zero =>
  intro i hk hi
  have w : wr .i64 ((i : Int) + 1) = ((i + 1 : Nat) : Int):=by rw [wr_i64 (by omega) (by omega)]; omega
  rw [crawlwayref12_cut.l0.eq_def,w,bs_size,if_neg (by rw [decide_eq_true_eq]; omega),List.drop_eq_nil_of_le (by omega)]; rfl
 | succ k ih =>
  intro i hk hi
  have w : wr .i64 ((i : Int) + 1) = ((i + 1 : Nat) : Int):=by rw [wr_i64 (by omega) (by omega)]; omega
  have w2 : wr .i64 ((i : Int) + 2) = ((i + 2 : Nat) : Int):=by rw [wr_i64 (by omega) (by omega)]; omega
  obtain ⟨c,hc,hd⟩:=drop_get l i (by omega)
  have hbc : bt (bs l) (i : Int) = (c.toNat : Int):=bt_at (by rw [bs_list]; exact hc)
  have hi1:=ih (i + 1) (by omega) (by omega)
  have htk : l.take (i + 1) = l.take i ++ [c]:=by rw [List.take_add_one,hc]; rfl
  rw [crawlwayref12_cut.l0.eq_def,w,bs_size]
  by_cases h1 : i + 1 < l.length
  ·obtain ⟨d,hdd,hd2⟩:=drop_get l (i + 1) h1
   have hbd : bt (bs l) ((i + 1 : Nat) : Int) = (d.toNat : Int):=bt_at (by rw [bs_list]; exact hdd)
   have hnot : ∀ (hB : isB (c::d::l.drop (i + 1 + 1)) = false),crawlwayref12_cut.l0 (bs l) ((i + 1 : Nat) : Int) = some (match cutL (c::d::l.drop (i + 1 + 1)) with | some (a,b)=>.ret (bs (l.take i ++ a),bs b,true) | none=>.nx ()):=by
    intro hB
    have e : cutL (c::d::l.drop (i + 1 + 1)) = (cutL (d::l.drop (i + 1 + 1))).map fun q=>(c::q.1,q.2):=by
     conv=>lhs; unfold cutL
     rw [hB,if_neg Bool.false_ne_true]
    rw [hi1,e,hd2]
    cases cutL (d::l.drop (i + 1 + 1)) with
    | none=>rfl
    | some q=>obtain ⟨a,b⟩:=q; simp [htk]
   rw [if_pos (decide_eq_true (by omega)),if_pos (by omega),hbc,u8_93,hbd,Col.u8_58,w2,hd,hd2]
   by_cases hc93 : c = 93
   ·subst hc93
    rw [if_pos (by rfl),if_pos (by omega)]
    by_cases hd58 : d = 58
    ·subst hd58
     have x1 : (bs l).extract (Int.toNat 0) (Int.toNat (i : Int)) = bs (l.take i):=by rw [Int.toNat_natCast,bs_extract]; rfl
     have x2 : (bs l).extract (Int.toNat ((i + 2 : Nat) : Int)) (Int.toNat ((l.length : Nat) : Int)) = bs (l.drop (i + 2)):=by
      rw [Int.toNat_natCast,Int.toNat_natCast,bs_extract,List.take_of_length_le (Nat.le_refl _)]
     rw [if_pos (by rfl),if_pos (by omega),if_pos (by omega),x1,x2]
     have e : cutL (93::58::l.drop (i + 1 + 1)) = some ([],l.drop (i + 1 + 1)):=rfl
     rw [e]
     simp
    ·have hf : (d == 58) = false:=by simp [hd58]
     rw [hf,if_neg Bool.false_ne_true]
     exact hnot (by simp [isB,hd58])
   ·have hf : (c == 93) = false:=by simp [hc93]
    rw [hf,if_neg Bool.false_ne_true]
    exact hnot (by simp [isB,hc93])
  ·rw [if_neg (by rw [decide_eq_true_eq]; omega),hd,List.drop_eq_nil_of_le (show l.length ≤ i + 1 by omega)]
   rfl
theorem refcut_ok (l : List UInt8) (hl : l.length < 1000000) : crawlwayref12_cut (bs l) = some (match cutL l with | some (a,b)=>(bs a,bs b,true) | none=>(bs [],bs [],false)):=by
 unfold crawlwayref12_cut
 have h:=cut_loop l hl l.length 0 (by omega) (by omega)
 rw [show ((0 : Nat) : Int) = 0 from rfl,List.drop_zero] at h
 rw [h,bindM_some]
 cases cutL l with
 | none=>rfl
 | some q=>obtain ⟨a,b⟩:=q; simp
theorem parts58 (h : List UInt8) (hl : h.length < 1000000) : crawlwayref06_Parts (bs h) 58 = some ((parts 58 h).map bs):=by
 have:=parts_ref 58 h hl
 rwa [show ((58 : UInt8).toNat : Int) = 58 from rfl] at this
theorem many58 (h : List UInt8) : decide ((((parts 58 h).map bs).length : Int) > 1) = hasC h:=by
 rw [List.length_map]
 cases hc : hasC h with
 | true=>exact decide_eq_true (by have:=(parts_many h).2 hc; omega)
 | false=>exact decide_eq_false fun h2=>by have:=(parts_many h).1 (by omega); rw [this] at hc; cases hc
theorem first_part (p r : List UInt8) (h : ∀ x ∈ p,x ≠ 58) : lget ((parts 58 (p ++ 58::r)).map bs) 0 = bs p:=by
 rw [parts_cons 58 r p h]; rfl
theorem ref_read (p : List UInt8) (hp : p.length < 1000000) : crawlwayref03_Read (bs p) 65535 = some (iiOf (rdU p 65535)):=by
 have:=read_ref (bs p) 65535 (by rw [bs_size]; omega) (by omega)
 rw [bs_list] at this
 exact this
theorem plain_ok (l : List UInt8) (hl : l.length < 100000) (h6 : six l = false) (b : Bool) (hb : b = false) :
  (crawlwayref06_Parts (bs l) 58 >>= fun t18=>if (0 : Int) ≤ 0 ∧ 0 < (t18.length : Int) then if (decide ((t18.length : Int) > 1)) = true then (if (0 : Int) ≤ 0 ∧ 0 < (t18.length : Int) then if (0 : Int) ≤ wr .i64 (((lget t18 0).size : Int) + 1) ∧ wr .i64 (((lget t18 0).size : Int) + 1) ≤ ((bs l).size : Int) ∧ ((bs l).size : Int) ≤ ((bs l).size : Int) then if (!(decide ((t18.length : Int) > 1))) = true then (some (zE,5)) else (crawlwayref06_Parts (lget t18 0) 58 >>= fun t32=>if (decide ((t32.length : Int) > 1) != b) = true then (some (zE,5)) else (crawlwayref10_Parse (lget t18 0) >>= fun t36=>if (t36.2 != 0) = true then (some (zE,t36.2)) else (crawlwayref03_Read ((bs l).extract (Int.toNat (wr .i64 (((lget t18 0).size : Int) + 1))) (Int.toNat ((bs l).size : Int))) 65535 >>= fun t39=>if (t39.2 != 0) = true then (some (zE,t39.2)) else (if (t39.1 == 0) = true then (some (zE,6)) else (some ({ { zE with f_A:=t36.1 } with f_Port:=wr .i64 t39.1 },0)))))) else none else none) else (if (!(decide ((t18.length : Int) > 1))) = true then (some (zE,5)) else (crawlwayref06_Parts (lget t18 0) 58 >>= fun t43=>if (decide ((t43.length : Int) > 1) != b) = true then (some (zE,5)) else (crawlwayref10_Parse (lget t18 0) >>= fun t47=>if (t47.2 != 0) = true then (some (zE,t47.2)) else (crawlwayref03_Read (⟨#[]⟩ : ByteArray) 65535 >>= fun t50=>if (t50.2 != 0) = true then (some (zE,t50.2)) else (if (t50.1 == 0) = true then (some (zE,6)) else (some ({ { zE with f_A:=t47.1 } with f_Port:=wr .i64 t50.1 },0))))))) else none) = some (endP l):=by
 subst hb
 have hne:=parts_ne 58 l
 have h0 : (0 : Int) ≤ 0 ∧ (0 : Int) < (((parts 58 l).map bs).length : Int):=by
  rw [List.length_map]
  cases hq : parts 58 l with
  | nil=>exact absurd hq hne
  | cons _ _=>simp
 unfold endP halL
 rw [h6,if_neg Bool.false_ne_true,parts58 l (by omega),bindM_some,if_pos h0,many58]
 rcases split_at 58 l with h2 | ⟨p,r,rfl,h2⟩
 ·have hc : hasC l = false:=by
   cases h : hasC l with
   | false=>rfl
   | true =>
    obtain ⟨p,r,rfl,_⟩:=(hasC_iff l).1 h
    exact absurd rfl (h2 58 (by simp))
  rw [hc,if_neg Bool.false_ne_true,if_pos (show (!false) = true from rfl),f58_none l h2]
 ·have hc : hasC (p ++ 58::r) = true:=hasC_app p r
  have hpc : hasC p = false:=by
   cases h : hasC p with
   | false=>rfl
   | true =>
    obtain ⟨p',r',rfl,_⟩:=(hasC_iff p).1 h
    exact absurd rfl (h2 58 (by simp))
  have hlen : (p ++ 58::r).length = p.length + (r.length + 1):=by simp
  have w : wr .i64 (((bs p).size : Int) + 1) = ((p.length + 1 : Nat) : Int):=by rw [bs_size,wr_i64 (by omega) (by omega)]; omega
  have x : (bs (p ++ 58::r)).extract (Int.toNat ((p.length + 1 : Nat) : Int)) (Int.toNat ((bs (p ++ 58::r)).size : Int)) = bs r:=by
   rw [Int.toNat_natCast,Int.toNat_natCast,bs_extract,bs_size,List.take_of_length_le (Nat.le_refl _),List.drop_append,List.drop_eq_nil_of_le (by omega),show p.length + 1 - p.length = 1 by omega]; rfl
  rw [hc,if_pos rfl,if_pos h0,first_part p r h2,w,if_pos (by rw [bs_size]; omega),if_neg (show ¬ (!true) = true by decide),parts58 p (by omega),bindM_some,many58,hpc,if_neg (by decide),x,f58_at r p h2]
  exact tail_ok p r (ref_parse10 p (by omega)) (ref_read r (by omega))
theorem ref_parse12 (l : List UInt8) (hl : l.length < 100000) : crawlwayref12_Parse (bs l) = some (endP l):=by
 unfold crawlwayref12_Parse
 cases l with
 | nil =>
  rw [if_neg (by decide)]
  exact plain_ok [] hl rfl false rfl
 | cons x r =>
  have hb : bt (bs (x::r)) 0 = (x.toNat : Int):=bt_at (i:=0) (by rw [bs_list]; rfl)
  have hs : (0 : Int) ≤ 0 ∧ (0 : Int) < ((bs (x::r)).size : Int):=by rw [bs_size,List.length_cons]; omega
  rw [if_pos (decide_eq_true hs.2),if_pos hs,hb]
  by_cases hx : x = 91
  ·subst hx
   have e91 : (((91 : UInt8).toNat : Int) == 91) = true:=rfl
   have hx1 : (bs (91::r)).extract (Int.toNat 1) (Int.toNat ((bs (91::r)).size : Int)) = bs r:=by
    rw [Int.toNat_natCast,bs_extract,bs_size,List.take_of_length_le (Nat.le_refl _)]; rfl
   have h6 : six (91::r) = true:=rfl
   simp only [List.length_cons] at hl
   rw [e91,if_pos rfl,if_pos (by rw [bs_size,List.length_cons]; omega),hx1,refcut_ok r (by omega),bindM_some]
   unfold endP halL
   rw [h6,if_pos rfl]
   show _ = some (match (cutL r).bind fun q=>if hasC q.1 = true then some q else none with | some (h,p)=>endQ h p | none=>(zE,5))
   cases hc : cutL r with
   | none=>rw [if_pos (show (!false) = true from rfl)]; rfl
   | some q =>
    obtain ⟨a,b⟩:=q
    have hlen:=congrArg List.length (cutL_eq hc)
    rw [List.length_append,List.length_cons,List.length_cons] at hlen
    simp only [Option.bind_some]
    rw [if_neg (show ¬ (!true) = true by decide),parts58 a (by omega),bindM_some,many58]
    cases ha : hasC a with
    | false =>
     rw [if_pos (by decide)]
     simp only [Bool.false_eq_true,if_false]; rfl
    | true =>
     rw [if_neg (by decide)]
     simp only [if_true]
     exact tail_ok a b (ref_parse10 a (by omega)) (ref_read b (by omega))
  ·have e91 : ((x.toNat : Int) == 91) = false:=by
    rw [beq_eq_false_iff_ne]
    intro e
    exact hx (UInt8.toNat_inj.1 (by show x.toNat = 91; omega))
   have h6 : six (x::r) = false:=by simp [six,hx]
   rw [e91,if_neg Bool.false_ne_true]
   exact plain_ok (x::r) hl h6 false rfl
end Go.Proofs.YtkkmmpofdcccmaaGreatDoor.Host
namespace Go.Proofs.YtkkmmpofdcccmaaGreatDoor.Host
open E Go.RowKit
open Adr AdrT
theorem exists_mkE (a : S_api_Endpoint) (h : ok_api_Endpoint a) : ∃ V l n,a = mkE (mkA V l) n ∧ l.length = 16 ∧ (Lit.int .i64 n).wf = true:=by
 obtain ⟨V,l,hA,hl,_⟩:=exists_mkA a.f_A h.1
 refine ⟨V,l,a.f_Port,?_,hl,h.2⟩
 cases a with | mk A n =>
 simp only at hA
 subst hA; rfl
def rightE (V : Int) (l : List UInt8) (n : Int) : Bool:=rightL V l && (decide (1 ≤ n) && decide (n ≤ 65535))
theorem right_code12 {V n : Int} {l : List UInt8} (hl : l.length = 16) : hostport_Right (mkE (mkA V l) n) = some (rightE V l n):=by
 unfold hostport_Right rightE
 show (addr_Right (mkA V l) >>= fun t2=>if t2 = true then (if decide (n ≥ 1) = true then some (decide (n ≤ 65535)) else some false) else some false) = _
 rw [right_code hl,bindM_some]
 cases rightL V l with
 | false=>rfl
 | true =>
  rw [if_pos rfl]
  by_cases h : 1 ≤ n
  ·rw [if_pos (decide_eq_true h),decide_eq_true h]; rfl
  ·rw [if_neg (by rw [decide_eq_true_eq]; exact h),decide_eq_false h]; rfl
theorem right_ref12 {V n : Int} {l : List UInt8} (hl : l.length = 16) : crawlwayref12_Right (mkE (mkA V l) n) = some (rightE V l n):=by
 unfold crawlwayref12_Right rightE
 show (crawlwayref10_Right (mkA V l) >>= fun t2=>if t2 = true then (if decide (n ≥ 1) = true then some (decide (n ≤ 65535)) else some false) else some false) = _
 rw [right_ref hl,bindM_some]
 cases rightL V l with
 | false=>rfl
 | true =>
  rw [if_pos rfl]
  by_cases h : 1 ≤ n
  ·rw [if_pos (decide_eq_true h),decide_eq_true h]; rfl
  ·rw [if_neg (by rw [decide_eq_true_eq]; exact h),decide_eq_false h]; rfl
theorem rightE_iff {V n : Int} {l : List UInt8} (h : rightE V l n = true) : rightL V l = true ∧ ∃ k : Nat,n = (k : Int) ∧ 1 ≤ k ∧ k ≤ 65535:=by
 unfold rightE at h
 simp only [Bool.and_eq_true,decide_eq_true_eq] at h
 exact ⟨h.1,n.toNat,by omega,by omega,by omega⟩
def hostL (V : Int) (l : List UInt8) (k : Nat) : List UInt8:=if V = 4 then adrT V l ++ 58::Lib.decDigits k else 91::(adrT V l ++ 93::58::Lib.decDigits k)
theorem dig5 (k : Nat) (h : k ≤ 65535) : (Lib.decDigits k).length ≤ 20:=decDigits_len k (by omega)
theorem bs_app (l k : List UInt8) : bs l ++ bs k = bs (l ++ k):=by apply mk_inj; rw [append_list,bs_list,bs_list,bs_list]
theorem fmtU_bs (k : Nat) : fmtU (k : Int) = bs (Lib.decDigits k):=by apply mk_inj; rw [fmtU_list,bs_list]
theorem hostL_len {V : Int} {l : List UInt8} (hl : l.length = 16) (k : Nat) (hk : k ≤ 65535) : (hostL V l k).length ≤ 70:=by
 have h1:=adrT_len (V:=V) hl
 have h2:=dig5 k hk
 unfold hostL
 split <;> simp only [List.length_append,List.length_cons] <;> omega
theorem text_code12 {V n : Int} {l : List UInt8} (hl : l.length = 16) : hostport_Text (mkE (mkA V l) n) = some (bs (if rightE V l n = true then hostL V l n.toNat else [])):=by
 unfold hostport_Text
 rw [right_code12 hl,bindM_some]
 cases hr : rightE V l n with
 | false=>rw [if_pos (show (!false) = true from rfl)]; rfl
 | true =>
  obtain ⟨hrl,k,rfl,h1,h2⟩:=rightE_iff hr
  have ht:=adrT_len (V:=V) hl
  have hd:=dig5 k h2
  have b91 : (⟨#[91]⟩ : ByteArray) = bs [91]:=rfl
  have b9358 : (⟨#[93,58]⟩ : ByteArray) = bs [93,58]:=rfl
  have b58 : (⟨#[58]⟩ : ByteArray) = bs [58]:=rfl
  rw [if_neg (show ¬ (!true) = true by decide),if_pos rfl,Int.toNat_natCast]
  show (decimal_Text (wr .u64 (k : Int)) >>= fun t4=>addr_Width (mkA V l) >>= fun t5=>if (decide (t5 > 32)) = true then (addr_Text (mkA V l) >>= fun t7=>if (⟨#[91]⟩ : ByteArray).size + t7.size ≤ 140737488355328 then if ((⟨#[91]⟩ : ByteArray) ++ t7).size + (⟨#[93,58]⟩ : ByteArray).size ≤ 140737488355328 then if (((⟨#[91]⟩ : ByteArray) ++ t7) ++ (⟨#[93,58]⟩ : ByteArray)).size + t4.size ≤ 140737488355328 then some ((((⟨#[91]⟩ : ByteArray) ++ t7) ++ (⟨#[93,58]⟩ : ByteArray)) ++ t4) else none else none else none) else (addr_Text (mkA V l) >>= fun t11=>if t11.size + (⟨#[58]⟩ : ByteArray).size ≤ 140737488355328 then if (t11 ++ (⟨#[58]⟩ : ByteArray)).size + t4.size ≤ 140737488355328 then some ((t11 ++ (⟨#[58]⟩ : ByteArray)) ++ t4) else none else none)) = _
  rw [wr_u64 (by omega) (by omega),text_code k (by omega),bindM_some,width_code hl,bindM_some,addr_text hl,bindM_some,bindM_some,fmtU_bs,b91,b9358,b58]
  unfold hostL widthL
  rw [if_pos hrl]
  by_cases h4 : V = 4
  ·rw [if_pos h4,if_pos h4,if_neg (by decide),if_pos (by rw [bs_size,bs_size]; simp only [List.length_cons,List.length_nil]; omega),bs_app,if_pos (by rw [bs_size,bs_size,List.length_append]; simp only [List.length_cons,List.length_nil]; omega),bs_app,List.append_assoc]; rfl
  ·rw [if_neg h4,if_neg h4,if_pos (by decide),if_pos (by rw [bs_size,bs_size]; simp only [List.length_cons,List.length_nil]; omega),bs_app,if_pos (by rw [bs_size,bs_size,List.length_append]; simp only [List.length_cons,List.length_nil]; omega),bs_app,if_pos (by rw [bs_size,bs_size,List.length_append,List.length_append]; simp only [List.length_cons,List.length_nil]; omega),bs_app,List.append_assoc,List.append_assoc]; rfl
theorem text_ref12 {V n : Int} {l : List UInt8} (hl : l.length = 16) : crawlwayref12_Text (mkE (mkA V l) n) = some (bs (if rightE V l n = true then hostL V l n.toNat else [])):=by
 unfold crawlwayref12_Text
 rw [right_ref12 hl,bindM_some]
 cases hr : rightE V l n with
 | false=>rw [if_pos (show (!false) = true from rfl)]; rfl
 | true =>
  obtain ⟨hrl,k,rfl,h1,h2⟩:=rightE_iff hr
  have ht:=adrT_len (V:=V) hl
  have hd:=dig5 k h2
  have b91 : (⟨#[91]⟩ : ByteArray) = bs [91]:=rfl
  have b93 : (⟨#[93]⟩ : ByteArray) = bs [93]:=rfl
  have b58 : (⟨#[58]⟩ : ByteArray) = bs [58]:=rfl
  rw [if_neg (show ¬ (!true) = true by decide),if_pos rfl,Int.toNat_natCast]
  show (crawlwayref03_Text (wr .u64 (k : Int)) >>= fun t4=>if (⟨#[58]⟩ : ByteArray).size + t4.size ≤ 140737488355328 then if (V == 6) = true then (crawlwayref10_Text (mkA V l) >>= fun t7=>if (⟨#[91]⟩ : ByteArray).size + t7.size ≤ 140737488355328 then if ((⟨#[91]⟩ : ByteArray) ++ t7).size + (⟨#[93]⟩ : ByteArray).size ≤ 140737488355328 then if (((⟨#[91]⟩ : ByteArray) ++ t7) ++ (⟨#[93]⟩ : ByteArray)).size + ((⟨#[58]⟩ : ByteArray) ++ t4).size ≤ 140737488355328 then some ((((⟨#[91]⟩ : ByteArray) ++ t7) ++ (⟨#[93]⟩ : ByteArray)) ++ ((⟨#[58]⟩ : ByteArray) ++ t4)) else none else none else none) else (crawlwayref10_Text (mkA V l) >>= fun t11=>if t11.size + ((⟨#[58]⟩ : ByteArray) ++ t4).size ≤ 140737488355328 then some (t11 ++ ((⟨#[58]⟩ : ByteArray) ++ t4)) else none) else none) = _
  rw [wr_u64 (by omega) (by omega),text_ref k (by omega),bindM_some,ref_text10 hl,bindM_some,bindM_some,fmtU_bs,b91,b93,b58,if_pos (by rw [bs_size,bs_size]; simp only [List.length_cons,List.length_nil]; omega),bs_app]
  unfold hostL
  rcases right_cases hrl with h6 | ⟨h4,_⟩
  ·subst h6
   rw [if_pos (show ((6 : Int) == 6) = true from rfl),if_neg (show ¬ (6 : Int) = 4 by decide),if_pos (by rw [bs_size,bs_size]; simp only [List.length_cons,List.length_nil]; omega),bs_app,if_pos (by rw [bs_size,bs_size,List.length_append]; simp only [List.length_cons,List.length_nil]; omega),bs_app,if_pos (by rw [bs_size,bs_size,List.length_append,List.length_append,List.length_append]; simp only [List.length_cons,List.length_nil]; omega),bs_app,List.append_assoc,List.append_assoc]; rfl
  ·subst h4
   rw [if_neg (show ¬ ((4 : Int) == 6) = true by decide),if_pos rfl,if_pos (by rw [bs_app,bs_size,bs_size,List.length_append]; simp only [List.length_cons,List.length_nil]; omega),bs_app,bs_app]; rfl
theorem dg_93 : ∀ n : Fin 16,Hex.dg n.1 ≠ 93:=by decide +kernel
theorem g1_93 (n : Nat) : ∀ x ∈ Col.g1 n,x ≠ 93:=by
 induction n using Nat.strongRecOn with
 | _ n ih =>
  intro x hx
  unfold Col.g1 Hex.grp at hx
  split at hx
  ·next h =>
   simp only [Hex.dig,List.mem_singleton] at hx
   subst hx
   exact dg_93 ⟨n,h⟩
  ·next h =>
   rw [append_list] at hx
   rcases List.mem_append.1 hx with hx | hx
   ·exact ih _ (show n / 16 < n by omega) x hx
   ·simp only [Hex.dig,List.mem_singleton] at hx
    subst hx
    exact dg_93 ⟨n % 16,by omega⟩
theorem rowL_93 : ∀ (G : List Nat),∀ x ∈ Col.rowL G,x ≠ 93
 | [],x,h=>by cases h
 | [n],x,h=>g1_93 n x h
 | n::m::r,x,h=>by
  rcases List.mem_append.1 h with h | h
  ·exact g1_93 n x h
  ·rcases List.mem_cons.1 h with rfl | h
   ·decide
   ·exact rowL_93 (m::r) x h
theorem textL_93 (G : List Nat) : ∀ x ∈ Col.textL G,x ≠ 93:=by
 intro x h
 unfold Col.textL at h
 split at h
 ·exact rowL_93 _ x h
 ·rcases List.mem_append.1 h with h | h
  ·exact rowL_93 _ x h
  ·rcases List.mem_cons.1 h with rfl | h
   ·decide
   ·rcases List.mem_cons.1 h with rfl | h
    ·decide
    ·exact rowL_93 _ x h
theorem cutL_at (r : List UInt8) : ∀ (p : List UInt8),(∀ x ∈ p,x ≠ 93) → cutL (p ++ 93::58::r) = some (p,r)
 | [],_=>rfl
 | c::p,h=>by
  have hc:=h c (List.mem_cons_self ..)
  have hB : isB (c::(p ++ 93::58::r)) = false:=by
   cases hb : isB (c::(p ++ 93::58::r)) with
   | false=>rfl
   | true =>
    obtain ⟨r2,h2⟩:=(isB_iff _).1 hb
    exact absurd (List.cons.inj h2).1 hc
  show cutL (c::(p ++ 93::58::r)) = _
  rw [cutL,hB,if_neg Bool.false_ne_true,cutL_at r p fun x hx=>h x (List.mem_cons_of_mem _ hx)]; rfl
theorem six_qText {m : List UInt8} (hm : m.length = 4) (r : List UInt8) : six (qText m ++ r) = false:=by
 match m,hm with
 | [a,b,c,d],_ =>
  show six ((Lib.decDigits a.toNat ++ 46::(Lib.decDigits b.toNat ++ 46::(Lib.decDigits c.toNat ++ 46::Lib.decDigits d.toNat))) ++ r) = false
  cases hd : Lib.decDigits a.toNat with
  | nil=>exact absurd hd (decDigits_ne _)
  | cons x t =>
   have hx:=dig_iff.1 (List.all_eq_true.1 (decDigits_dig a.toNat) x (by rw [hd]; exact List.mem_cons_self ..))
   show (some x == some 91) = false
   rw [beq_eq_false_iff_ne]
   intro e
   cases e
   have : (91 : UInt8).toNat = 91:=rfl
   omega
theorem endQ_right {V : Int} {l : List UInt8} (hl : l.length = 16) (hr : rightL V l = true) (k : Nat) (h1 : 1 ≤ k) (h2 : k ≤ 65535) : endQ (adrT V l) (Lib.decDigits k) = (mkE (mkA V l) (k : Int),0):=by
 unfold endQ
 rw [parse_text10 hl hr,rdU_text,if_pos h2]
 show (if (0 : Int) = 0 then (if (0 : Nat) = 0 then (if k = 0 then _ else _) else _) else _) = _
 rw [if_pos rfl,if_pos rfl,if_neg (by omega)]
theorem endP_text {V : Int} {l : List UInt8} (hl : l.length = 16) (hr : rightL V l = true) (k : Nat) (h1 : 1 ≤ k) (h2 : k ≤ 65535) : endP (hostL V l k) = (mkE (mkA V l) (k : Int),0):=by
 have hq:=endQ_right hl hr k h1 h2
 unfold endP halL hostL
 rcases right_cases hr with h6 | ⟨h4,_⟩
 ·subst h6
  have hg : (Col.gr l).length = 8:=by rw [Col.gr_len,hl]
  have he : adrT 6 l = Col.textL (Col.gr l):=by unfold adrT; rw [if_pos hr,if_neg (show ¬ (6 : Int) = 4 by decide)]
  rw [he] at hq ⊢
  rw [if_neg (show ¬ (6 : Int) = 4 by decide),if_pos (show six (91::(Col.textL (Col.gr l) ++ 93::58::Lib.decDigits k)) = true from rfl)]
  show (match (cutL (Col.textL (Col.gr l) ++ 93::58::Lib.decDigits k)).bind fun q=>if hasC q.1 = true then some q else none with | some (h,p)=>endQ h p | none=>(zE,5)) = _
  rw [cutL_at _ _ (textL_93 _),Option.bind_some,textL_colon hg,if_pos rfl]
  exact hq
 ·subst h4
  have h4l : (l.take 4).length = 4:=by rw [List.length_take]; omega
  have he : adrT 4 l = qText (l.take 4):=by unfold adrT; rw [if_pos hr,if_pos rfl]
  rw [he] at hq ⊢
  rw [if_pos rfl,six_qText h4l,if_neg Bool.false_ne_true,f58_at _ _ (hasC_no (qText_nocolon h4l))]
  exact hq
theorem endQ_ok {h p : List UInt8} (e : (endQ h p).2 = 0) : ∃ V l k,(endQ h p).1 = mkE (mkA V l) ((k : Nat) : Int) ∧ l.length = 16 ∧ rightL V l = true ∧ 1 ≤ k ∧ k ≤ 65535:=by
 unfold endQ at e ⊢
 split at e
 ·next h1 =>
  rw [if_pos h1]
  split at e
  ·next h2 =>
   rw [if_pos h2]
   split at e
   ·cases e
   ·next h3 =>
    rw [if_neg h3]
    obtain ⟨V,l,hA,hl,hr⟩:=adrP_right h1
    exact ⟨V,l,(rdU p 65535).1,by rw [hA],hl,hr,by omega,rdU_le p 65535⟩
  ·next h2 =>
   have : ((rdU p 65535).2 : Int) = 0:=e
   omega
 ·next h1=>exact absurd e h1
end Go.Proofs.YtkkmmpofdcccmaaGreatDoor.Host
namespace Go.Proofs.YtkkmmpofdcccmaaGreatDoor.HexK
open E Go.RowKit
open Adr AdrT
theorem endP_ok {l : List UInt8} (h0 : (Host.endP l).2 = 0) : ∃ V m k,(Host.endP l).1 = Host.mkE (mkA V m) ((k : Nat) : Int) ∧ m.length = 16 ∧ rightL V m = true ∧ 1 ≤ k ∧ k ≤ 65535:=by
 unfold Host.endP at h0 ⊢
 cases hq : Host.halL l with
 | none=>rw [hq] at h0; cases h0
 | some q =>
  obtain ⟨h',p⟩:=q
  rw [hq] at h0
  exact Host.endQ_ok h0
theorem rightE_of {V : Int} {m : List UInt8} {k : Nat} (hr : rightL V m = true) (h1 : 1 ≤ k) (h2 : k ≤ 65535) : Host.rightE V m (k : Int) = true:=by
 unfold Host.rightE
 rw [hr,decide_eq_true (show (1 : Int) ≤ (k : Int) by omega),decide_eq_true (show (k : Int) ≤ 65535 by omega)]; rfl
end Go.Proofs.YtkkmmpofdcccmaaGreatDoor.HexK
namespace Go.Proofs.YtkkmmpofdcccmaaGreatDoor
open E Go.RowKit _root_.Go.Proofs.Tryz
def script_Parse (x0 : ByteArray) : Option (S_api_Item × Int) :=
 if (0 : Int) ≤ 0 ∧ 0 < ((⟨#[32]⟩ : ByteArray).size : Int) then lines_Parts x0 (bt (⟨#[32]⟩ : ByteArray) 0) >>= fun t3=>if (0 : Int) ≤ 0 ∧ 0 < (t3.length : Int) then script_kind (lget t3 0) >>= fun t10=>if ((({ ({ f_Kind:=(0 : Int),f_Bytes:=([] : List Int),f_From:=({ f_A:=({ f_V:=(0 : Int),f_B:=(Vector.replicate 16 (0 : Int) : (Vector Int 16)) } : S_api_Addr),f_Port:=(0 : Int) } : S_api_Endpoint),f_Result:=([] : List Int),f_Ok:=false,f_Key:=(Vector.replicate 32 (0 : Int) : (Vector Int 32)),f_Local:=(0 : Int),f_Remote:=(0 : Int),f_Next:=(0 : Int) } : S_api_Item) with f_Kind:=t10 }).f_Kind) == 1) = true then (if (wr .i64 ((t3.length : Int) - 1) != 1) = true then (some (({ f_Kind:=(0 : Int),f_Bytes:=([] : List Int),f_From:=({ f_A:=({ f_V:=(0 : Int),f_B:=(Vector.replicate 16 (0 : Int) : (Vector Int 16)) } : S_api_Addr),f_Port:=(0 : Int) } : S_api_Endpoint),f_Result:=([] : List Int),f_Ok:=false,f_Key:=(Vector.replicate 32 (0 : Int) : (Vector Int 32)),f_Local:=(0 : Int),f_Remote:=(0 : Int),f_Next:=(0 : Int) } : S_api_Item),5)) else (if (0 : Int) ≤ wr .i64 (0 + 1) ∧ wr .i64 (0 + 1) < (t3.length : Int) then script_unword (lget t3 (wr .i64 (0 + 1))) >>= fun t23=>if (t23.2 != 0) = true then (some (({ f_Kind:=(0 : Int),f_Bytes:=([] : List Int),f_From:=({ f_A:=({ f_V:=(0 : Int),f_B:=(Vector.replicate 16 (0 : Int) : (Vector Int 16)) } : S_api_Addr),f_Port:=(0 : Int) } : S_api_Endpoint),f_Result:=([] : List Int),f_Ok:=false,f_Key:=(Vector.replicate 32 (0 : Int) : (Vector Int 32)),f_Local:=(0 : Int),f_Remote:=(0 : Int),f_Next:=(0 : Int) } : S_api_Item),t23.2)) else (some ({ { ({ f_Kind:=(0 : Int),f_Bytes:=([] : List Int),f_From:=({ f_A:=({ f_V:=(0 : Int),f_B:=(Vector.replicate 16 (0 : Int) : (Vector Int 16)) } : S_api_Addr),f_Port:=(0 : Int) } : S_api_Endpoint),f_Result:=([] : List Int),f_Ok:=false,f_Key:=(Vector.replicate 32 (0 : Int) : (Vector Int 32)),f_Local:=(0 : Int),f_Remote:=(0 : Int),f_Next:=(0 : Int) } : S_api_Item) with f_Kind:=t10 } with f_Bytes:=t23.1 },0)) else none)) else (if ((({ ({ f_Kind:=(0 : Int),f_Bytes:=([] : List Int),f_From:=({ f_A:=({ f_V:=(0 : Int),f_B:=(Vector.replicate 16 (0 : Int) : (Vector Int 16)) } : S_api_Addr),f_Port:=(0 : Int) } : S_api_Endpoint),f_Result:=([] : List Int),f_Ok:=false,f_Key:=(Vector.replicate 32 (0 : Int) : (Vector Int 32)),f_Local:=(0 : Int),f_Remote:=(0 : Int),f_Next:=(0 : Int) } : S_api_Item) with f_Kind:=t10 }).f_Kind) == 2) = true then (if (wr .i64 ((t3.length : Int) - 1) != 1) = true then (some (({ f_Kind:=(0 : Int),f_Bytes:=([] : List Int),f_From:=({ f_A:=({ f_V:=(0 : Int),f_B:=(Vector.replicate 16 (0 : Int) : (Vector Int 16)) } : S_api_Addr),f_Port:=(0 : Int) } : S_api_Endpoint),f_Result:=([] : List Int),f_Ok:=false,f_Key:=(Vector.replicate 32 (0 : Int) : (Vector Int 32)),f_Local:=(0 : Int),f_Remote:=(0 : Int),f_Next:=(0 : Int) } : S_api_Item),5)) else (if (0 : Int) ≤ wr .i64 (0 + 1) ∧ wr .i64 (0 + 1) < (t3.length : Int) then script_unword (lget t3 (wr .i64 (0 + 1))) >>= fun t42=>if (t42.2 != 0) = true then (some (({ f_Kind:=(0 : Int),f_Bytes:=([] : List Int),f_From:=({ f_A:=({ f_V:=(0 : Int),f_B:=(Vector.replicate 16 (0 : Int) : (Vector Int 16)) } : S_api_Addr),f_Port:=(0 : Int) } : S_api_Endpoint),f_Result:=([] : List Int),f_Ok:=false,f_Key:=(Vector.replicate 32 (0 : Int) : (Vector Int 32)),f_Local:=(0 : Int),f_Remote:=(0 : Int),f_Next:=(0 : Int) } : S_api_Item),t42.2)) else (some ({ { ({ f_Kind:=(0 : Int),f_Bytes:=([] : List Int),f_From:=({ f_A:=({ f_V:=(0 : Int),f_B:=(Vector.replicate 16 (0 : Int) : (Vector Int 16)) } : S_api_Addr),f_Port:=(0 : Int) } : S_api_Endpoint),f_Result:=([] : List Int),f_Ok:=false,f_Key:=(Vector.replicate 32 (0 : Int) : (Vector Int 32)),f_Local:=(0 : Int),f_Remote:=(0 : Int),f_Next:=(0 : Int) } : S_api_Item) with f_Kind:=t10 } with f_Bytes:=t42.1 },0)) else none)) else (if ((({ ({ f_Kind:=(0 : Int),f_Bytes:=([] : List Int),f_From:=({ f_A:=({ f_V:=(0 : Int),f_B:=(Vector.replicate 16 (0 : Int) : (Vector Int 16)) } : S_api_Addr),f_Port:=(0 : Int) } : S_api_Endpoint),f_Result:=([] : List Int),f_Ok:=false,f_Key:=(Vector.replicate 32 (0 : Int) : (Vector Int 32)),f_Local:=(0 : Int),f_Remote:=(0 : Int),f_Next:=(0 : Int) } : S_api_Item) with f_Kind:=t10 }).f_Kind) == 3) = true then (if (wr .i64 ((t3.length : Int) - 1) != 2) = true then (some (({ f_Kind:=(0 : Int),f_Bytes:=([] : List Int),f_From:=({ f_A:=({ f_V:=(0 : Int),f_B:=(Vector.replicate 16 (0 : Int) : (Vector Int 16)) } : S_api_Addr),f_Port:=(0 : Int) } : S_api_Endpoint),f_Result:=([] : List Int),f_Ok:=false,f_Key:=(Vector.replicate 32 (0 : Int) : (Vector Int 32)),f_Local:=(0 : Int),f_Remote:=(0 : Int),f_Next:=(0 : Int) } : S_api_Item),5)) else (if (0 : Int) ≤ wr .i64 (0 + 1) ∧ wr .i64 (0 + 1) < (t3.length : Int) then script_unword (lget t3 (wr .i64 (0 + 1))) >>= fun t61=>if (t61.2 != 0) = true then (some (({ f_Kind:=(0 : Int),f_Bytes:=([] : List Int),f_From:=({ f_A:=({ f_V:=(0 : Int),f_B:=(Vector.replicate 16 (0 : Int) : (Vector Int 16)) } : S_api_Addr),f_Port:=(0 : Int) } : S_api_Endpoint),f_Result:=([] : List Int),f_Ok:=false,f_Key:=(Vector.replicate 32 (0 : Int) : (Vector Int 32)),f_Local:=(0 : Int),f_Remote:=(0 : Int),f_Next:=(0 : Int) } : S_api_Item),t61.2)) else (if (0 : Int) ≤ wr .i64 (1 + 1) ∧ wr .i64 (1 + 1) < (t3.length : Int) then if (seq (lget t3 (wr .i64 (1 + 1))) (⟨#[33]⟩ : ByteArray)) = true then (some ({ { ({ f_Kind:=(0 : Int),f_Bytes:=([] : List Int),f_From:=({ f_A:=({ f_V:=(0 : Int),f_B:=(Vector.replicate 16 (0 : Int) : (Vector Int 16)) } : S_api_Addr),f_Port:=(0 : Int) } : S_api_Endpoint),f_Result:=([] : List Int),f_Ok:=false,f_Key:=(Vector.replicate 32 (0 : Int) : (Vector Int 32)),f_Local:=(0 : Int),f_Remote:=(0 : Int),f_Next:=(0 : Int) } : S_api_Item) with f_Kind:=t10 } with f_Bytes:=t61.1 },0)) else (script_unword (lget t3 (wr .i64 (1 + 1))) >>= fun t76=>if (t76.2 != 0) = true then (some (({ f_Kind:=(0 : Int),f_Bytes:=([] : List Int),f_From:=({ f_A:=({ f_V:=(0 : Int),f_B:=(Vector.replicate 16 (0 : Int) : (Vector Int 16)) } : S_api_Addr),f_Port:=(0 : Int) } : S_api_Endpoint),f_Result:=([] : List Int),f_Ok:=false,f_Key:=(Vector.replicate 32 (0 : Int) : (Vector Int 32)),f_Local:=(0 : Int),f_Remote:=(0 : Int),f_Next:=(0 : Int) } : S_api_Item),t76.2)) else (some ({ { { { ({ f_Kind:=(0 : Int),f_Bytes:=([] : List Int),f_From:=({ f_A:=({ f_V:=(0 : Int),f_B:=(Vector.replicate 16 (0 : Int) : (Vector Int 16)) } : S_api_Addr),f_Port:=(0 : Int) } : S_api_Endpoint),f_Result:=([] : List Int),f_Ok:=false,f_Key:=(Vector.replicate 32 (0 : Int) : (Vector Int 32)),f_Local:=(0 : Int),f_Remote:=(0 : Int),f_Next:=(0 : Int) } : S_api_Item) with f_Kind:=t10 } with f_Bytes:=t61.1 } with f_Ok:=true } with f_Result:=t76.1 },0))) else none) else none)) else (if ((({ ({ f_Kind:=(0 : Int),f_Bytes:=([] : List Int),f_From:=({ f_A:=({ f_V:=(0 : Int),f_B:=(Vector.replicate 16 (0 : Int) : (Vector Int 16)) } : S_api_Addr),f_Port:=(0 : Int) } : S_api_Endpoint),f_Result:=([] : List Int),f_Ok:=false,f_Key:=(Vector.replicate 32 (0 : Int) : (Vector Int 32)),f_Local:=(0 : Int),f_Remote:=(0 : Int),f_Next:=(0 : Int) } : S_api_Item) with f_Kind:=t10 }).f_Kind) == 4) = true then (if (wr .i64 ((t3.length : Int) - 1) != 3) = true then (some (({ f_Kind:=(0 : Int),f_Bytes:=([] : List Int),f_From:=({ f_A:=({ f_V:=(0 : Int),f_B:=(Vector.replicate 16 (0 : Int) : (Vector Int 16)) } : S_api_Addr),f_Port:=(0 : Int) } : S_api_Endpoint),f_Result:=([] : List Int),f_Ok:=false,f_Key:=(Vector.replicate 32 (0 : Int) : (Vector Int 32)),f_Local:=(0 : Int),f_Remote:=(0 : Int),f_Next:=(0 : Int) } : S_api_Item),5)) else (if (0 : Int) ≤ wr .i64 (0 + 1) ∧ wr .i64 (0 + 1) < (t3.length : Int) then hostport_Parse (lget t3 (wr .i64 (0 + 1))) >>= fun t97=>if (t97.2 != 0) = true then (some (({ f_Kind:=(0 : Int),f_Bytes:=([] : List Int),f_From:=({ f_A:=({ f_V:=(0 : Int),f_B:=(Vector.replicate 16 (0 : Int) : (Vector Int 16)) } : S_api_Addr),f_Port:=(0 : Int) } : S_api_Endpoint),f_Result:=([] : List Int),f_Ok:=false,f_Key:=(Vector.replicate 32 (0 : Int) : (Vector Int 32)),f_Local:=(0 : Int),f_Remote:=(0 : Int),f_Next:=(0 : Int) } : S_api_Item),t97.2)) else (if (0 : Int) ≤ wr .i64 (1 + 1) ∧ wr .i64 (1 + 1) < (t3.length : Int) then script_unword (lget t3 (wr .i64 (1 + 1))) >>= fun t106=>if (t106.2 != 0) = true then (some (({ f_Kind:=(0 : Int),f_Bytes:=([] : List Int),f_From:=({ f_A:=({ f_V:=(0 : Int),f_B:=(Vector.replicate 16 (0 : Int) : (Vector Int 16)) } : S_api_Addr),f_Port:=(0 : Int) } : S_api_Endpoint),f_Result:=([] : List Int),f_Ok:=false,f_Key:=(Vector.replicate 32 (0 : Int) : (Vector Int 32)),f_Local:=(0 : Int),f_Remote:=(0 : Int),f_Next:=(0 : Int) } : S_api_Item),t106.2)) else (if (0 : Int) ≤ wr .i64 (2 + 1) ∧ wr .i64 (2 + 1) < (t3.length : Int) then if (seq (lget t3 (wr .i64 (2 + 1))) (⟨#[33]⟩ : ByteArray)) = true then (some ({ { { ({ f_Kind:=(0 : Int),f_Bytes:=([] : List Int),f_From:=({ f_A:=({ f_V:=(0 : Int),f_B:=(Vector.replicate 16 (0 : Int) : (Vector Int 16)) } : S_api_Addr),f_Port:=(0 : Int) } : S_api_Endpoint),f_Result:=([] : List Int),f_Ok:=false,f_Key:=(Vector.replicate 32 (0 : Int) : (Vector Int 32)),f_Local:=(0 : Int),f_Remote:=(0 : Int),f_Next:=(0 : Int) } : S_api_Item) with f_Kind:=t10 } with f_From:=t97.1 } with f_Bytes:=t106.1 },0)) else (script_unword (lget t3 (wr .i64 (2 + 1))) >>= fun t121=>if (t121.2 != 0) = true then (some (({ f_Kind:=(0 : Int),f_Bytes:=([] : List Int),f_From:=({ f_A:=({ f_V:=(0 : Int),f_B:=(Vector.replicate 16 (0 : Int) : (Vector Int 16)) } : S_api_Addr),f_Port:=(0 : Int) } : S_api_Endpoint),f_Result:=([] : List Int),f_Ok:=false,f_Key:=(Vector.replicate 32 (0 : Int) : (Vector Int 32)),f_Local:=(0 : Int),f_Remote:=(0 : Int),f_Next:=(0 : Int) } : S_api_Item),t121.2)) else (some ({ { { { { ({ f_Kind:=(0 : Int),f_Bytes:=([] : List Int),f_From:=({ f_A:=({ f_V:=(0 : Int),f_B:=(Vector.replicate 16 (0 : Int) : (Vector Int 16)) } : S_api_Addr),f_Port:=(0 : Int) } : S_api_Endpoint),f_Result:=([] : List Int),f_Ok:=false,f_Key:=(Vector.replicate 32 (0 : Int) : (Vector Int 32)),f_Local:=(0 : Int),f_Remote:=(0 : Int),f_Next:=(0 : Int) } : S_api_Item) with f_Kind:=t10 } with f_From:=t97.1 } with f_Bytes:=t106.1 } with f_Ok:=true } with f_Result:=t121.1 },0))) else none) else none) else none)) else (if ((({ ({ f_Kind:=(0 : Int),f_Bytes:=([] : List Int),f_From:=({ f_A:=({ f_V:=(0 : Int),f_B:=(Vector.replicate 16 (0 : Int) : (Vector Int 16)) } : S_api_Addr),f_Port:=(0 : Int) } : S_api_Endpoint),f_Result:=([] : List Int),f_Ok:=false,f_Key:=(Vector.replicate 32 (0 : Int) : (Vector Int 32)),f_Local:=(0 : Int),f_Remote:=(0 : Int),f_Next:=(0 : Int) } : S_api_Item) with f_Kind:=t10 }).f_Kind) == 5) = true then (if (wr .i64 ((t3.length : Int) - 1) != 4) = true then (some (({ f_Kind:=(0 : Int),f_Bytes:=([] : List Int),f_From:=({ f_A:=({ f_V:=(0 : Int),f_B:=(Vector.replicate 16 (0 : Int) : (Vector Int 16)) } : S_api_Addr),f_Port:=(0 : Int) } : S_api_Endpoint),f_Result:=([] : List Int),f_Ok:=false,f_Key:=(Vector.replicate 32 (0 : Int) : (Vector Int 32)),f_Local:=(0 : Int),f_Remote:=(0 : Int),f_Next:=(0 : Int) } : S_api_Item),5)) else (if (0 : Int) ≤ wr .i64 (0 + 1) ∧ wr .i64 (0 + 1) < (t3.length : Int) then keys_ParseHex (lget t3 (wr .i64 (0 + 1))) >>= fun t144=>if (t144.2 != 0) = true then (some (({ f_Kind:=(0 : Int),f_Bytes:=([] : List Int),f_From:=({ f_A:=({ f_V:=(0 : Int),f_B:=(Vector.replicate 16 (0 : Int) : (Vector Int 16)) } : S_api_Addr),f_Port:=(0 : Int) } : S_api_Endpoint),f_Result:=([] : List Int),f_Ok:=false,f_Key:=(Vector.replicate 32 (0 : Int) : (Vector Int 32)),f_Local:=(0 : Int),f_Remote:=(0 : Int),f_Next:=(0 : Int) } : S_api_Item),t144.2)) else (if (0 : Int) ≤ wr .i64 (1 + 1) ∧ wr .i64 (1 + 1) < (t3.length : Int) then decimal_Read (lget t3 (wr .i64 (1 + 1))) 4294967295 >>= fun t153=>if (t153.2 != 0) = true then (some (({ f_Kind:=(0 : Int),f_Bytes:=([] : List Int),f_From:=({ f_A:=({ f_V:=(0 : Int),f_B:=(Vector.replicate 16 (0 : Int) : (Vector Int 16)) } : S_api_Addr),f_Port:=(0 : Int) } : S_api_Endpoint),f_Result:=([] : List Int),f_Ok:=false,f_Key:=(Vector.replicate 32 (0 : Int) : (Vector Int 32)),f_Local:=(0 : Int),f_Remote:=(0 : Int),f_Next:=(0 : Int) } : S_api_Item),t153.2)) else (if (0 : Int) ≤ wr .i64 (2 + 1) ∧ wr .i64 (2 + 1) < (t3.length : Int) then decimal_Read (lget t3 (wr .i64 (2 + 1))) 4294967295 >>= fun t162=>if (t162.2 != 0) = true then (some (({ f_Kind:=(0 : Int),f_Bytes:=([] : List Int),f_From:=({ f_A:=({ f_V:=(0 : Int),f_B:=(Vector.replicate 16 (0 : Int) : (Vector Int 16)) } : S_api_Addr),f_Port:=(0 : Int) } : S_api_Endpoint),f_Result:=([] : List Int),f_Ok:=false,f_Key:=(Vector.replicate 32 (0 : Int) : (Vector Int 32)),f_Local:=(0 : Int),f_Remote:=(0 : Int),f_Next:=(0 : Int) } : S_api_Item),t162.2)) else (if (0 : Int) ≤ wr .i64 (3 + 1) ∧ wr .i64 (3 + 1) < (t3.length : Int) then decimal_Read (lget t3 (wr .i64 (3 + 1))) 18446744073709551615 >>= fun t171=>if (t171.2 != 0) = true then (some (({ f_Kind:=(0 : Int),f_Bytes:=([] : List Int),f_From:=({ f_A:=({ f_V:=(0 : Int),f_B:=(Vector.replicate 16 (0 : Int) : (Vector Int 16)) } : S_api_Addr),f_Port:=(0 : Int) } : S_api_Endpoint),f_Result:=([] : List Int),f_Ok:=false,f_Key:=(Vector.replicate 32 (0 : Int) : (Vector Int 32)),f_Local:=(0 : Int),f_Remote:=(0 : Int),f_Next:=(0 : Int) } : S_api_Item),t171.2)) else (some ({ { { { { ({ f_Kind:=(0 : Int),f_Bytes:=([] : List Int),f_From:=({ f_A:=({ f_V:=(0 : Int),f_B:=(Vector.replicate 16 (0 : Int) : (Vector Int 16)) } : S_api_Addr),f_Port:=(0 : Int) } : S_api_Endpoint),f_Result:=([] : List Int),f_Ok:=false,f_Key:=(Vector.replicate 32 (0 : Int) : (Vector Int 32)),f_Local:=(0 : Int),f_Remote:=(0 : Int),f_Next:=(0 : Int) } : S_api_Item) with f_Kind:=t10 } with f_Key:=t144.1 } with f_Local:=wr .u32 t153.1 } with f_Remote:=wr .u32 t162.1 } with f_Next:=t171.1 },0)) else none) else none) else none) else none)) else (if ((({ ({ f_Kind:=(0 : Int),f_Bytes:=([] : List Int),f_From:=({ f_A:=({ f_V:=(0 : Int),f_B:=(Vector.replicate 16 (0 : Int) : (Vector Int 16)) } : S_api_Addr),f_Port:=(0 : Int) } : S_api_Endpoint),f_Result:=([] : List Int),f_Ok:=false,f_Key:=(Vector.replicate 32 (0 : Int) : (Vector Int 32)),f_Local:=(0 : Int),f_Remote:=(0 : Int),f_Next:=(0 : Int) } : S_api_Item) with f_Kind:=t10 }).f_Kind) == 6) = true then (if (wr .i64 ((t3.length : Int) - 1) != 1) = true then (some (({ f_Kind:=(0 : Int),f_Bytes:=([] : List Int),f_From:=({ f_A:=({ f_V:=(0 : Int),f_B:=(Vector.replicate 16 (0 : Int) : (Vector Int 16)) } : S_api_Addr),f_Port:=(0 : Int) } : S_api_Endpoint),f_Result:=([] : List Int),f_Ok:=false,f_Key:=(Vector.replicate 32 (0 : Int) : (Vector Int 32)),f_Local:=(0 : Int),f_Remote:=(0 : Int),f_Next:=(0 : Int) } : S_api_Item),5)) else (if (0 : Int) ≤ wr .i64 (0 + 1) ∧ wr .i64 (0 + 1) < (t3.length : Int) then decimal_Read (lget t3 (wr .i64 (0 + 1))) 4294967295 >>= fun t187=>if (t187.2 != 0) = true then (some (({ f_Kind:=(0 : Int),f_Bytes:=([] : List Int),f_From:=({ f_A:=({ f_V:=(0 : Int),f_B:=(Vector.replicate 16 (0 : Int) : (Vector Int 16)) } : S_api_Addr),f_Port:=(0 : Int) } : S_api_Endpoint),f_Result:=([] : List Int),f_Ok:=false,f_Key:=(Vector.replicate 32 (0 : Int) : (Vector Int 32)),f_Local:=(0 : Int),f_Remote:=(0 : Int),f_Next:=(0 : Int) } : S_api_Item),t187.2)) else (some ({ { ({ f_Kind:=(0 : Int),f_Bytes:=([] : List Int),f_From:=({ f_A:=({ f_V:=(0 : Int),f_B:=(Vector.replicate 16 (0 : Int) : (Vector Int 16)) } : S_api_Addr),f_Port:=(0 : Int) } : S_api_Endpoint),f_Result:=([] : List Int),f_Ok:=false,f_Key:=(Vector.replicate 32 (0 : Int) : (Vector Int 32)),f_Local:=(0 : Int),f_Remote:=(0 : Int),f_Next:=(0 : Int) } : S_api_Item) with f_Kind:=t10 } with f_Local:=wr .u32 t187.1 },0)) else none)) else (some (({ f_Kind:=(0 : Int),f_Bytes:=([] : List Int),f_From:=({ f_A:=({ f_V:=(0 : Int),f_B:=(Vector.replicate 16 (0 : Int) : (Vector Int 16)) } : S_api_Addr),f_Port:=(0 : Int) } : S_api_Endpoint),f_Result:=([] : List Int),f_Ok:=false,f_Key:=(Vector.replicate 32 (0 : Int) : (Vector Int 32)),f_Local:=(0 : Int),f_Remote:=(0 : Int),f_Next:=(0 : Int) } : S_api_Item),12))))))) else none else none
set_option maxHeartbeats 3200000 in
theorem script_Parse_ok {x0 : ByteArray} {r : S_api_Item × Int} (hF : script_Parse x0 = some r) : ∀ {w0 w : World} {G_ : List Ent} {Z_ : List Nat} {s_ : World} (hw_ : Wd w0 (frzE w0 Z_ s_::G_) w) (hg_bytealg_MaxLen : GV_bytealg_MaxLen w0) (hg_strconv_ErrRange : GV_strconv_ErrRange w0) (hg_strconv_ErrSyntax : GV_strconv_ErrSyntax w0) (hg_strconv_uint64pow10 : GV_strconv_uint64pow10 w0),
    Calls Tryz.prog 25 #[.string x0] w (fun e w'=>∃ (Z' : List Nat) (s' : World) (z : G_api_Item),Mono (KZ w0 Z_) s_ (KZ w0 Z') s' ∧ e = .returned (.tuple #[.agg (Cd.cs c_api_Item (z,r.1)).toArray,.int .i64 r.2]) ∧ (NK_api_Item (KZ w0 Z') s' (z,r.1)) ∧ Wd w0 (frzE w0 Z' s'::G_) w'):=by
 intro w0 w G_ Z_ s_   hw_ hg_bytealg_MaxLen hg_strconv_ErrRange hg_strconv_ErrSyntax hg_strconv_uint64pow10
 unfold script_Parse at hF
 refine calls_enter (l:=[.string x0]) func25 rfl rfl rfl ?_
 refine at_enterF hw_ ?_
 clear hw_
 obtain ⟨Z0_,hZ0_⟩ : ∃ Z0_,Z0_ = Z_:=⟨_,rfl⟩
 obtain ⟨s0_,hs0_⟩ : ∃ s0_,s0_ = s_:=⟨_,rfl⟩
 have hM_ : Mono (KZ w0 Z0_) s0_ (KZ w0 Z_) s_:=by rw [hZ0_,hs0_]; exact Mono.refl _ _
 rw [← hZ0_,← hs0_]
 rw [show frzE w0 Z0_ s0_ = frzE w0 Z_ s_ from by rw [hZ0_,hs0_]]
 refine sr ?_
 refine at_alloc (cs:=Cd.cs c_api_Item zv6) zeroValue33 rfl rfl ?_
 intro b1
 refine aa ?_
 refine ns ?_
 refine am ?_
 obtain ⟨h2,hF⟩:=of_guard hF
 refine aw (r_index_str underlying9 rfl rfl h2) ?_
 obtain ⟨t3,ht3,hF⟩:=of_bindM hF
 refine at_callO (c:=cStr) (e:=9) (ys:=t3) (V:=fun p cap=>.slice p t3.length cap) func48 rfl (by kernel_rfl) rfl rfl (fun w hw=>lines_Parts_ok _ _ _ ht3 w) ?_
 intro p4 c5
 refine aa ?_
 refine ns ?_
 refine am ?_
 obtain ⟨h6,hF⟩:=of_guard hF
 refine at_pure (φ:=∃ b o,p4 = some ⟨b,o,none⟩) (fun _ hw=>row_ptr (hw.own .z).row h6) ?_
 rintro ⟨b8,o9,hp7⟩
 refine aw (r_idx underlying38 sizeOf9 rfl rfl h6 hp7) ?_
 refine aw (r_load_cell isAgg9 rfl (fun _ hw=>row_cell0 (W:=fun w1=>w1 = _) (fun w1 h=>by subst h; exact Below.refl _ _) (hw.own .z).row h6 hp7 rfl _ rfl)) ?_
 obtain ⟨t10,ht10,hF⟩:=of_bindM hF
 refine at_callB func49 rfl (by kernel_rfl) rfl rfl (fun w hw=>script_kind_ok _ _ ht10 w (hg_bytealg_MaxLen.on hw.below) (hg_strconv_ErrRange.on hw.below) (hg_strconv_ErrSyntax.on hw.below) (hg_strconv_uint64pow10.on hw.below)) ?_
 refine aw (r_build_struct (zs:=Cd.cs c_api_Item zv6) (cs:=Cd.cs c_api_Item (zv5,{ zv4 with f_Kind:=t10 })) underlying33 zeroValue33 rfl (places_api_Item_33) rfl (fill_step (c:=(cInt .i64)) (z:=t10) rfl (c_api_Item_f_Kind zv5 zv4) rfl rfl)) ?_
 refine at_alloc (cs:=Cd.cs c_api_Item zv6) zeroValue33 rfl rfl ?_
 intro b11
 refine at_store (c:=c_api_Item) (z:=(zv5,{ zv4 with f_Kind:=t10 })) .z (Lens.whole _ _) sizeOf33 rfl rfl rfl ?_
 refine nwx [5,4,2] ?_
 refine fa 0 underlying33 rfl sizeOf3 ?_
 refine aw (r_load_cell isAgg3 rfl (lens_cell0 (c:=(cInt .i64)) (y:=({ zv4 with f_Kind:=t10 }).f_Kind) .z (c_api_Item_f_Kind zv5 ({ zv4 with f_Kind:=t10 })) rfl)) ?_
 rcases oi hF with ⟨h12,hF⟩|⟨h12,hF⟩
 ·skip
  refine script_shapeOf_in0 rfl rfl h12 ?_
  intro b13
  refine am ?_
  refine aw xe ?_
  refine aw xe ?_
  refine at_alloc (cs:=zl20) zeroValue98 rfl rfl ?_
  intro b14
  refine sa 2 ((zl17 b13)) .z rfl rfl sizeOf98 rfl rfl rfl ?_
  refine aa ?_
  refine nwq [7,6,5,4,2] ?_
  refine qs ?_
  refine at_block ?_
  refine sr ?_
  refine am ?_
  refine aw (r_not rfl) ?_
  refine aa ?_
  refine nwq [25,6,5,4,2] ?_
  refine cf rfl ?_
  refine sr ?_
  refine am ?_
  refine aw (r_len_sl underlying38 rfl) ?_
  refine aw (r_isub rfl rfl) ?_
  refine fa 1 underlying98 rfl sizeOf96 ?_
  refine aw (r_load_cell isAgg96 rfl (fun w1 hw=>cells_get (hw.ok (Upd.mem .z)) 1 _ rfl)) ?_
  refine aw (r_len_sl underlying96 rfl) ?_
  refine aw xn ?_
  refine aa ?_
  refine nwq [29,6,5,4,2] ?_
  rcases oi hF with ⟨h15,hF⟩|⟨h15,hF⟩
  ·refine ct h15 ?_
   refine sr ?_
   refine aw (r_build_struct (zs:=Cd.cs c_api_Item zv6) (cs:=Cd.cs c_api_Item zv6) underlying33 zeroValue33 rfl (places_api_Item_33) rfl rfl) ?_
   refine at_store (c:=c_api_Item) (z:=zv6) (.s (.s (.s (.s .z)))) (Lens.whole _ _) sizeOf33 rfl rfl rfl ?_
   refine aa ?_
   refine qn ?_
   refine dz ?_
   refine dz ?_
   refine dz ?_
   refine dz ?_
   refine wq [3,2] ?_
   refine tn ?_
   refine qt ?_
   refine at_blk_ret (at_then_ret ?_)
   have hN16 : NK_api_Item (KZ w0 Z_) s_ zv6:=⟨RowK.nil ..,RowK.nil ..⟩
   obtain rfl:=of_some hF
   exact at_res2 rfl (res_cell (c:=c_api_Item) (y:=zv6) rfl .z (Lens.whole _ _) isAgg33 sizeOf33 (.inl rfl)) (res_tmp rfl) (fun w1 hw=>⟨Z_,s_,zv5,hM_,rfl,hN16,hw.pop⟩)
  refine cf h15 ?_
  refine at_skip ?_
  refine at_blk_normal (at_then_normal ?_)
  refine qs ?_
  refine sr ?_
  refine fa 1 underlying98 rfl sizeOf96 ?_
  refine aw (r_load_cell isAgg96 rfl (fun w1 hw=>cells_get (hw.ok (Upd.mem .z)) 1 _ rfl)) ?_
  refine aw (r_len_sl underlying96 rfl) ?_
  refine am ?_
  refine qn ?_
  refine dz ?_
  refine wq [41,40,39,5,4,2] ?_
  refine tn ?_
  refine at_block ?_
  refine wq [41,40,39,5,4,2] ?_
  refine at_loop ?_
  refine at_round ?_
  refine sr ?_
  refine aw xl ?_
  refine at_fix (g:=42) rfl (show (decide (0 < 1)) = true from by decide) ?_
  refine nwq [42,41,40,39,5,4,2] ?_
  refine qs ?_
  refine ct rfl ?_
  refine sn ?_
  refine qs ?_
  refine at_block ?_
  refine sr ?_
  refine am ?_
  refine aw (r_idx underlying96 sizeOf104 rfl rfl (by decide) rfl) ?_
  refine aw (r_load_agg (l:=zl12) isAgg104 sizeOf104 rfl rfl (fun w1 hw=>cells_mid (pre:=[]) (suf:=[]) (hw.ok (Upd.mem .z)) rfl rfl)) ?_
  refine at_alloc (cs:=zl21) zeroValue104 rfl rfl ?_
  intro b17
  refine aa ?_
  refine sa 3 (zl12) .z rfl rfl sizeOf104 rfl rfl rfl ?_
  refine nt ?_
  refine qs ?_
  refine wq [41,40,39,9,8,5,4,2] ?_
  obtain ⟨h18,hF⟩:=of_guard hF
  refine at_pure (φ:=∃ b o,p4 = some ⟨b,o,none⟩) (fun _ hw=>row_ptr (hw.own (.s (.s (.s .z)))).row h18) ?_
  rintro ⟨b20,o21,hp19⟩
  refine at_invT [.q 46 (fun g22=>.pointer (some ⟨b17,0 + 1,none⟩)) [] 0 0,.q 47 (fun g22=>.func (.func 127) #[] #[]) [0] 0 0,.q 48 (fun g22=>.slice p4 t3.length c5) [] 0 0,.q 49 (fun g22=>.int .i64 0) [] 0 0,.q 50 (fun g22=>.int .i64 (wr .i64 (0 + 1))) [3] 0 0,.q 51 (fun g22=>.pointer (some ⟨b20,o21 + Int.toNat (wr .i64 (0 + 1)) * 1,none⟩)) [2,4] 0 0,.q 52 (fun g22=>.string (lget t3 (wr .i64 (0 + 1)))) [5] 0 0] (fun g22 s=>match s with | _=>(Wd w0 (cellsE b17 zl12 104::cellsE b13 zl12 104::cellsE b11 (Cd.cs c_api_Item (zv5,{ zv4 with f_Kind:=t10 })) 33::rowE cStr 9 p4 c5 t3::cellsE b1 (Cd.cs c_api_Item zv6) 33::frzE w0 Z_ s_::G_))) 0 7 (by kernel_rfl) (by kernel_rfl) (by kernel_rfl) (by kernel_rfl) (by kernel_rfl) (by kernel_rfl) ⟨fun _ _ _=>rfl,fun _ _ _=>rfl,fun _ _ _=>rfl,fun _ _ _=>rfl,fun _ _ _=>rfl,fun _ _ _=>rfl,fun _ _ _=>rfl,trivial⟩ (by kernel_rfl) (fun w_ h=>⟨fun _=>g3 0 none 0 none w_,h.drew⟩) ⟨?_,?_,?_,?_,?_,?_,?_,trivial⟩ ?_
  ·intro Lx g22 s K hl hh k
   show At 60 ((2,_)::(4,_)::(5,_)::(8,_)::(9,_)::(39,_)::(40,_)::(41,_)::Lx) _ _
   refine fa 1 underlying104 rfl sizeOf101 ?_
   exact at_nil k
  ·intro Lx g22 s K hl hh k
   show At 60 ((46,_)::(2,_)::(4,_)::(5,_)::(8,_)::(9,_)::(39,_)::(40,_)::(41,_)::Lx) _ _
   obtain rfl : s = 0:=by omega
   refine aw (r_load_cell isAgg101 rfl (fun w1 hw=>cells_get (hw.ok (Upd.mem .z)) 1 _ rfl)) ?_
   exact at_nil k
  ·intro Lx g22 s K hl hh k
   show At 60 ((2,_)::(4,_)::(5,_)::(8,_)::(9,_)::(39,_)::(40,_)::(41,_)::Lx) _ _
   refine am ?_
   exact at_nil k
  ·intro Lx g22 s K hl hh k
   show At 60 ((2,_)::(4,_)::(5,_)::(8,_)::(9,_)::(39,_)::(40,_)::(41,_)::Lx) _ _
   refine am ?_
   exact at_nil k
  ·intro Lx g22 s K hl hh k
   show At 60 ((49,_)::(2,_)::(4,_)::(5,_)::(8,_)::(9,_)::(39,_)::(40,_)::(41,_)::Lx) _ _
   refine aw xa ?_
   exact at_nil k
  ·intro Lx g22 s K hl hh k
   show At 60 ((48,_)::(50,_)::(2,_)::(4,_)::(5,_)::(8,_)::(9,_)::(39,_)::(40,_)::(41,_)::Lx) _ _
   refine aw (r_idx underlying38 sizeOf9 rfl rfl h18 hp19) ?_
   exact at_nil k
  ·intro Lx g22 s K hl hh k
   show At 60 ((51,_)::(2,_)::(4,_)::(5,_)::(8,_)::(9,_)::(39,_)::(40,_)::(41,_)::Lx) _ _
   obtain rfl : s = 0:=by omega
   refine aw (r_load_cell isAgg9 rfl (fun _ hw=>row_cell0 (W:=fun w1=>w1 = _) (fun w1 h=>by subst h; exact Below.refl _ _) (hw.own (.s (.s (.s .z)))).row h18 hp19 rfl _ rfl)) ?_
   exact at_nil k
  intro g22
  show At 60 [(46,_),(47,_),(48,_),(49,_),(50,_),(51,_),(52,_),(2,_),(4,_),(5,_),(8,_),(9,_),(39,_),(40,_),(41,_)] _ _
  refine at_callee rfl ?_
  refine at_callI func127 rfl (by kernel_rfl) rfl rfl rfl rfl ?_
  refine dz ?_
  refine sr ?_
  refine aa ?_
  refine ns ?_
  refine am ?_
  refine am ?_
  obtain ⟨t23,ht23,hF⟩:=of_bindM hF
  refine at_callO (c:=(cInt .u8)) (e:=5) (ys:=t23.1) (V:=fun p cap=>.tuple #[.slice p t23.1.length cap,.int .i64 t23.2]) func128 rfl (by kernel_rfl) rfl rfl (fun w hw=>script_unword_ok _ _ ht23 w) ?_
  intro p24 c25
  refine am ?_
  refine aw xe ?_
  refine aw xe ?_
  refine aw (r_nilCheck rfl) ?_
  refine fa 1 underlying33 rfl sizeOf22 ?_
  refine at_store (c:=cSv Int) (z:=((p24,c25),t23.1)) (.s (.s .z)) (c_api_Item_f_Bytes_sv zv5 ({ zv4 with f_Kind:=t10 })) sizeOf22 rfl rfl rfl ?_
  refine aa ?_
  refine ns ?_
  refine am ?_
  refine aa ?_
  refine nwq [4] ?_
  refine qt ?_
  refine at_retI1 rfl rfl ?_
  refine aa ?_
  refine ns ?_
  refine am ?_
  refine aw xn ?_
  refine nwq [55,41,40,39,10,5,4,2] ?_
  rcases oi hF with ⟨h26,hF⟩|⟨h26,hF⟩
  ·refine ct h26 ?_
   refine sr ?_
   refine aw (r_build_struct (zs:=Cd.cs c_api_Item zv6) (cs:=Cd.cs c_api_Item zv6) underlying33 zeroValue33 rfl (places_api_Item_33) rfl rfl) ?_
   refine am ?_
   refine at_store (c:=c_api_Item) (z:=zv6) (.s (.s (.s (.s .z)))) (Lens.whole _ _) sizeOf33 rfl rfl rfl ?_
   refine aa ?_
   refine qn ?_
   refine dz ?_
   refine dz ?_
   refine dz ?_
   refine dz ?_
   refine wq [3,2] ?_
   refine tn ?_
   refine qt ?_
   refine at_blk_ret (at_then_ret (at_then_ret (at_blk_ret (at_then_ret ?_))))
   have hN27 : NK_api_Item (KZ w0 Z_) s_ zv6:=⟨RowK.nil ..,RowK.nil ..⟩
   obtain rfl:=of_some hF
   exact at_res2 rfl (res_cell (c:=c_api_Item) (y:=zv6) rfl .z (Lens.whole _ _) isAgg33 sizeOf33 (.inl rfl)) (res_tmp rfl) (fun w1 hw=>⟨Z_,s_,zv5,hM_,rfl,hN27,hw.pop⟩)
  refine cf h26 ?_
  refine at_skip ?_
  refine at_blk_normal (at_then_normal ?_)
  refine qr ?_
  refine aw xa ?_
  refine at_ov (t:=58) rfl (show Value.int .i64 (wr .i64 (0 + 1)) = .int .i64 1 from by rfl) ?_
  refine am ?_
  refine nt ?_
  refine wq [41,40,39,5,4,2] ?_
  refine at_round ?_
  refine sr ?_
  refine aw xl ?_
  refine at_fix (g:=42) rfl (show (decide (1 < 1)) = false from by decide) ?_
  refine nwq [42,41,40,39,5,4,2] ?_
  refine qs ?_
  refine cf rfl ?_
  refine at_exit ?_
  refine at_then_exit (at_then_exit ?_)
  refine at_blk_same ?_
  refine at_drop (H:=_) (.s .z) ?_
  refine at_drop (H:=_) (.s (.s .z)) ?_
  refine tn ?_
  refine sr ?_
  refine aw (r_load_aggc (c:=c_api_Item) (z:=(((p24,c25),zv2),{ { zv4 with f_Kind:=t10 } with f_Bytes:=t23.1 })) isAgg33 sizeOf33 rfl (lens_cell (.s .z) (Lens.whole _ _))) ?_
  refine at_store (c:=c_api_Item) (z:=(((p24,c25),zv2),{ { zv4 with f_Kind:=t10 } with f_Bytes:=t23.1 })) (.s (.s .z)) (Lens.whole _ _) sizeOf33 rfl rfl rfl ?_
  refine aa ?_
  refine qn ?_
  refine at_drop (H:=_) (.s .z) ?_
  refine wq [3,2] ?_
  refine tn ?_
  refine qt ?_
  refine at_freeze (.s .z) ?_
  intro Z_ s_ hm29 hk30
  replace hM_:=Mono.mono hM_ hm29
  have hN28 : NK_api_Item (KZ w0 Z_) s_ (((p24,c25),zv2),{ { zv4 with f_Kind:=t10 } with f_Bytes:=t23.1 }):=⟨hk30,RowK.nil ..⟩
  obtain rfl:=of_some hF
  exact at_res2 rfl (res_cell (c:=c_api_Item) (y:=(((p24,c25),zv2),{ { zv4 with f_Kind:=t10 } with f_Bytes:=t23.1 })) rfl .z (Lens.whole _ _) isAgg33 sizeOf33 (.inl rfl)) (res_tmp rfl) (fun w1 hw=>⟨Z_,s_,((p24,c25),zv2),hM_,rfl,hN28,hw.pop⟩)
 skip
 rcases oi hF with ⟨h31,hF⟩|⟨h31,hF⟩
 ·skip
  refine script_shapeOf_in1 rfl rfl h12 h31 ?_
  intro b32
  refine am ?_
  refine aw xe ?_
  refine aw xe ?_
  refine at_alloc (cs:=zl20) zeroValue98 rfl rfl ?_
  intro b33
  refine sa 2 ((zl16 b32)) .z rfl rfl sizeOf98 rfl rfl rfl ?_
  refine aa ?_
  refine nwq [7,6,5,4,2] ?_
  refine qs ?_
  refine at_block ?_
  refine sr ?_
  refine am ?_
  refine aw (r_not rfl) ?_
  refine aa ?_
  refine nwq [25,6,5,4,2] ?_
  refine cf rfl ?_
  refine sr ?_
  refine am ?_
  refine aw (r_len_sl underlying38 rfl) ?_
  refine aw (r_isub rfl rfl) ?_
  refine fa 1 underlying98 rfl sizeOf96 ?_
  refine aw (r_load_cell isAgg96 rfl (fun w1 hw=>cells_get (hw.ok (Upd.mem .z)) 1 _ rfl)) ?_
  refine aw (r_len_sl underlying96 rfl) ?_
  refine aw xn ?_
  refine aa ?_
  refine nwq [29,6,5,4,2] ?_
  rcases oi hF with ⟨h34,hF⟩|⟨h34,hF⟩
  ·refine ct h34 ?_
   refine sr ?_
   refine aw (r_build_struct (zs:=Cd.cs c_api_Item zv6) (cs:=Cd.cs c_api_Item zv6) underlying33 zeroValue33 rfl (places_api_Item_33) rfl rfl) ?_
   refine at_store (c:=c_api_Item) (z:=zv6) (.s (.s (.s (.s .z)))) (Lens.whole _ _) sizeOf33 rfl rfl rfl ?_
   refine aa ?_
   refine qn ?_
   refine dz ?_
   refine dz ?_
   refine dz ?_
   refine dz ?_
   refine wq [3,2] ?_
   refine tn ?_
   refine qt ?_
   refine at_blk_ret (at_then_ret ?_)
   have hN35 : NK_api_Item (KZ w0 Z_) s_ zv6:=⟨RowK.nil ..,RowK.nil ..⟩
   obtain rfl:=of_some hF
   exact at_res2 rfl (res_cell (c:=c_api_Item) (y:=zv6) rfl .z (Lens.whole _ _) isAgg33 sizeOf33 (.inl rfl)) (res_tmp rfl) (fun w1 hw=>⟨Z_,s_,zv5,hM_,rfl,hN35,hw.pop⟩)
  refine cf h34 ?_
  refine at_skip ?_
  refine at_blk_normal (at_then_normal ?_)
  refine qs ?_
  refine sr ?_
  refine fa 1 underlying98 rfl sizeOf96 ?_
  refine aw (r_load_cell isAgg96 rfl (fun w1 hw=>cells_get (hw.ok (Upd.mem .z)) 1 _ rfl)) ?_
  refine aw (r_len_sl underlying96 rfl) ?_
  refine am ?_
  refine qn ?_
  refine dz ?_
  refine wq [41,40,39,5,4,2] ?_
  refine tn ?_
  refine at_block ?_
  refine wq [41,40,39,5,4,2] ?_
  refine at_loop ?_
  refine at_round ?_
  refine sr ?_
  refine aw xl ?_
  refine at_fix (g:=42) rfl (show (decide (0 < 1)) = true from by decide) ?_
  refine nwq [42,41,40,39,5,4,2] ?_
  refine qs ?_
  refine ct rfl ?_
  refine sn ?_
  refine qs ?_
  refine at_block ?_
  refine sr ?_
  refine am ?_
  refine aw (r_idx underlying96 sizeOf104 rfl rfl (by decide) rfl) ?_
  refine aw (r_load_agg (l:=zl12) isAgg104 sizeOf104 rfl rfl (fun w1 hw=>cells_mid (pre:=[]) (suf:=[]) (hw.ok (Upd.mem .z)) rfl rfl)) ?_
  refine at_alloc (cs:=zl21) zeroValue104 rfl rfl ?_
  intro b36
  refine aa ?_
  refine sa 3 (zl12) .z rfl rfl sizeOf104 rfl rfl rfl ?_
  refine nt ?_
  refine qs ?_
  refine wq [41,40,39,9,8,5,4,2] ?_
  obtain ⟨h37,hF⟩:=of_guard hF
  refine at_pure (φ:=∃ b o,p4 = some ⟨b,o,none⟩) (fun _ hw=>row_ptr (hw.own (.s (.s (.s .z)))).row h37) ?_
  rintro ⟨b39,o40,hp38⟩
  refine at_invT [.q 46 (fun g41=>.pointer (some ⟨b36,0 + 1,none⟩)) [] 0 0,.q 47 (fun g41=>.func (.func 127) #[] #[]) [0] 0 0,.q 48 (fun g41=>.slice p4 t3.length c5) [] 0 0,.q 49 (fun g41=>.int .i64 0) [] 0 0,.q 50 (fun g41=>.int .i64 (wr .i64 (0 + 1))) [3] 0 0,.q 51 (fun g41=>.pointer (some ⟨b39,o40 + Int.toNat (wr .i64 (0 + 1)) * 1,none⟩)) [2,4] 0 0,.q 52 (fun g41=>.string (lget t3 (wr .i64 (0 + 1)))) [5] 0 0] (fun g41 s=>match s with | _=>(Wd w0 (cellsE b36 zl12 104::cellsE b32 zl12 104::cellsE b11 (Cd.cs c_api_Item (zv5,{ zv4 with f_Kind:=t10 })) 33::rowE cStr 9 p4 c5 t3::cellsE b1 (Cd.cs c_api_Item zv6) 33::frzE w0 Z_ s_::G_))) 0 7 (by kernel_rfl) (by kernel_rfl) (by kernel_rfl) (by kernel_rfl) (by kernel_rfl) (by kernel_rfl) ⟨fun _ _ _=>rfl,fun _ _ _=>rfl,fun _ _ _=>rfl,fun _ _ _=>rfl,fun _ _ _=>rfl,fun _ _ _=>rfl,fun _ _ _=>rfl,trivial⟩ (by kernel_rfl) (fun w_ h=>⟨fun _=>g3 0 none 0 none w_,h.drew⟩) ⟨?_,?_,?_,?_,?_,?_,?_,trivial⟩ ?_
  ·intro Lx g41 s K hl hh k
   show At 60 ((2,_)::(4,_)::(5,_)::(8,_)::(9,_)::(39,_)::(40,_)::(41,_)::Lx) _ _
   refine fa 1 underlying104 rfl sizeOf101 ?_
   exact at_nil k
  ·intro Lx g41 s K hl hh k
   show At 60 ((46,_)::(2,_)::(4,_)::(5,_)::(8,_)::(9,_)::(39,_)::(40,_)::(41,_)::Lx) _ _
   obtain rfl : s = 0:=by omega
   refine aw (r_load_cell isAgg101 rfl (fun w1 hw=>cells_get (hw.ok (Upd.mem .z)) 1 _ rfl)) ?_
   exact at_nil k
  ·intro Lx g41 s K hl hh k
   show At 60 ((2,_)::(4,_)::(5,_)::(8,_)::(9,_)::(39,_)::(40,_)::(41,_)::Lx) _ _
   refine am ?_
   exact at_nil k
  ·intro Lx g41 s K hl hh k
   show At 60 ((2,_)::(4,_)::(5,_)::(8,_)::(9,_)::(39,_)::(40,_)::(41,_)::Lx) _ _
   refine am ?_
   exact at_nil k
  ·intro Lx g41 s K hl hh k
   show At 60 ((49,_)::(2,_)::(4,_)::(5,_)::(8,_)::(9,_)::(39,_)::(40,_)::(41,_)::Lx) _ _
   refine aw xa ?_
   exact at_nil k
  ·intro Lx g41 s K hl hh k
   show At 60 ((48,_)::(50,_)::(2,_)::(4,_)::(5,_)::(8,_)::(9,_)::(39,_)::(40,_)::(41,_)::Lx) _ _
   refine aw (r_idx underlying38 sizeOf9 rfl rfl h37 hp38) ?_
   exact at_nil k
  ·intro Lx g41 s K hl hh k
   show At 60 ((51,_)::(2,_)::(4,_)::(5,_)::(8,_)::(9,_)::(39,_)::(40,_)::(41,_)::Lx) _ _
   obtain rfl : s = 0:=by omega
   refine aw (r_load_cell isAgg9 rfl (fun _ hw=>row_cell0 (W:=fun w1=>w1 = _) (fun w1 h=>by subst h; exact Below.refl _ _) (hw.own (.s (.s (.s .z)))).row h37 hp38 rfl _ rfl)) ?_
   exact at_nil k
  intro g41
  show At 60 [(46,_),(47,_),(48,_),(49,_),(50,_),(51,_),(52,_),(2,_),(4,_),(5,_),(8,_),(9,_),(39,_),(40,_),(41,_)] _ _
  refine at_callee rfl ?_
  refine at_callI func127 rfl (by kernel_rfl) rfl rfl rfl rfl ?_
  refine dz ?_
  refine sr ?_
  refine aa ?_
  refine ns ?_
  refine am ?_
  refine am ?_
  obtain ⟨t42,ht42,hF⟩:=of_bindM hF
  refine at_callO (c:=(cInt .u8)) (e:=5) (ys:=t42.1) (V:=fun p cap=>.tuple #[.slice p t42.1.length cap,.int .i64 t42.2]) func128 rfl (by kernel_rfl) rfl rfl (fun w hw=>script_unword_ok _ _ ht42 w) ?_
  intro p43 c44
  refine am ?_
  refine aw xe ?_
  refine aw xe ?_
  refine aw (r_nilCheck rfl) ?_
  refine fa 1 underlying33 rfl sizeOf22 ?_
  refine at_store (c:=cSv Int) (z:=((p43,c44),t42.1)) (.s (.s .z)) (c_api_Item_f_Bytes_sv zv5 ({ zv4 with f_Kind:=t10 })) sizeOf22 rfl rfl rfl ?_
  refine aa ?_
  refine ns ?_
  refine am ?_
  refine aa ?_
  refine nwq [4] ?_
  refine qt ?_
  refine at_retI1 rfl rfl ?_
  refine aa ?_
  refine ns ?_
  refine am ?_
  refine aw xn ?_
  refine nwq [55,41,40,39,10,5,4,2] ?_
  rcases oi hF with ⟨h45,hF⟩|⟨h45,hF⟩
  ·refine ct h45 ?_
   refine sr ?_
   refine aw (r_build_struct (zs:=Cd.cs c_api_Item zv6) (cs:=Cd.cs c_api_Item zv6) underlying33 zeroValue33 rfl (places_api_Item_33) rfl rfl) ?_
   refine am ?_
   refine at_store (c:=c_api_Item) (z:=zv6) (.s (.s (.s (.s .z)))) (Lens.whole _ _) sizeOf33 rfl rfl rfl ?_
   refine aa ?_
   refine qn ?_
   refine dz ?_
   refine dz ?_
   refine dz ?_
   refine dz ?_
   refine wq [3,2] ?_
   refine tn ?_
   refine qt ?_
   refine at_blk_ret (at_then_ret (at_then_ret (at_blk_ret (at_then_ret ?_))))
   have hN46 : NK_api_Item (KZ w0 Z_) s_ zv6:=⟨RowK.nil ..,RowK.nil ..⟩
   obtain rfl:=of_some hF
   exact at_res2 rfl (res_cell (c:=c_api_Item) (y:=zv6) rfl .z (Lens.whole _ _) isAgg33 sizeOf33 (.inl rfl)) (res_tmp rfl) (fun w1 hw=>⟨Z_,s_,zv5,hM_,rfl,hN46,hw.pop⟩)
  refine cf h45 ?_
  refine at_skip ?_
  refine at_blk_normal (at_then_normal ?_)
  refine qr ?_
  refine aw xa ?_
  refine at_ov (t:=58) rfl (show Value.int .i64 (wr .i64 (0 + 1)) = .int .i64 1 from by rfl) ?_
  refine am ?_
  refine nt ?_
  refine wq [41,40,39,5,4,2] ?_
  refine at_round ?_
  refine sr ?_
  refine aw xl ?_
  refine at_fix (g:=42) rfl (show (decide (1 < 1)) = false from by decide) ?_
  refine nwq [42,41,40,39,5,4,2] ?_
  refine qs ?_
  refine cf rfl ?_
  refine at_exit ?_
  refine at_then_exit (at_then_exit ?_)
  refine at_blk_same ?_
  refine at_drop (H:=_) (.s .z) ?_
  refine at_drop (H:=_) (.s (.s .z)) ?_
  refine tn ?_
  refine sr ?_
  refine aw (r_load_aggc (c:=c_api_Item) (z:=(((p43,c44),zv2),{ { zv4 with f_Kind:=t10 } with f_Bytes:=t42.1 })) isAgg33 sizeOf33 rfl (lens_cell (.s .z) (Lens.whole _ _))) ?_
  refine at_store (c:=c_api_Item) (z:=(((p43,c44),zv2),{ { zv4 with f_Kind:=t10 } with f_Bytes:=t42.1 })) (.s (.s .z)) (Lens.whole _ _) sizeOf33 rfl rfl rfl ?_
  refine aa ?_
  refine qn ?_
  refine at_drop (H:=_) (.s .z) ?_
  refine wq [3,2] ?_
  refine tn ?_
  refine qt ?_
  refine at_freeze (.s .z) ?_
  intro Z_ s_ hm48 hk49
  replace hM_:=Mono.mono hM_ hm48
  have hN47 : NK_api_Item (KZ w0 Z_) s_ (((p43,c44),zv2),{ { zv4 with f_Kind:=t10 } with f_Bytes:=t42.1 }):=⟨hk49,RowK.nil ..⟩
  obtain rfl:=of_some hF
  exact at_res2 rfl (res_cell (c:=c_api_Item) (y:=(((p43,c44),zv2),{ { zv4 with f_Kind:=t10 } with f_Bytes:=t42.1 })) rfl .z (Lens.whole _ _) isAgg33 sizeOf33 (.inl rfl)) (res_tmp rfl) (fun w1 hw=>⟨Z_,s_,((p43,c44),zv2),hM_,rfl,hN47,hw.pop⟩)
 skip
 rcases oi hF with ⟨h50,hF⟩|⟨h50,hF⟩
 ·skip
  refine script_shapeOf_in2 rfl rfl h12 h31 h50 ?_
  intro b51
  refine am ?_
  refine aw xe ?_
  refine aw xe ?_
  refine at_alloc (cs:=zl20) zeroValue98 rfl rfl ?_
  intro b52
  refine sa 2 ((zl18 b51)) .z rfl rfl sizeOf98 rfl rfl rfl ?_
  refine aa ?_
  refine nwq [7,6,5,4,2] ?_
  refine qs ?_
  refine at_block ?_
  refine sr ?_
  refine am ?_
  refine aw (r_not rfl) ?_
  refine aa ?_
  refine nwq [25,6,5,4,2] ?_
  refine cf rfl ?_
  refine sr ?_
  refine am ?_
  refine aw (r_len_sl underlying38 rfl) ?_
  refine aw (r_isub rfl rfl) ?_
  refine fa 1 underlying98 rfl sizeOf96 ?_
  refine aw (r_load_cell isAgg96 rfl (fun w1 hw=>cells_get (hw.ok (Upd.mem .z)) 1 _ rfl)) ?_
  refine aw (r_len_sl underlying96 rfl) ?_
  refine aw xn ?_
  refine aa ?_
  refine nwq [29,6,5,4,2] ?_
  rcases oi hF with ⟨h53,hF⟩|⟨h53,hF⟩
  ·refine ct h53 ?_
   refine sr ?_
   refine aw (r_build_struct (zs:=Cd.cs c_api_Item zv6) (cs:=Cd.cs c_api_Item zv6) underlying33 zeroValue33 rfl (places_api_Item_33) rfl rfl) ?_
   refine at_store (c:=c_api_Item) (z:=zv6) (.s (.s (.s (.s .z)))) (Lens.whole _ _) sizeOf33 rfl rfl rfl ?_
   refine aa ?_
   refine qn ?_
   refine dz ?_
   refine dz ?_
   refine dz ?_
   refine dz ?_
   refine wq [3,2] ?_
   refine tn ?_
   refine qt ?_
   refine at_blk_ret (at_then_ret ?_)
   have hN54 : NK_api_Item (KZ w0 Z_) s_ zv6:=⟨RowK.nil ..,RowK.nil ..⟩
   obtain rfl:=of_some hF
   exact at_res2 rfl (res_cell (c:=c_api_Item) (y:=zv6) rfl .z (Lens.whole _ _) isAgg33 sizeOf33 (.inl rfl)) (res_tmp rfl) (fun w1 hw=>⟨Z_,s_,zv5,hM_,rfl,hN54,hw.pop⟩)
  refine cf h53 ?_
  refine at_skip ?_
  refine at_blk_normal (at_then_normal ?_)
  refine qs ?_
  refine sr ?_
  refine fa 1 underlying98 rfl sizeOf96 ?_
  refine aw (r_load_cell isAgg96 rfl (fun w1 hw=>cells_get (hw.ok (Upd.mem .z)) 1 _ rfl)) ?_
  refine aw (r_len_sl underlying96 rfl) ?_
  refine am ?_
  refine qn ?_
  refine dz ?_
  refine wq [41,40,39,5,4,2] ?_
  refine tn ?_
  refine at_block ?_
  refine wq [41,40,39,5,4,2] ?_
  refine at_loop ?_
  refine at_round ?_
  refine sr ?_
  refine aw xl ?_
  refine at_fix (g:=42) rfl (show (decide (0 < 2)) = true from by decide) ?_
  refine nwq [42,41,40,39,5,4,2] ?_
  refine qs ?_
  refine ct rfl ?_
  refine sn ?_
  refine qs ?_
  refine at_block ?_
  refine sr ?_
  refine am ?_
  refine aw (r_idx underlying96 sizeOf104 rfl rfl (by decide) rfl) ?_
  refine aw (r_load_agg (l:=zl12) isAgg104 sizeOf104 rfl rfl (fun w1 hw=>cells_mid (pre:=[]) (suf:=zl13) (hw.ok (Upd.mem .z)) rfl rfl)) ?_
  refine at_alloc (cs:=zl21) zeroValue104 rfl rfl ?_
  intro b55
  refine aa ?_
  refine sa 3 (zl12) .z rfl rfl sizeOf104 rfl rfl rfl ?_
  refine nt ?_
  refine qs ?_
  refine wq [41,40,39,9,8,5,4,2] ?_
  obtain ⟨h56,hF⟩:=of_guard hF
  refine at_pure (φ:=∃ b o,p4 = some ⟨b,o,none⟩) (fun _ hw=>row_ptr (hw.own (.s (.s (.s .z)))).row h56) ?_
  rintro ⟨b58,o59,hp57⟩
  refine at_invT [.q 46 (fun g60=>.pointer (some ⟨b55,0 + 1,none⟩)) [] 0 0,.q 47 (fun g60=>.func (.func 127) #[] #[]) [0] 0 0,.q 48 (fun g60=>.slice p4 t3.length c5) [] 0 0,.q 49 (fun g60=>.int .i64 0) [] 0 0,.q 50 (fun g60=>.int .i64 (wr .i64 (0 + 1))) [3] 0 0,.q 51 (fun g60=>.pointer (some ⟨b58,o59 + Int.toNat (wr .i64 (0 + 1)) * 1,none⟩)) [2,4] 0 0,.q 52 (fun g60=>.string (lget t3 (wr .i64 (0 + 1)))) [5] 0 0] (fun g60 s=>match s with | _=>(Wd w0 (cellsE b55 zl12 104::cellsE b51 zl7 104::cellsE b11 (Cd.cs c_api_Item (zv5,{ zv4 with f_Kind:=t10 })) 33::rowE cStr 9 p4 c5 t3::cellsE b1 (Cd.cs c_api_Item zv6) 33::frzE w0 Z_ s_::G_))) 0 7 (by kernel_rfl) (by kernel_rfl) (by kernel_rfl) (by kernel_rfl) (by kernel_rfl) (by kernel_rfl) ⟨fun _ _ _=>rfl,fun _ _ _=>rfl,fun _ _ _=>rfl,fun _ _ _=>rfl,fun _ _ _=>rfl,fun _ _ _=>rfl,fun _ _ _=>rfl,trivial⟩ (by kernel_rfl) (fun w_ h=>⟨fun _=>g3 0 none 0 none w_,h.drew⟩) ⟨?_,?_,?_,?_,?_,?_,?_,trivial⟩ ?_
  ·intro Lx g60 s K hl hh k
   show At 60 ((2,_)::(4,_)::(5,_)::(8,_)::(9,_)::(39,_)::(40,_)::(41,_)::Lx) _ _
   refine fa 1 underlying104 rfl sizeOf101 ?_
   exact at_nil k
  ·intro Lx g60 s K hl hh k
   show At 60 ((46,_)::(2,_)::(4,_)::(5,_)::(8,_)::(9,_)::(39,_)::(40,_)::(41,_)::Lx) _ _
   obtain rfl : s = 0:=by omega
   refine aw (r_load_cell isAgg101 rfl (fun w1 hw=>cells_get (hw.ok (Upd.mem .z)) 1 _ rfl)) ?_
   exact at_nil k
  ·intro Lx g60 s K hl hh k
   show At 60 ((2,_)::(4,_)::(5,_)::(8,_)::(9,_)::(39,_)::(40,_)::(41,_)::Lx) _ _
   refine am ?_
   exact at_nil k
  ·intro Lx g60 s K hl hh k
   show At 60 ((2,_)::(4,_)::(5,_)::(8,_)::(9,_)::(39,_)::(40,_)::(41,_)::Lx) _ _
   refine am ?_
   exact at_nil k
  ·intro Lx g60 s K hl hh k
   show At 60 ((49,_)::(2,_)::(4,_)::(5,_)::(8,_)::(9,_)::(39,_)::(40,_)::(41,_)::Lx) _ _
   refine aw xa ?_
   exact at_nil k
  ·intro Lx g60 s K hl hh k
   show At 60 ((48,_)::(50,_)::(2,_)::(4,_)::(5,_)::(8,_)::(9,_)::(39,_)::(40,_)::(41,_)::Lx) _ _
   refine aw (r_idx underlying38 sizeOf9 rfl rfl h56 hp57) ?_
   exact at_nil k
  ·intro Lx g60 s K hl hh k
   show At 60 ((51,_)::(2,_)::(4,_)::(5,_)::(8,_)::(9,_)::(39,_)::(40,_)::(41,_)::Lx) _ _
   obtain rfl : s = 0:=by omega
   refine aw (r_load_cell isAgg9 rfl (fun _ hw=>row_cell0 (W:=fun w1=>w1 = _) (fun w1 h=>by subst h; exact Below.refl _ _) (hw.own (.s (.s (.s .z)))).row h56 hp57 rfl _ rfl)) ?_
   exact at_nil k
  intro g60
  show At 60 [(46,_),(47,_),(48,_),(49,_),(50,_),(51,_),(52,_),(2,_),(4,_),(5,_),(8,_),(9,_),(39,_),(40,_),(41,_)] _ _
  refine at_callee rfl ?_
  refine at_callI func127 rfl (by kernel_rfl) rfl rfl rfl rfl ?_
  refine dz ?_
  refine sr ?_
  refine aa ?_
  refine ns ?_
  refine am ?_
  refine am ?_
  obtain ⟨t61,ht61,hF⟩:=of_bindM hF
  refine at_callO (c:=(cInt .u8)) (e:=5) (ys:=t61.1) (V:=fun p cap=>.tuple #[.slice p t61.1.length cap,.int .i64 t61.2]) func128 rfl (by kernel_rfl) rfl rfl (fun w hw=>script_unword_ok _ _ ht61 w) ?_
  intro p62 c63
  refine am ?_
  refine aw xe ?_
  refine aw xe ?_
  refine aw (r_nilCheck rfl) ?_
  refine fa 1 underlying33 rfl sizeOf22 ?_
  refine at_store (c:=cSv Int) (z:=((p62,c63),t61.1)) (.s (.s .z)) (c_api_Item_f_Bytes_sv zv5 ({ zv4 with f_Kind:=t10 })) sizeOf22 rfl rfl rfl ?_
  refine aa ?_
  refine ns ?_
  refine am ?_
  refine aa ?_
  refine nwq [4] ?_
  refine qt ?_
  refine at_retI1 rfl rfl ?_
  refine aa ?_
  refine ns ?_
  refine am ?_
  refine aw xn ?_
  refine nwq [55,41,40,39,10,5,4,2] ?_
  rcases oi hF with ⟨h64,hF⟩|⟨h64,hF⟩
  ·refine ct h64 ?_
   refine sr ?_
   refine aw (r_build_struct (zs:=Cd.cs c_api_Item zv6) (cs:=Cd.cs c_api_Item zv6) underlying33 zeroValue33 rfl (places_api_Item_33) rfl rfl) ?_
   refine am ?_
   refine at_store (c:=c_api_Item) (z:=zv6) (.s (.s (.s (.s .z)))) (Lens.whole _ _) sizeOf33 rfl rfl rfl ?_
   refine aa ?_
   refine qn ?_
   refine dz ?_
   refine dz ?_
   refine dz ?_
   refine dz ?_
   refine wq [3,2] ?_
   refine tn ?_
   refine qt ?_
   refine at_blk_ret (at_then_ret (at_then_ret (at_blk_ret (at_then_ret ?_))))
   have hN65 : NK_api_Item (KZ w0 Z_) s_ zv6:=⟨RowK.nil ..,RowK.nil ..⟩
   obtain rfl:=of_some hF
   exact at_res2 rfl (res_cell (c:=c_api_Item) (y:=zv6) rfl .z (Lens.whole _ _) isAgg33 sizeOf33 (.inl rfl)) (res_tmp rfl) (fun w1 hw=>⟨Z_,s_,zv5,hM_,rfl,hN65,hw.pop⟩)
  refine cf h64 ?_
  refine at_skip ?_
  refine at_blk_normal (at_then_normal ?_)
  refine qr ?_
  refine aw xa ?_
  refine at_ov (t:=58) rfl (show Value.int .i64 (wr .i64 (0 + 1)) = .int .i64 1 from by rfl) ?_
  refine am ?_
  refine nt ?_
  refine wq [41,40,39,5,4,2] ?_
  refine at_round ?_
  refine sr ?_
  refine aw xl ?_
  refine at_fix (g:=42) rfl (show (decide (1 < 2)) = true from by decide) ?_
  refine nwq [42,41,40,39,5,4,2] ?_
  refine qs ?_
  refine ct rfl ?_
  refine sn ?_
  refine qs ?_
  refine at_block ?_
  refine sr ?_
  refine am ?_
  refine aw (r_idx underlying96 sizeOf104 rfl rfl (by decide) rfl) ?_
  refine aw (r_load_agg (l:=zl13) isAgg104 sizeOf104 rfl rfl (fun w1 hw=>cells_mid (pre:=zl12) (suf:=[]) (hw.ok (Upd.mem (.s .z))) rfl rfl)) ?_
  refine at_alloc (cs:=zl21) zeroValue104 rfl rfl ?_
  intro b66
  refine aa ?_
  refine sa 3 (zl13) .z rfl rfl sizeOf104 rfl rfl rfl ?_
  refine nt ?_
  refine qs ?_
  refine wq [41,40,39,9,8,5,4,2] ?_
  obtain ⟨h67,hF⟩:=of_guard hF
  refine at_pure (φ:=∃ b o,p4 = some ⟨b,o,none⟩) (fun _ hw=>row_ptr (hw.own (.s (.s (.s (.s .z))))).row h67) ?_
  rintro ⟨b69,o70,hp68⟩
  refine at_invT [.q 46 (fun g71=>.pointer (some ⟨b66,0 + 1,none⟩)) [] 0 0,.q 47 (fun g71=>.func (.func 131) #[] #[]) [0] 0 0,.q 48 (fun g71=>.slice p4 t3.length c5) [] 0 0,.q 49 (fun g71=>.int .i64 1) [] 0 0,.q 50 (fun g71=>.int .i64 (wr .i64 (1 + 1))) [3] 0 0,.q 51 (fun g71=>.pointer (some ⟨b69,o70 + Int.toNat (wr .i64 (1 + 1)) * 1,none⟩)) [2,4] 0 0,.q 52 (fun g71=>.string (lget t3 (wr .i64 (1 + 1)))) [5] 0 0] (fun g71 s=>match s with | _=>(Wd w0 (cellsE b66 zl13 104::rowE (cInt .u8) 5 p62 c63 t61.1::cellsE b51 zl7 104::cellsE b11 (Cd.cs c_api_Item (((p62,c63),zv2),{ { zv4 with f_Kind:=t10 } with f_Bytes:=t61.1 })) 33::rowE cStr 9 p4 c5 t3::cellsE b1 (Cd.cs c_api_Item zv6) 33::frzE w0 Z_ s_::G_))) 0 7 (by kernel_rfl) (by kernel_rfl) (by kernel_rfl) (by kernel_rfl) (by kernel_rfl) (by kernel_rfl) ⟨fun _ _ _=>rfl,fun _ _ _=>rfl,fun _ _ _=>rfl,fun _ _ _=>rfl,fun _ _ _=>rfl,fun _ _ _=>rfl,fun _ _ _=>rfl,trivial⟩ (by kernel_rfl) (fun w_ h=>⟨fun _=>g3 0 none 0 none w_,h.drew⟩) ⟨?_,?_,?_,?_,?_,?_,?_,trivial⟩ ?_
  ·intro Lx g71 s K hl hh k
   show At 60 ((2,_)::(4,_)::(5,_)::(8,_)::(9,_)::(39,_)::(40,_)::(41,_)::Lx) _ _
   refine fa 1 underlying104 rfl sizeOf101 ?_
   exact at_nil k
  ·intro Lx g71 s K hl hh k
   show At 60 ((46,_)::(2,_)::(4,_)::(5,_)::(8,_)::(9,_)::(39,_)::(40,_)::(41,_)::Lx) _ _
   obtain rfl : s = 0:=by omega
   refine aw (r_load_cell isAgg101 rfl (fun w1 hw=>cells_get (hw.ok (Upd.mem .z)) 1 _ rfl)) ?_
   exact at_nil k
  ·intro Lx g71 s K hl hh k
   show At 60 ((2,_)::(4,_)::(5,_)::(8,_)::(9,_)::(39,_)::(40,_)::(41,_)::Lx) _ _
   refine am ?_
   exact at_nil k
  ·intro Lx g71 s K hl hh k
   show At 60 ((2,_)::(4,_)::(5,_)::(8,_)::(9,_)::(39,_)::(40,_)::(41,_)::Lx) _ _
   refine am ?_
   exact at_nil k
  ·intro Lx g71 s K hl hh k
   show At 60 ((49,_)::(2,_)::(4,_)::(5,_)::(8,_)::(9,_)::(39,_)::(40,_)::(41,_)::Lx) _ _
   refine aw xa ?_
   exact at_nil k
  ·intro Lx g71 s K hl hh k
   show At 60 ((48,_)::(50,_)::(2,_)::(4,_)::(5,_)::(8,_)::(9,_)::(39,_)::(40,_)::(41,_)::Lx) _ _
   refine aw (r_idx underlying38 sizeOf9 rfl rfl h67 hp68) ?_
   exact at_nil k
  ·intro Lx g71 s K hl hh k
   show At 60 ((51,_)::(2,_)::(4,_)::(5,_)::(8,_)::(9,_)::(39,_)::(40,_)::(41,_)::Lx) _ _
   obtain rfl : s = 0:=by omega
   refine aw (r_load_cell isAgg9 rfl (fun _ hw=>row_cell0 (W:=fun w1=>w1 = _) (fun w1 h=>by subst h; exact Below.refl _ _) (hw.own (.s (.s (.s (.s .z))))).row h67 hp68 rfl _ rfl)) ?_
   exact at_nil k
  intro g71
  show At 60 [(46,_),(47,_),(48,_),(49,_),(50,_),(51,_),(52,_),(2,_),(4,_),(5,_),(8,_),(9,_),(39,_),(40,_),(41,_)] _ _
  refine at_callee rfl ?_
  refine at_callI func131 rfl (by kernel_rfl) rfl rfl rfl rfl ?_
  refine dz ?_
  refine sr ?_
  refine aa ?_
  refine nt ?_
  refine qs ?_
  refine sr ?_
  refine am ?_
  refine aw (r_seql rfl rfl) ?_
  refine nwq [6,1,0] ?_
  rcases oi hF with ⟨h72,hF⟩|⟨h72,hF⟩
  ·refine ct h72 ?_
   refine sr ?_
   refine aa ?_
   refine nwq [4] ?_
   refine rt ?_
   refine at_retI1 rfl rfl ?_
   refine aa ?_
   refine nwx [41,40,39,10,5,4,2] ?_
   refine am ?_
   refine aw xn ?_
   refine at_fix (g:=55) rfl (show (0 != 0) = false from by decide) ?_
   refine nwq [55,41,40,39,10,5,4,2] ?_
   refine cf rfl ?_
   refine at_skip ?_
   refine at_blk_normal (at_then_normal ?_)
   refine qr ?_
   refine aw xa ?_
   refine at_ov (t:=58) rfl (show Value.int .i64 (wr .i64 (1 + 1)) = .int .i64 2 from by rfl) ?_
   refine am ?_
   refine nt ?_
   refine wq [41,40,39,5,4,2] ?_
   refine at_round ?_
   refine sr ?_
   refine aw xl ?_
   refine at_fix (g:=42) rfl (show (decide (2 < 2)) = false from by decide) ?_
   refine nwq [42,41,40,39,5,4,2] ?_
   refine qs ?_
   refine cf rfl ?_
   refine at_exit ?_
   refine at_then_exit (at_then_exit ?_)
   refine at_blk_same ?_
   refine at_drop (H:=_) (.s .z) ?_
   refine at_drop (H:=_) (.s (.s .z)) ?_
   refine tn ?_
   refine sr ?_
   refine aw (r_load_aggc (c:=c_api_Item) (z:=(((p62,c63),zv2),{ { zv4 with f_Kind:=t10 } with f_Bytes:=t61.1 })) isAgg33 sizeOf33 rfl (lens_cell (.s .z) (Lens.whole _ _))) ?_
   refine at_store (c:=c_api_Item) (z:=(((p62,c63),zv2),{ { zv4 with f_Kind:=t10 } with f_Bytes:=t61.1 })) (.s (.s .z)) (Lens.whole _ _) sizeOf33 rfl rfl rfl ?_
   refine aa ?_
   refine qn ?_
   refine at_drop (H:=_) (.s .z) ?_
   refine wq [3,2] ?_
   refine tn ?_
   refine qt ?_
   refine at_freeze (.s .z) ?_
   intro Z_ s_ hm74 hk75
   replace hM_:=Mono.mono hM_ hm74
   have hN73 : NK_api_Item (KZ w0 Z_) s_ (((p62,c63),zv2),{ { zv4 with f_Kind:=t10 } with f_Bytes:=t61.1 }):=⟨hk75,RowK.nil ..⟩
   obtain rfl:=of_some hF
   exact at_res2 rfl (res_cell (c:=c_api_Item) (y:=(((p62,c63),zv2),{ { zv4 with f_Kind:=t10 } with f_Bytes:=t61.1 })) rfl .z (Lens.whole _ _) isAgg33 sizeOf33 (.inl rfl)) (res_tmp rfl) (fun w1 hw=>⟨Z_,s_,((p62,c63),zv2),hM_,rfl,hN73,hw.pop⟩)
  refine cf h72 ?_
  refine sns ?_
  refine am ?_
  refine aw (r_nilCheck rfl) ?_
  refine fa 21 underlying33 rfl sizeOf4 ?_
  refine at_store (c:=cBool) (z:=true) (.s (.s .z)) (c_api_Item_f_Ok ((p62,c63),zv2) ({ { zv4 with f_Kind:=t10 } with f_Bytes:=t61.1 })) sizeOf4 rfl rfl rfl ?_
  refine ns ?_
  refine am ?_
  refine am ?_
  obtain ⟨t76,ht76,hF⟩:=of_bindM hF
  refine at_callO (c:=(cInt .u8)) (e:=5) (ys:=t76.1) (V:=fun p cap=>.tuple #[.slice p t76.1.length cap,.int .i64 t76.2]) func128 rfl (by kernel_rfl) rfl rfl (fun w hw=>script_unword_ok _ _ ht76 w) ?_
  intro p77 c78
  refine am ?_
  refine aw xe ?_
  refine aw xe ?_
  refine aw (r_nilCheck rfl) ?_
  refine fa 20 underlying33 rfl sizeOf22 ?_
  refine at_store (c:=cSv Int) (z:=((p77,c78),t76.1)) (.s (.s (.s .z))) (c_api_Item_f_Result_sv ((p62,c63),zv2) ({ { { zv4 with f_Kind:=t10 } with f_Bytes:=t61.1 } with f_Ok:=true })) sizeOf22 rfl rfl rfl ?_
  refine aa ?_
  refine ns ?_
  refine am ?_
  refine aa ?_
  refine nwq [4] ?_
  refine qt ?_
  refine at_retI1 rfl rfl ?_
  refine aa ?_
  refine ns ?_
  refine am ?_
  refine aw xn ?_
  refine nwq [55,41,40,39,10,5,4,2] ?_
  rcases oi hF with ⟨h79,hF⟩|⟨h79,hF⟩
  ·refine ct h79 ?_
   refine sr ?_
   refine aw (r_build_struct (zs:=Cd.cs c_api_Item zv6) (cs:=Cd.cs c_api_Item zv6) underlying33 zeroValue33 rfl (places_api_Item_33) rfl rfl) ?_
   refine am ?_
   refine at_store (c:=c_api_Item) (z:=zv6) (.s (.s (.s (.s (.s .z))))) (Lens.whole _ _) sizeOf33 rfl rfl rfl ?_
   refine aa ?_
   refine qn ?_
   refine dz ?_
   refine dz ?_
   refine dz ?_
   refine dz ?_
   refine dz ?_
   refine wq [3,2] ?_
   refine tn ?_
   refine qt ?_
   refine at_blk_ret (at_then_ret (at_then_ret (at_blk_ret (at_then_ret ?_))))
   have hN80 : NK_api_Item (KZ w0 Z_) s_ zv6:=⟨RowK.nil ..,RowK.nil ..⟩
   obtain rfl:=of_some hF
   exact at_res2 rfl (res_cell (c:=c_api_Item) (y:=zv6) rfl .z (Lens.whole _ _) isAgg33 sizeOf33 (.inl rfl)) (res_tmp rfl) (fun w1 hw=>⟨Z_,s_,zv5,hM_,rfl,hN80,hw.pop⟩)
  refine cf h79 ?_
  refine at_skip ?_
  refine at_blk_normal (at_then_normal ?_)
  refine qr ?_
  refine aw xa ?_
  refine at_ov (t:=58) rfl (show Value.int .i64 (wr .i64 (1 + 1)) = .int .i64 2 from by rfl) ?_
  refine am ?_
  refine nt ?_
  refine wq [41,40,39,5,4,2] ?_
  refine at_round ?_
  refine sr ?_
  refine aw xl ?_
  refine at_fix (g:=42) rfl (show (decide (2 < 2)) = false from by decide) ?_
  refine nwq [42,41,40,39,5,4,2] ?_
  refine qs ?_
  refine cf rfl ?_
  refine at_exit ?_
  refine at_then_exit (at_then_exit ?_)
  refine at_blk_same ?_
  refine at_drop (H:=_) (.s (.s .z)) ?_
  refine at_drop (H:=_) (.s (.s (.s .z))) ?_
  refine tn ?_
  refine sr ?_
  refine aw (r_load_aggc (c:=c_api_Item) (z:=(((p62,c63),(p77,c78)),{ { { { zv4 with f_Kind:=t10 } with f_Bytes:=t61.1 } with f_Ok:=true } with f_Result:=t76.1 })) isAgg33 sizeOf33 rfl (lens_cell (.s (.s .z)) (Lens.whole _ _))) ?_
  refine at_store (c:=c_api_Item) (z:=(((p62,c63),(p77,c78)),{ { { { zv4 with f_Kind:=t10 } with f_Bytes:=t61.1 } with f_Ok:=true } with f_Result:=t76.1 })) (.s (.s (.s .z))) (Lens.whole _ _) sizeOf33 rfl rfl rfl ?_
  refine aa ?_
  refine qn ?_
  refine at_drop (H:=_) (.s (.s .z)) ?_
  refine wq [3,2] ?_
  refine tn ?_
  refine qt ?_
  refine at_front (.s .z) ?_
  refine at_freeze (.s (.s .z)) ?_
  intro Z_ s_ hm82 hk83
  replace hM_:=Mono.mono hM_ hm82
  refine at_freeze (.s .z) ?_
  intro Z_ s_ hm84 hk85
  replace hM_:=Mono.mono hM_ hm84
  replace hk83:=RowK.mono hk83 hm84
  have hN81 : NK_api_Item (KZ w0 Z_) s_ (((p62,c63),(p77,c78)),{ { { { zv4 with f_Kind:=t10 } with f_Bytes:=t61.1 } with f_Ok:=true } with f_Result:=t76.1 }):=⟨hk83,hk85⟩
  obtain rfl:=of_some hF
  exact at_res2 rfl (res_cell (c:=c_api_Item) (y:=(((p62,c63),(p77,c78)),{ { { { zv4 with f_Kind:=t10 } with f_Bytes:=t61.1 } with f_Ok:=true } with f_Result:=t76.1 })) rfl .z (Lens.whole _ _) isAgg33 sizeOf33 (.inl rfl)) (res_tmp rfl) (fun w1 hw=>⟨Z_,s_,((p62,c63),(p77,c78)),hM_,rfl,hN81,hw.pop⟩)
 skip
 rcases oi hF with ⟨h86,hF⟩|⟨h86,hF⟩
 ·skip
  refine script_shapeOf_in3 rfl rfl h12 h31 h50 h86 ?_
  intro b87
  refine am ?_
  refine aw xe ?_
  refine aw xe ?_
  refine at_alloc (cs:=zl20) zeroValue98 rfl rfl ?_
  intro b88
  refine sa 2 ((zl19 b87)) .z rfl rfl sizeOf98 rfl rfl rfl ?_
  refine aa ?_
  refine nwq [7,6,5,4,2] ?_
  refine qs ?_
  refine at_block ?_
  refine sr ?_
  refine am ?_
  refine aw (r_not rfl) ?_
  refine aa ?_
  refine nwq [25,6,5,4,2] ?_
  refine cf rfl ?_
  refine sr ?_
  refine am ?_
  refine aw (r_len_sl underlying38 rfl) ?_
  refine aw (r_isub rfl rfl) ?_
  refine fa 1 underlying98 rfl sizeOf96 ?_
  refine aw (r_load_cell isAgg96 rfl (fun w1 hw=>cells_get (hw.ok (Upd.mem .z)) 1 _ rfl)) ?_
  refine aw (r_len_sl underlying96 rfl) ?_
  refine aw xn ?_
  refine aa ?_
  refine nwq [29,6,5,4,2] ?_
  rcases oi hF with ⟨h89,hF⟩|⟨h89,hF⟩
  ·refine ct h89 ?_
   refine sr ?_
   refine aw (r_build_struct (zs:=Cd.cs c_api_Item zv6) (cs:=Cd.cs c_api_Item zv6) underlying33 zeroValue33 rfl (places_api_Item_33) rfl rfl) ?_
   refine at_store (c:=c_api_Item) (z:=zv6) (.s (.s (.s (.s .z)))) (Lens.whole _ _) sizeOf33 rfl rfl rfl ?_
   refine aa ?_
   refine qn ?_
   refine dz ?_
   refine dz ?_
   refine dz ?_
   refine dz ?_
   refine wq [3,2] ?_
   refine tn ?_
   refine qt ?_
   refine at_blk_ret (at_then_ret ?_)
   have hN90 : NK_api_Item (KZ w0 Z_) s_ zv6:=⟨RowK.nil ..,RowK.nil ..⟩
   obtain rfl:=of_some hF
   exact at_res2 rfl (res_cell (c:=c_api_Item) (y:=zv6) rfl .z (Lens.whole _ _) isAgg33 sizeOf33 (.inl rfl)) (res_tmp rfl) (fun w1 hw=>⟨Z_,s_,zv5,hM_,rfl,hN90,hw.pop⟩)
  refine cf h89 ?_
  refine at_skip ?_
  refine at_blk_normal (at_then_normal ?_)
  refine qs ?_
  refine sr ?_
  refine fa 1 underlying98 rfl sizeOf96 ?_
  refine aw (r_load_cell isAgg96 rfl (fun w1 hw=>cells_get (hw.ok (Upd.mem .z)) 1 _ rfl)) ?_
  refine aw (r_len_sl underlying96 rfl) ?_
  refine am ?_
  refine qn ?_
  refine dz ?_
  refine wq [41,40,39,5,4,2] ?_
  refine tn ?_
  refine at_block ?_
  refine wq [41,40,39,5,4,2] ?_
  refine at_loop ?_
  refine at_round ?_
  refine sr ?_
  refine aw xl ?_
  refine at_fix (g:=42) rfl (show (decide (0 < 3)) = true from by decide) ?_
  refine nwq [42,41,40,39,5,4,2] ?_
  refine qs ?_
  refine ct rfl ?_
  refine sn ?_
  refine qs ?_
  refine at_block ?_
  refine sr ?_
  refine am ?_
  refine aw (r_idx underlying96 sizeOf104 rfl rfl (by decide) rfl) ?_
  refine aw (r_load_agg (l:=zl14) isAgg104 sizeOf104 rfl rfl (fun w1 hw=>cells_mid (pre:=[]) (suf:=zl7) (hw.ok (Upd.mem .z)) rfl rfl)) ?_
  refine at_alloc (cs:=zl21) zeroValue104 rfl rfl ?_
  intro b91
  refine aa ?_
  refine sa 3 (zl14) .z rfl rfl sizeOf104 rfl rfl rfl ?_
  refine nt ?_
  refine qs ?_
  refine wq [41,40,39,9,8,5,4,2] ?_
  obtain ⟨h92,hF⟩:=of_guard hF
  refine at_pure (φ:=∃ b o,p4 = some ⟨b,o,none⟩) (fun _ hw=>row_ptr (hw.own (.s (.s (.s .z)))).row h92) ?_
  rintro ⟨b94,o95,hp93⟩
  refine at_invT [.q 46 (fun g96=>.pointer (some ⟨b91,0 + 1,none⟩)) [] 0 0,.q 47 (fun g96=>.func (.func 134) #[] #[]) [0] 0 0,.q 48 (fun g96=>.slice p4 t3.length c5) [] 0 0,.q 49 (fun g96=>.int .i64 0) [] 0 0,.q 50 (fun g96=>.int .i64 (wr .i64 (0 + 1))) [3] 0 0,.q 51 (fun g96=>.pointer (some ⟨b94,o95 + Int.toNat (wr .i64 (0 + 1)) * 1,none⟩)) [2,4] 0 0,.q 52 (fun g96=>.string (lget t3 (wr .i64 (0 + 1)))) [5] 0 0] (fun g96 s=>match s with | _=>(Wd w0 (cellsE b91 zl14 104::cellsE b87 zl5 104::cellsE b11 (Cd.cs c_api_Item (zv5,{ zv4 with f_Kind:=t10 })) 33::rowE cStr 9 p4 c5 t3::cellsE b1 (Cd.cs c_api_Item zv6) 33::frzE w0 Z_ s_::G_))) 0 7 (by kernel_rfl) (by kernel_rfl) (by kernel_rfl) (by kernel_rfl) (by kernel_rfl) (by kernel_rfl) ⟨fun _ _ _=>rfl,fun _ _ _=>rfl,fun _ _ _=>rfl,fun _ _ _=>rfl,fun _ _ _=>rfl,fun _ _ _=>rfl,fun _ _ _=>rfl,trivial⟩ (by kernel_rfl) (fun w_ h=>⟨fun _=>g3 0 none 0 none w_,h.drew⟩) ⟨?_,?_,?_,?_,?_,?_,?_,trivial⟩ ?_
  ·intro Lx g96 s K hl hh k
   show At 60 ((2,_)::(4,_)::(5,_)::(8,_)::(9,_)::(39,_)::(40,_)::(41,_)::Lx) _ _
   refine fa 1 underlying104 rfl sizeOf101 ?_
   exact at_nil k
  ·intro Lx g96 s K hl hh k
   show At 60 ((46,_)::(2,_)::(4,_)::(5,_)::(8,_)::(9,_)::(39,_)::(40,_)::(41,_)::Lx) _ _
   obtain rfl : s = 0:=by omega
   refine aw (r_load_cell isAgg101 rfl (fun w1 hw=>cells_get (hw.ok (Upd.mem .z)) 1 _ rfl)) ?_
   exact at_nil k
  ·intro Lx g96 s K hl hh k
   show At 60 ((2,_)::(4,_)::(5,_)::(8,_)::(9,_)::(39,_)::(40,_)::(41,_)::Lx) _ _
   refine am ?_
   exact at_nil k
  ·intro Lx g96 s K hl hh k
   show At 60 ((2,_)::(4,_)::(5,_)::(8,_)::(9,_)::(39,_)::(40,_)::(41,_)::Lx) _ _
   refine am ?_
   exact at_nil k
  ·intro Lx g96 s K hl hh k
   show At 60 ((49,_)::(2,_)::(4,_)::(5,_)::(8,_)::(9,_)::(39,_)::(40,_)::(41,_)::Lx) _ _
   refine aw xa ?_
   exact at_nil k
  ·intro Lx g96 s K hl hh k
   show At 60 ((48,_)::(50,_)::(2,_)::(4,_)::(5,_)::(8,_)::(9,_)::(39,_)::(40,_)::(41,_)::Lx) _ _
   refine aw (r_idx underlying38 sizeOf9 rfl rfl h92 hp93) ?_
   exact at_nil k
  ·intro Lx g96 s K hl hh k
   show At 60 ((51,_)::(2,_)::(4,_)::(5,_)::(8,_)::(9,_)::(39,_)::(40,_)::(41,_)::Lx) _ _
   obtain rfl : s = 0:=by omega
   refine aw (r_load_cell isAgg9 rfl (fun _ hw=>row_cell0 (W:=fun w1=>w1 = _) (fun w1 h=>by subst h; exact Below.refl _ _) (hw.own (.s (.s (.s .z)))).row h92 hp93 rfl _ rfl)) ?_
   exact at_nil k
  intro g96
  show At 60 [(46,_),(47,_),(48,_),(49,_),(50,_),(51,_),(52,_),(2,_),(4,_),(5,_),(8,_),(9,_),(39,_),(40,_),(41,_)] _ _
  refine at_callee rfl ?_
  refine at_callI func134 rfl (by kernel_rfl) rfl rfl rfl rfl ?_
  refine dz ?_
  refine sr ?_
  refine aa ?_
  refine ns ?_
  refine am ?_
  refine am ?_
  obtain ⟨t97,ht97,hF⟩:=of_bindM hF
  refine at_callB func99 rfl (by kernel_rfl) rfl rfl (fun w hw=>hostport_Parse_ok _ _ ht97 w (hg_bytealg_MaxLen.on hw.below) (hg_strconv_ErrRange.on hw.below) (hg_strconv_ErrSyntax.on hw.below)) ?_
  refine am ?_
  refine aw xe ?_
  refine aw xe ?_
  refine aw (r_nilCheck rfl) ?_
  refine fa 2 underlying33 rfl sizeOf27 ?_
  refine at_store (c:=c_api_Endpoint) (z:=t97.1) (.s .z) (c_api_Item_f_From zv5 ({ zv4 with f_Kind:=t10 })) sizeOf27 rfl rfl rfl ?_
  refine aa ?_
  refine ns ?_
  refine am ?_
  refine aa ?_
  refine nwq [4] ?_
  refine qt ?_
  refine at_retI1 rfl rfl ?_
  refine aa ?_
  refine ns ?_
  refine am ?_
  refine aw xn ?_
  refine nwq [55,41,40,39,10,5,4,2] ?_
  rcases oi hF with ⟨h98,hF⟩|⟨h98,hF⟩
  ·refine ct h98 ?_
   refine sr ?_
   refine aw (r_build_struct (zs:=Cd.cs c_api_Item zv6) (cs:=Cd.cs c_api_Item zv6) underlying33 zeroValue33 rfl (places_api_Item_33) rfl rfl) ?_
   refine am ?_
   refine at_store (c:=c_api_Item) (z:=zv6) (.s (.s (.s .z))) (Lens.whole _ _) sizeOf33 rfl rfl rfl ?_
   refine aa ?_
   refine qn ?_
   refine dz ?_
   refine dz ?_
   refine dz ?_
   refine wq [3,2] ?_
   refine tn ?_
   refine qt ?_
   refine at_blk_ret (at_then_ret (at_then_ret (at_blk_ret (at_then_ret ?_))))
   have hN99 : NK_api_Item (KZ w0 Z_) s_ zv6:=⟨RowK.nil ..,RowK.nil ..⟩
   obtain rfl:=of_some hF
   exact at_res2 rfl (res_cell (c:=c_api_Item) (y:=zv6) rfl .z (Lens.whole _ _) isAgg33 sizeOf33 (.inl rfl)) (res_tmp rfl) (fun w1 hw=>⟨Z_,s_,zv5,hM_,rfl,hN99,hw.pop⟩)
  refine cf h98 ?_
  refine at_skip ?_
  refine at_blk_normal (at_then_normal ?_)
  refine qr ?_
  refine aw xa ?_
  refine at_ov (t:=58) rfl (show Value.int .i64 (wr .i64 (0 + 1)) = .int .i64 1 from by rfl) ?_
  refine am ?_
  refine nt ?_
  refine wq [41,40,39,5,4,2] ?_
  refine at_round ?_
  refine sr ?_
  refine aw xl ?_
  refine at_fix (g:=42) rfl (show (decide (1 < 3)) = true from by decide) ?_
  refine nwq [42,41,40,39,5,4,2] ?_
  refine qs ?_
  refine ct rfl ?_
  refine sn ?_
  refine qs ?_
  refine at_block ?_
  refine sr ?_
  refine am ?_
  refine aw (r_idx underlying96 sizeOf104 rfl rfl (by decide) rfl) ?_
  refine aw (r_load_agg (l:=zl12) isAgg104 sizeOf104 rfl rfl (fun w1 hw=>cells_mid (pre:=zl14) (suf:=zl13) (hw.ok (Upd.mem .z)) rfl rfl)) ?_
  refine at_alloc (cs:=zl21) zeroValue104 rfl rfl ?_
  intro b100
  refine aa ?_
  refine sa 3 (zl12) .z rfl rfl sizeOf104 rfl rfl rfl ?_
  refine nt ?_
  refine qs ?_
  refine wq [41,40,39,9,8,5,4,2] ?_
  obtain ⟨h101,hF⟩:=of_guard hF
  refine at_pure (φ:=∃ b o,p4 = some ⟨b,o,none⟩) (fun _ hw=>row_ptr (hw.own (.s (.s (.s .z)))).row h101) ?_
  rintro ⟨b103,o104,hp102⟩
  refine at_invT [.q 46 (fun g105=>.pointer (some ⟨b100,0 + 1,none⟩)) [] 0 0,.q 47 (fun g105=>.func (.func 127) #[] #[]) [0] 0 0,.q 48 (fun g105=>.slice p4 t3.length c5) [] 0 0,.q 49 (fun g105=>.int .i64 1) [] 0 0,.q 50 (fun g105=>.int .i64 (wr .i64 (1 + 1))) [3] 0 0,.q 51 (fun g105=>.pointer (some ⟨b103,o104 + Int.toNat (wr .i64 (1 + 1)) * 1,none⟩)) [2,4] 0 0,.q 52 (fun g105=>.string (lget t3 (wr .i64 (1 + 1)))) [5] 0 0] (fun g105 s=>match s with | _=>(Wd w0 (cellsE b100 zl12 104::cellsE b87 zl5 104::cellsE b11 (Cd.cs c_api_Item (zv5,{ { zv4 with f_Kind:=t10 } with f_From:=t97.1 })) 33::rowE cStr 9 p4 c5 t3::cellsE b1 (Cd.cs c_api_Item zv6) 33::frzE w0 Z_ s_::G_))) 0 7 (by kernel_rfl) (by kernel_rfl) (by kernel_rfl) (by kernel_rfl) (by kernel_rfl) (by kernel_rfl) ⟨fun _ _ _=>rfl,fun _ _ _=>rfl,fun _ _ _=>rfl,fun _ _ _=>rfl,fun _ _ _=>rfl,fun _ _ _=>rfl,fun _ _ _=>rfl,trivial⟩ (by kernel_rfl) (fun w_ h=>⟨fun _=>g3 0 none 0 none w_,h.drew⟩) ⟨?_,?_,?_,?_,?_,?_,?_,trivial⟩ ?_
  ·intro Lx g105 s K hl hh k
   show At 60 ((2,_)::(4,_)::(5,_)::(8,_)::(9,_)::(39,_)::(40,_)::(41,_)::Lx) _ _
   refine fa 1 underlying104 rfl sizeOf101 ?_
   exact at_nil k
  ·intro Lx g105 s K hl hh k
   show At 60 ((46,_)::(2,_)::(4,_)::(5,_)::(8,_)::(9,_)::(39,_)::(40,_)::(41,_)::Lx) _ _
   obtain rfl : s = 0:=by omega
   refine aw (r_load_cell isAgg101 rfl (fun w1 hw=>cells_get (hw.ok (Upd.mem .z)) 1 _ rfl)) ?_
   exact at_nil k
  ·intro Lx g105 s K hl hh k
   show At 60 ((2,_)::(4,_)::(5,_)::(8,_)::(9,_)::(39,_)::(40,_)::(41,_)::Lx) _ _
   refine am ?_
   exact at_nil k
  ·intro Lx g105 s K hl hh k
   show At 60 ((2,_)::(4,_)::(5,_)::(8,_)::(9,_)::(39,_)::(40,_)::(41,_)::Lx) _ _
   refine am ?_
   exact at_nil k
  ·intro Lx g105 s K hl hh k
   show At 60 ((49,_)::(2,_)::(4,_)::(5,_)::(8,_)::(9,_)::(39,_)::(40,_)::(41,_)::Lx) _ _
   refine aw xa ?_
   exact at_nil k
  ·intro Lx g105 s K hl hh k
   show At 60 ((48,_)::(50,_)::(2,_)::(4,_)::(5,_)::(8,_)::(9,_)::(39,_)::(40,_)::(41,_)::Lx) _ _
   refine aw (r_idx underlying38 sizeOf9 rfl rfl h101 hp102) ?_
   exact at_nil k
  ·intro Lx g105 s K hl hh k
   show At 60 ((51,_)::(2,_)::(4,_)::(5,_)::(8,_)::(9,_)::(39,_)::(40,_)::(41,_)::Lx) _ _
   obtain rfl : s = 0:=by omega
   refine aw (r_load_cell isAgg9 rfl (fun _ hw=>row_cell0 (W:=fun w1=>w1 = _) (fun w1 h=>by subst h; exact Below.refl _ _) (hw.own (.s (.s (.s .z)))).row h101 hp102 rfl _ rfl)) ?_
   exact at_nil k
  intro g105
  show At 60 [(46,_),(47,_),(48,_),(49,_),(50,_),(51,_),(52,_),(2,_),(4,_),(5,_),(8,_),(9,_),(39,_),(40,_),(41,_)] _ _
  refine at_callee rfl ?_
  refine at_callI func127 rfl (by kernel_rfl) rfl rfl rfl rfl ?_
  refine dz ?_
  refine sr ?_
  refine aa ?_
  refine ns ?_
  refine am ?_
  refine am ?_
  obtain ⟨t106,ht106,hF⟩:=of_bindM hF
  refine at_callO (c:=(cInt .u8)) (e:=5) (ys:=t106.1) (V:=fun p cap=>.tuple #[.slice p t106.1.length cap,.int .i64 t106.2]) func128 rfl (by kernel_rfl) rfl rfl (fun w hw=>script_unword_ok _ _ ht106 w) ?_
  intro p107 c108
  refine am ?_
  refine aw xe ?_
  refine aw xe ?_
  refine aw (r_nilCheck rfl) ?_
  refine fa 1 underlying33 rfl sizeOf22 ?_
  refine at_store (c:=cSv Int) (z:=((p107,c108),t106.1)) (.s (.s .z)) (c_api_Item_f_Bytes_sv zv5 ({ { zv4 with f_Kind:=t10 } with f_From:=t97.1 })) sizeOf22 rfl rfl rfl ?_
  refine aa ?_
  refine ns ?_
  refine am ?_
  refine aa ?_
  refine nwq [4] ?_
  refine qt ?_
  refine at_retI1 rfl rfl ?_
  refine aa ?_
  refine ns ?_
  refine am ?_
  refine aw xn ?_
  refine nwq [55,41,40,39,10,5,4,2] ?_
  rcases oi hF with ⟨h109,hF⟩|⟨h109,hF⟩
  ·refine ct h109 ?_
   refine sr ?_
   refine aw (r_build_struct (zs:=Cd.cs c_api_Item zv6) (cs:=Cd.cs c_api_Item zv6) underlying33 zeroValue33 rfl (places_api_Item_33) rfl rfl) ?_
   refine am ?_
   refine at_store (c:=c_api_Item) (z:=zv6) (.s (.s (.s (.s .z)))) (Lens.whole _ _) sizeOf33 rfl rfl rfl ?_
   refine aa ?_
   refine qn ?_
   refine dz ?_
   refine dz ?_
   refine dz ?_
   refine dz ?_
   refine wq [3,2] ?_
   refine tn ?_
   refine qt ?_
   refine at_blk_ret (at_then_ret (at_then_ret (at_blk_ret (at_then_ret ?_))))
   have hN110 : NK_api_Item (KZ w0 Z_) s_ zv6:=⟨RowK.nil ..,RowK.nil ..⟩
   obtain rfl:=of_some hF
   exact at_res2 rfl (res_cell (c:=c_api_Item) (y:=zv6) rfl .z (Lens.whole _ _) isAgg33 sizeOf33 (.inl rfl)) (res_tmp rfl) (fun w1 hw=>⟨Z_,s_,zv5,hM_,rfl,hN110,hw.pop⟩)
  refine cf h109 ?_
  refine at_skip ?_
  refine at_blk_normal (at_then_normal ?_)
  refine qr ?_
  refine aw xa ?_
  refine at_ov (t:=58) rfl (show Value.int .i64 (wr .i64 (1 + 1)) = .int .i64 2 from by rfl) ?_
  refine am ?_
  refine nt ?_
  refine wq [41,40,39,5,4,2] ?_
  refine at_round ?_
  refine sr ?_
  refine aw xl ?_
  refine at_fix (g:=42) rfl (show (decide (2 < 3)) = true from by decide) ?_
  refine nwq [42,41,40,39,5,4,2] ?_
  refine qs ?_
  refine ct rfl ?_
  refine sn ?_
  refine qs ?_
  refine at_block ?_
  refine sr ?_
  refine am ?_
  refine aw (r_idx underlying96 sizeOf104 rfl rfl (by decide) rfl) ?_
  refine aw (r_load_agg (l:=zl13) isAgg104 sizeOf104 rfl rfl (fun w1 hw=>cells_mid (pre:=zl8) (suf:=[]) (hw.ok (Upd.mem (.s .z))) rfl rfl)) ?_
  refine at_alloc (cs:=zl21) zeroValue104 rfl rfl ?_
  intro b111
  refine aa ?_
  refine sa 3 (zl13) .z rfl rfl sizeOf104 rfl rfl rfl ?_
  refine nt ?_
  refine qs ?_
  refine wq [41,40,39,9,8,5,4,2] ?_
  obtain ⟨h112,hF⟩:=of_guard hF
  refine at_pure (φ:=∃ b o,p4 = some ⟨b,o,none⟩) (fun _ hw=>row_ptr (hw.own (.s (.s (.s (.s .z))))).row h112) ?_
  rintro ⟨b114,o115,hp113⟩
  refine at_invT [.q 46 (fun g116=>.pointer (some ⟨b111,0 + 1,none⟩)) [] 0 0,.q 47 (fun g116=>.func (.func 131) #[] #[]) [0] 0 0,.q 48 (fun g116=>.slice p4 t3.length c5) [] 0 0,.q 49 (fun g116=>.int .i64 2) [] 0 0,.q 50 (fun g116=>.int .i64 (wr .i64 (2 + 1))) [3] 0 0,.q 51 (fun g116=>.pointer (some ⟨b114,o115 + Int.toNat (wr .i64 (2 + 1)) * 1,none⟩)) [2,4] 0 0,.q 52 (fun g116=>.string (lget t3 (wr .i64 (2 + 1)))) [5] 0 0] (fun g116 s=>match s with | _=>(Wd w0 (cellsE b111 zl13 104::rowE (cInt .u8) 5 p107 c108 t106.1::cellsE b87 zl5 104::cellsE b11 (Cd.cs c_api_Item (((p107,c108),zv2),{ { { zv4 with f_Kind:=t10 } with f_From:=t97.1 } with f_Bytes:=t106.1 })) 33::rowE cStr 9 p4 c5 t3::cellsE b1 (Cd.cs c_api_Item zv6) 33::frzE w0 Z_ s_::G_))) 0 7 (by kernel_rfl) (by kernel_rfl) (by kernel_rfl) (by kernel_rfl) (by kernel_rfl) (by kernel_rfl) ⟨fun _ _ _=>rfl,fun _ _ _=>rfl,fun _ _ _=>rfl,fun _ _ _=>rfl,fun _ _ _=>rfl,fun _ _ _=>rfl,fun _ _ _=>rfl,trivial⟩ (by kernel_rfl) (fun w_ h=>⟨fun _=>g3 0 none 0 none w_,h.drew⟩) ⟨?_,?_,?_,?_,?_,?_,?_,trivial⟩ ?_
  ·intro Lx g116 s K hl hh k
   show At 60 ((2,_)::(4,_)::(5,_)::(8,_)::(9,_)::(39,_)::(40,_)::(41,_)::Lx) _ _
   refine fa 1 underlying104 rfl sizeOf101 ?_
   exact at_nil k
  ·intro Lx g116 s K hl hh k
   show At 60 ((46,_)::(2,_)::(4,_)::(5,_)::(8,_)::(9,_)::(39,_)::(40,_)::(41,_)::Lx) _ _
   obtain rfl : s = 0:=by omega
   refine aw (r_load_cell isAgg101 rfl (fun w1 hw=>cells_get (hw.ok (Upd.mem .z)) 1 _ rfl)) ?_
   exact at_nil k
  ·intro Lx g116 s K hl hh k
   show At 60 ((2,_)::(4,_)::(5,_)::(8,_)::(9,_)::(39,_)::(40,_)::(41,_)::Lx) _ _
   refine am ?_
   exact at_nil k
  ·intro Lx g116 s K hl hh k
   show At 60 ((2,_)::(4,_)::(5,_)::(8,_)::(9,_)::(39,_)::(40,_)::(41,_)::Lx) _ _
   refine am ?_
   exact at_nil k
  ·intro Lx g116 s K hl hh k
   show At 60 ((49,_)::(2,_)::(4,_)::(5,_)::(8,_)::(9,_)::(39,_)::(40,_)::(41,_)::Lx) _ _
   refine aw xa ?_
   exact at_nil k
  ·intro Lx g116 s K hl hh k
   show At 60 ((48,_)::(50,_)::(2,_)::(4,_)::(5,_)::(8,_)::(9,_)::(39,_)::(40,_)::(41,_)::Lx) _ _
   refine aw (r_idx underlying38 sizeOf9 rfl rfl h112 hp113) ?_
   exact at_nil k
  ·intro Lx g116 s K hl hh k
   show At 60 ((51,_)::(2,_)::(4,_)::(5,_)::(8,_)::(9,_)::(39,_)::(40,_)::(41,_)::Lx) _ _
   obtain rfl : s = 0:=by omega
   refine aw (r_load_cell isAgg9 rfl (fun _ hw=>row_cell0 (W:=fun w1=>w1 = _) (fun w1 h=>by subst h; exact Below.refl _ _) (hw.own (.s (.s (.s (.s .z))))).row h112 hp113 rfl _ rfl)) ?_
   exact at_nil k
  intro g116
  show At 60 [(46,_),(47,_),(48,_),(49,_),(50,_),(51,_),(52,_),(2,_),(4,_),(5,_),(8,_),(9,_),(39,_),(40,_),(41,_)] _ _
  refine at_callee rfl ?_
  refine at_callI func131 rfl (by kernel_rfl) rfl rfl rfl rfl ?_
  refine dz ?_
  refine sr ?_
  refine aa ?_
  refine nt ?_
  refine qs ?_
  refine sr ?_
  refine am ?_
  refine aw (r_seql rfl rfl) ?_
  refine nwq [6,1,0] ?_
  rcases oi hF with ⟨h117,hF⟩|⟨h117,hF⟩
  ·refine ct h117 ?_
   refine sr ?_
   refine aa ?_
   refine nwq [4] ?_
   refine rt ?_
   refine at_retI1 rfl rfl ?_
   refine aa ?_
   refine nwx [41,40,39,10,5,4,2] ?_
   refine am ?_
   refine aw xn ?_
   refine at_fix (g:=55) rfl (show (0 != 0) = false from by decide) ?_
   refine nwq [55,41,40,39,10,5,4,2] ?_
   refine cf rfl ?_
   refine at_skip ?_
   refine at_blk_normal (at_then_normal ?_)
   refine qr ?_
   refine aw xa ?_
   refine at_ov (t:=58) rfl (show Value.int .i64 (wr .i64 (2 + 1)) = .int .i64 3 from by rfl) ?_
   refine am ?_
   refine nt ?_
   refine wq [41,40,39,5,4,2] ?_
   refine at_round ?_
   refine sr ?_
   refine aw xl ?_
   refine at_fix (g:=42) rfl (show (decide (3 < 3)) = false from by decide) ?_
   refine nwq [42,41,40,39,5,4,2] ?_
   refine qs ?_
   refine cf rfl ?_
   refine at_exit ?_
   refine at_then_exit (at_then_exit ?_)
   refine at_blk_same ?_
   refine at_drop (H:=_) (.s .z) ?_
   refine at_drop (H:=_) (.s (.s .z)) ?_
   refine tn ?_
   refine sr ?_
   refine aw (r_load_aggc (c:=c_api_Item) (z:=(((p107,c108),zv2),{ { { zv4 with f_Kind:=t10 } with f_From:=t97.1 } with f_Bytes:=t106.1 })) isAgg33 sizeOf33 rfl (lens_cell (.s .z) (Lens.whole _ _))) ?_
   refine at_store (c:=c_api_Item) (z:=(((p107,c108),zv2),{ { { zv4 with f_Kind:=t10 } with f_From:=t97.1 } with f_Bytes:=t106.1 })) (.s (.s .z)) (Lens.whole _ _) sizeOf33 rfl rfl rfl ?_
   refine aa ?_
   refine qn ?_
   refine at_drop (H:=_) (.s .z) ?_
   refine wq [3,2] ?_
   refine tn ?_
   refine qt ?_
   refine at_freeze (.s .z) ?_
   intro Z_ s_ hm119 hk120
   replace hM_:=Mono.mono hM_ hm119
   have hN118 : NK_api_Item (KZ w0 Z_) s_ (((p107,c108),zv2),{ { { zv4 with f_Kind:=t10 } with f_From:=t97.1 } with f_Bytes:=t106.1 }):=⟨hk120,RowK.nil ..⟩
   obtain rfl:=of_some hF
   exact at_res2 rfl (res_cell (c:=c_api_Item) (y:=(((p107,c108),zv2),{ { { zv4 with f_Kind:=t10 } with f_From:=t97.1 } with f_Bytes:=t106.1 })) rfl .z (Lens.whole _ _) isAgg33 sizeOf33 (.inl rfl)) (res_tmp rfl) (fun w1 hw=>⟨Z_,s_,((p107,c108),zv2),hM_,rfl,hN118,hw.pop⟩)
  refine cf h117 ?_
  refine sns ?_
  refine am ?_
  refine aw (r_nilCheck rfl) ?_
  refine fa 21 underlying33 rfl sizeOf4 ?_
  refine at_store (c:=cBool) (z:=true) (.s (.s .z)) (c_api_Item_f_Ok ((p107,c108),zv2) ({ { { zv4 with f_Kind:=t10 } with f_From:=t97.1 } with f_Bytes:=t106.1 })) sizeOf4 rfl rfl rfl ?_
  refine ns ?_
  refine am ?_
  refine am ?_
  obtain ⟨t121,ht121,hF⟩:=of_bindM hF
  refine at_callO (c:=(cInt .u8)) (e:=5) (ys:=t121.1) (V:=fun p cap=>.tuple #[.slice p t121.1.length cap,.int .i64 t121.2]) func128 rfl (by kernel_rfl) rfl rfl (fun w hw=>script_unword_ok _ _ ht121 w) ?_
  intro p122 c123
  refine am ?_
  refine aw xe ?_
  refine aw xe ?_
  refine aw (r_nilCheck rfl) ?_
  refine fa 20 underlying33 rfl sizeOf22 ?_
  refine at_store (c:=cSv Int) (z:=((p122,c123),t121.1)) (.s (.s (.s .z))) (c_api_Item_f_Result_sv ((p107,c108),zv2) ({ { { { zv4 with f_Kind:=t10 } with f_From:=t97.1 } with f_Bytes:=t106.1 } with f_Ok:=true })) sizeOf22 rfl rfl rfl ?_
  refine aa ?_
  refine ns ?_
  refine am ?_
  refine aa ?_
  refine nwq [4] ?_
  refine qt ?_
  refine at_retI1 rfl rfl ?_
  refine aa ?_
  refine ns ?_
  refine am ?_
  refine aw xn ?_
  refine nwq [55,41,40,39,10,5,4,2] ?_
  rcases oi hF with ⟨h124,hF⟩|⟨h124,hF⟩
  ·refine ct h124 ?_
   refine sr ?_
   refine aw (r_build_struct (zs:=Cd.cs c_api_Item zv6) (cs:=Cd.cs c_api_Item zv6) underlying33 zeroValue33 rfl (places_api_Item_33) rfl rfl) ?_
   refine am ?_
   refine at_store (c:=c_api_Item) (z:=zv6) (.s (.s (.s (.s (.s .z))))) (Lens.whole _ _) sizeOf33 rfl rfl rfl ?_
   refine aa ?_
   refine qn ?_
   refine dz ?_
   refine dz ?_
   refine dz ?_
   refine dz ?_
   refine dz ?_
   refine wq [3,2] ?_
   refine tn ?_
   refine qt ?_
   refine at_blk_ret (at_then_ret (at_then_ret (at_blk_ret (at_then_ret ?_))))
   have hN125 : NK_api_Item (KZ w0 Z_) s_ zv6:=⟨RowK.nil ..,RowK.nil ..⟩
   obtain rfl:=of_some hF
   exact at_res2 rfl (res_cell (c:=c_api_Item) (y:=zv6) rfl .z (Lens.whole _ _) isAgg33 sizeOf33 (.inl rfl)) (res_tmp rfl) (fun w1 hw=>⟨Z_,s_,zv5,hM_,rfl,hN125,hw.pop⟩)
  refine cf h124 ?_
  refine at_skip ?_
  refine at_blk_normal (at_then_normal ?_)
  refine qr ?_
  refine aw xa ?_
  refine at_ov (t:=58) rfl (show Value.int .i64 (wr .i64 (2 + 1)) = .int .i64 3 from by rfl) ?_
  refine am ?_
  refine nt ?_
  refine wq [41,40,39,5,4,2] ?_
  refine at_round ?_
  refine sr ?_
  refine aw xl ?_
  refine at_fix (g:=42) rfl (show (decide (3 < 3)) = false from by decide) ?_
  refine nwq [42,41,40,39,5,4,2] ?_
  refine qs ?_
  refine cf rfl ?_
  refine at_exit ?_
  refine at_then_exit (at_then_exit ?_)
  refine at_blk_same ?_
  refine at_drop (H:=_) (.s (.s .z)) ?_
  refine at_drop (H:=_) (.s (.s (.s .z))) ?_
  refine tn ?_
  refine sr ?_
  refine aw (r_load_aggc (c:=c_api_Item) (z:=(((p107,c108),(p122,c123)),{ { { { { zv4 with f_Kind:=t10 } with f_From:=t97.1 } with f_Bytes:=t106.1 } with f_Ok:=true } with f_Result:=t121.1 })) isAgg33 sizeOf33 rfl (lens_cell (.s (.s .z)) (Lens.whole _ _))) ?_
  refine at_store (c:=c_api_Item) (z:=(((p107,c108),(p122,c123)),{ { { { { zv4 with f_Kind:=t10 } with f_From:=t97.1 } with f_Bytes:=t106.1 } with f_Ok:=true } with f_Result:=t121.1 })) (.s (.s (.s .z))) (Lens.whole _ _) sizeOf33 rfl rfl rfl ?_
  refine aa ?_
  refine qn ?_
  refine at_drop (H:=_) (.s (.s .z)) ?_
  refine wq [3,2] ?_
  refine tn ?_
  refine qt ?_
  refine at_front (.s .z) ?_
  refine at_freeze (.s (.s .z)) ?_
  intro Z_ s_ hm127 hk128
  replace hM_:=Mono.mono hM_ hm127
  refine at_freeze (.s .z) ?_
  intro Z_ s_ hm129 hk130
  replace hM_:=Mono.mono hM_ hm129
  replace hk128:=RowK.mono hk128 hm129
  have hN126 : NK_api_Item (KZ w0 Z_) s_ (((p107,c108),(p122,c123)),{ { { { { zv4 with f_Kind:=t10 } with f_From:=t97.1 } with f_Bytes:=t106.1 } with f_Ok:=true } with f_Result:=t121.1 }):=⟨hk128,hk130⟩
  obtain rfl:=of_some hF
  exact at_res2 rfl (res_cell (c:=c_api_Item) (y:=(((p107,c108),(p122,c123)),{ { { { { zv4 with f_Kind:=t10 } with f_From:=t97.1 } with f_Bytes:=t106.1 } with f_Ok:=true } with f_Result:=t121.1 })) rfl .z (Lens.whole _ _) isAgg33 sizeOf33 (.inl rfl)) (res_tmp rfl) (fun w1 hw=>⟨Z_,s_,((p107,c108),(p122,c123)),hM_,rfl,hN126,hw.pop⟩)
 skip
 rcases oi hF with ⟨h131,hF⟩|⟨h131,hF⟩
 ·skip
  refine script_shapeOf_in4 rfl rfl h12 h31 h50 h86 h131 ?_
  intro b132 b133 b134
  refine am ?_
  refine aw xe ?_
  refine aw xe ?_
  refine at_alloc (cs:=zl20) zeroValue98 rfl rfl ?_
  intro b135
  refine sa 2 ((zl9 b134)) .z rfl rfl sizeOf98 rfl rfl rfl ?_
  refine aa ?_
  refine nwq [7,6,5,4,2] ?_
  refine qs ?_
  refine at_block ?_
  refine sr ?_
  refine am ?_
  refine aw (r_not rfl) ?_
  refine aa ?_
  refine nwq [25,6,5,4,2] ?_
  refine cf rfl ?_
  refine sr ?_
  refine am ?_
  refine aw (r_len_sl underlying38 rfl) ?_
  refine aw (r_isub rfl rfl) ?_
  refine fa 1 underlying98 rfl sizeOf96 ?_
  refine aw (r_load_cell isAgg96 rfl (fun w1 hw=>cells_get (hw.ok (Upd.mem .z)) 1 _ rfl)) ?_
  refine aw (r_len_sl underlying96 rfl) ?_
  refine aw xn ?_
  refine aa ?_
  refine nwq [29,6,5,4,2] ?_
  rcases oi hF with ⟨h136,hF⟩|⟨h136,hF⟩
  ·refine ct h136 ?_
   refine sr ?_
   refine aw (r_build_struct (zs:=Cd.cs c_api_Item zv6) (cs:=Cd.cs c_api_Item zv6) underlying33 zeroValue33 rfl (places_api_Item_33) rfl rfl) ?_
   refine at_store (c:=c_api_Item) (z:=zv6) (.s (.s (.s (.s (.s (.s .z)))))) (Lens.whole _ _) sizeOf33 rfl rfl rfl ?_
   refine aa ?_
   refine qn ?_
   refine dz ?_
   refine dz ?_
   refine dz ?_
   refine dz ?_
   refine dz ?_
   refine dz ?_
   refine wq [3,2] ?_
   refine tn ?_
   refine qt ?_
   refine at_blk_ret (at_then_ret ?_)
   have hN137 : NK_api_Item (KZ w0 Z_) s_ zv6:=⟨RowK.nil ..,RowK.nil ..⟩
   obtain rfl:=of_some hF
   exact at_res2 rfl (res_cell (c:=c_api_Item) (y:=zv6) rfl .z (Lens.whole _ _) isAgg33 sizeOf33 (.inl rfl)) (res_tmp rfl) (fun w1 hw=>⟨Z_,s_,zv5,hM_,rfl,hN137,hw.pop⟩)
  refine cf h136 ?_
  refine at_skip ?_
  refine at_blk_normal (at_then_normal ?_)
  refine qs ?_
  refine sr ?_
  refine fa 1 underlying98 rfl sizeOf96 ?_
  refine aw (r_load_cell isAgg96 rfl (fun w1 hw=>cells_get (hw.ok (Upd.mem .z)) 1 _ rfl)) ?_
  refine aw (r_len_sl underlying96 rfl) ?_
  refine am ?_
  refine qn ?_
  refine dz ?_
  refine wq [41,40,39,5,4,2] ?_
  refine tn ?_
  refine at_block ?_
  refine wq [41,40,39,5,4,2] ?_
  refine at_loop ?_
  refine at_round ?_
  refine sr ?_
  refine aw xl ?_
  refine at_fix (g:=42) rfl (show (decide (0 < 4)) = true from by decide) ?_
  refine nwq [42,41,40,39,5,4,2] ?_
  refine qs ?_
  refine ct rfl ?_
  refine sn ?_
  refine qs ?_
  refine at_block ?_
  refine sr ?_
  refine am ?_
  refine aw (r_idx underlying96 sizeOf104 rfl rfl (by decide) rfl) ?_
  refine aw (r_load_agg (l:=zl10) isAgg104 sizeOf104 rfl rfl (fun w1 hw=>cells_mid (pre:=[]) (suf:=(zl1 b132 b133)) (hw.ok (Upd.mem .z)) rfl rfl)) ?_
  refine at_alloc (cs:=zl21) zeroValue104 rfl rfl ?_
  intro b138
  refine aa ?_
  refine sa 3 (zl10) .z rfl rfl sizeOf104 rfl rfl rfl ?_
  refine nt ?_
  refine qs ?_
  refine wq [41,40,39,9,8,5,4,2] ?_
  obtain ⟨h139,hF⟩:=of_guard hF
  refine at_pure (φ:=∃ b o,p4 = some ⟨b,o,none⟩) (fun _ hw=>row_ptr (hw.own (.s (.s (.s (.s (.s .z)))))).row h139) ?_
  rintro ⟨b141,o142,hp140⟩
  refine at_invT [.q 46 (fun g143=>.pointer (some ⟨b138,0 + 1,none⟩)) [] 0 0,.q 47 (fun g143=>.func (.func 137) #[] #[]) [0] 0 0,.q 48 (fun g143=>.slice p4 t3.length c5) [] 0 0,.q 49 (fun g143=>.int .i64 0) [] 0 0,.q 50 (fun g143=>.int .i64 (wr .i64 (0 + 1))) [3] 0 0,.q 51 (fun g143=>.pointer (some ⟨b141,o142 + Int.toNat (wr .i64 (0 + 1)) * 1,none⟩)) [2,4] 0 0,.q 52 (fun g143=>.string (lget t3 (wr .i64 (0 + 1)))) [5] 0 0] (fun g143 s=>match s with | _=>(Wd w0 (cellsE b138 zl10 104::cellsE b134 (zl0 b132 b133) 104::cellsE b133 zl23 133::cellsE b132 zl22 133::cellsE b11 (Cd.cs c_api_Item (zv5,{ zv4 with f_Kind:=t10 })) 33::rowE cStr 9 p4 c5 t3::cellsE b1 (Cd.cs c_api_Item zv6) 33::frzE w0 Z_ s_::G_))) 0 7 (by kernel_rfl) (by kernel_rfl) (by kernel_rfl) (by kernel_rfl) (by kernel_rfl) (by kernel_rfl) ⟨fun _ _ _=>rfl,fun _ _ _=>rfl,fun _ _ _=>rfl,fun _ _ _=>rfl,fun _ _ _=>rfl,fun _ _ _=>rfl,fun _ _ _=>rfl,trivial⟩ (by kernel_rfl) (fun w_ h=>⟨fun _=>g3 0 none 0 none w_,h.drew⟩) ⟨?_,?_,?_,?_,?_,?_,?_,trivial⟩ ?_
  ·intro Lx g143 s K hl hh k
   show At 60 ((2,_)::(4,_)::(5,_)::(8,_)::(9,_)::(39,_)::(40,_)::(41,_)::Lx) _ _
   refine fa 1 underlying104 rfl sizeOf101 ?_
   exact at_nil k
  ·intro Lx g143 s K hl hh k
   show At 60 ((46,_)::(2,_)::(4,_)::(5,_)::(8,_)::(9,_)::(39,_)::(40,_)::(41,_)::Lx) _ _
   obtain rfl : s = 0:=by omega
   refine aw (r_load_cell isAgg101 rfl (fun w1 hw=>cells_get (hw.ok (Upd.mem .z)) 1 _ rfl)) ?_
   exact at_nil k
  ·intro Lx g143 s K hl hh k
   show At 60 ((2,_)::(4,_)::(5,_)::(8,_)::(9,_)::(39,_)::(40,_)::(41,_)::Lx) _ _
   refine am ?_
   exact at_nil k
  ·intro Lx g143 s K hl hh k
   show At 60 ((2,_)::(4,_)::(5,_)::(8,_)::(9,_)::(39,_)::(40,_)::(41,_)::Lx) _ _
   refine am ?_
   exact at_nil k
  ·intro Lx g143 s K hl hh k
   show At 60 ((49,_)::(2,_)::(4,_)::(5,_)::(8,_)::(9,_)::(39,_)::(40,_)::(41,_)::Lx) _ _
   refine aw xa ?_
   exact at_nil k
  ·intro Lx g143 s K hl hh k
   show At 60 ((48,_)::(50,_)::(2,_)::(4,_)::(5,_)::(8,_)::(9,_)::(39,_)::(40,_)::(41,_)::Lx) _ _
   refine aw (r_idx underlying38 sizeOf9 rfl rfl h139 hp140) ?_
   exact at_nil k
  ·intro Lx g143 s K hl hh k
   show At 60 ((51,_)::(2,_)::(4,_)::(5,_)::(8,_)::(9,_)::(39,_)::(40,_)::(41,_)::Lx) _ _
   obtain rfl : s = 0:=by omega
   refine aw (r_load_cell isAgg9 rfl (fun _ hw=>row_cell0 (W:=fun w1=>w1 = _) (fun w1 h=>by subst h; exact Below.refl _ _) (hw.own (.s (.s (.s (.s (.s .z)))))).row h139 hp140 rfl _ rfl)) ?_
   exact at_nil k
  intro g143
  show At 60 [(46,_),(47,_),(48,_),(49,_),(50,_),(51,_),(52,_),(2,_),(4,_),(5,_),(8,_),(9,_),(39,_),(40,_),(41,_)] _ _
  refine at_callee rfl ?_
  refine at_callI func137 rfl (by kernel_rfl) rfl rfl rfl rfl ?_
  refine dz ?_
  refine sr ?_
  refine aa ?_
  refine ns ?_
  refine am ?_
  refine am ?_
  obtain ⟨t144,ht144,hF⟩:=of_bindM hF
  refine at_callB func94 rfl (by kernel_rfl) rfl rfl (fun w hw=>keys_ParseHex_ok _ _ ht144 w) ?_
  refine am ?_
  refine aw xe ?_
  refine aw xe ?_
  refine aw (r_nilCheck rfl) ?_
  refine fa 22 underlying33 rfl sizeOf29 ?_
  refine at_store (c:=(cVec (cInt .u8) 32 (by decide))) (z:=t144.1) (.s (.s (.s .z))) (c_api_Item_f_Key zv5 ({ zv4 with f_Kind:=t10 })) sizeOf29 rfl rfl rfl ?_
  refine aa ?_
  refine ns ?_
  refine am ?_
  refine aa ?_
  refine nwq [4] ?_
  refine qt ?_
  refine at_retI1 rfl rfl ?_
  refine aa ?_
  refine ns ?_
  refine am ?_
  refine aw xn ?_
  refine nwq [55,41,40,39,10,5,4,2] ?_
  rcases oi hF with ⟨h145,hF⟩|⟨h145,hF⟩
  ·refine ct h145 ?_
   refine sr ?_
   refine aw (r_build_struct (zs:=Cd.cs c_api_Item zv6) (cs:=Cd.cs c_api_Item zv6) underlying33 zeroValue33 rfl (places_api_Item_33) rfl rfl) ?_
   refine am ?_
   refine at_store (c:=c_api_Item) (z:=zv6) (.s (.s (.s (.s (.s .z))))) (Lens.whole _ _) sizeOf33 rfl rfl rfl ?_
   refine aa ?_
   refine qn ?_
   refine dz ?_
   refine dz ?_
   refine dz ?_
   refine dz ?_
   refine dz ?_
   refine wq [3,2] ?_
   refine tn ?_
   refine qt ?_
   refine at_blk_ret (at_then_ret (at_then_ret (at_blk_ret (at_then_ret ?_))))
   have hN146 : NK_api_Item (KZ w0 Z_) s_ zv6:=⟨RowK.nil ..,RowK.nil ..⟩
   obtain rfl:=of_some hF
   exact at_res2 rfl (res_cell (c:=c_api_Item) (y:=zv6) rfl .z (Lens.whole _ _) isAgg33 sizeOf33 (.inl rfl)) (res_tmp rfl) (fun w1 hw=>⟨Z_,s_,zv5,hM_,rfl,hN146,hw.pop⟩)
  refine cf h145 ?_
  refine at_skip ?_
  refine at_blk_normal (at_then_normal ?_)
  refine qr ?_
  refine aw xa ?_
  refine at_ov (t:=58) rfl (show Value.int .i64 (wr .i64 (0 + 1)) = .int .i64 1 from by rfl) ?_
  refine am ?_
  refine nt ?_
  refine wq [41,40,39,5,4,2] ?_
  refine at_round ?_
  refine sr ?_
  refine aw xl ?_
  refine at_fix (g:=42) rfl (show (decide (1 < 4)) = true from by decide) ?_
  refine nwq [42,41,40,39,5,4,2] ?_
  refine qs ?_
  refine ct rfl ?_
  refine sn ?_
  refine qs ?_
  refine at_block ?_
  refine sr ?_
  refine am ?_
  refine aw (r_idx underlying96 sizeOf104 rfl rfl (by decide) rfl) ?_
  refine aw (r_load_agg (l:=(zl6 b132)) isAgg104 sizeOf104 rfl rfl (fun w1 hw=>cells_mid (pre:=zl10) (suf:=(zl3 b133)) (hw.ok (Upd.mem .z)) rfl rfl)) ?_
  refine at_alloc (cs:=zl21) zeroValue104 rfl rfl ?_
  intro b147
  refine aa ?_
  refine sa 3 ((zl6 b132)) .z rfl rfl sizeOf104 rfl rfl rfl ?_
  refine nt ?_
  refine qs ?_
  refine wq [41,40,39,9,8,5,4,2] ?_
  obtain ⟨h148,hF⟩:=of_guard hF
  refine at_pure (φ:=∃ b o,p4 = some ⟨b,o,none⟩) (fun _ hw=>row_ptr (hw.own (.s (.s (.s (.s (.s .z)))))).row h148) ?_
  rintro ⟨b150,o151,hp149⟩
  refine at_invT [.q 46 (fun g152=>.pointer (some ⟨b147,0 + 1,none⟩)) [] 0 0,.q 47 (fun g152=>.func (.func 123) #[] #[.pointer (some ⟨b132,0,none⟩)]) [0] 0 0,.q 48 (fun g152=>.slice p4 t3.length c5) [] 0 0,.q 49 (fun g152=>.int .i64 1) [] 0 0,.q 50 (fun g152=>.int .i64 (wr .i64 (1 + 1))) [3] 0 0,.q 51 (fun g152=>.pointer (some ⟨b150,o151 + Int.toNat (wr .i64 (1 + 1)) * 1,none⟩)) [2,4] 0 0,.q 52 (fun g152=>.string (lget t3 (wr .i64 (1 + 1)))) [5] 0 0] (fun g152 s=>match s with | _=>(Wd w0 (cellsE b147 (zl6 b132) 104::cellsE b134 (zl0 b132 b133) 104::cellsE b133 zl23 133::cellsE b132 zl22 133::cellsE b11 (Cd.cs c_api_Item (zv5,{ { zv4 with f_Kind:=t10 } with f_Key:=t144.1 })) 33::rowE cStr 9 p4 c5 t3::cellsE b1 (Cd.cs c_api_Item zv6) 33::frzE w0 Z_ s_::G_))) 0 7 (by kernel_rfl) (by kernel_rfl) (by kernel_rfl) (by kernel_rfl) (by kernel_rfl) (by kernel_rfl) ⟨fun _ _ _=>rfl,fun _ _ _=>rfl,fun _ _ _=>rfl,fun _ _ _=>rfl,fun _ _ _=>rfl,fun _ _ _=>rfl,fun _ _ _=>rfl,trivial⟩ (by kernel_rfl) (fun w_ h=>⟨fun _=>g3 0 none 0 none w_,h.drew⟩) ⟨?_,?_,?_,?_,?_,?_,?_,trivial⟩ ?_
  ·intro Lx g152 s K hl hh k
   show At 60 ((2,_)::(4,_)::(5,_)::(8,_)::(9,_)::(39,_)::(40,_)::(41,_)::Lx) _ _
   refine fa 1 underlying104 rfl sizeOf101 ?_
   exact at_nil k
  ·intro Lx g152 s K hl hh k
   show At 60 ((46,_)::(2,_)::(4,_)::(5,_)::(8,_)::(9,_)::(39,_)::(40,_)::(41,_)::Lx) _ _
   obtain rfl : s = 0:=by omega
   refine aw (r_load_cell isAgg101 rfl (fun w1 hw=>cells_get (hw.ok (Upd.mem .z)) 1 _ rfl)) ?_
   exact at_nil k
  ·intro Lx g152 s K hl hh k
   show At 60 ((2,_)::(4,_)::(5,_)::(8,_)::(9,_)::(39,_)::(40,_)::(41,_)::Lx) _ _
   refine am ?_
   exact at_nil k
  ·intro Lx g152 s K hl hh k
   show At 60 ((2,_)::(4,_)::(5,_)::(8,_)::(9,_)::(39,_)::(40,_)::(41,_)::Lx) _ _
   refine am ?_
   exact at_nil k
  ·intro Lx g152 s K hl hh k
   show At 60 ((49,_)::(2,_)::(4,_)::(5,_)::(8,_)::(9,_)::(39,_)::(40,_)::(41,_)::Lx) _ _
   refine aw xa ?_
   exact at_nil k
  ·intro Lx g152 s K hl hh k
   show At 60 ((48,_)::(50,_)::(2,_)::(4,_)::(5,_)::(8,_)::(9,_)::(39,_)::(40,_)::(41,_)::Lx) _ _
   refine aw (r_idx underlying38 sizeOf9 rfl rfl h148 hp149) ?_
   exact at_nil k
  ·intro Lx g152 s K hl hh k
   show At 60 ((51,_)::(2,_)::(4,_)::(5,_)::(8,_)::(9,_)::(39,_)::(40,_)::(41,_)::Lx) _ _
   obtain rfl : s = 0:=by omega
   refine aw (r_load_cell isAgg9 rfl (fun _ hw=>row_cell0 (W:=fun w1=>w1 = _) (fun w1 h=>by subst h; exact Below.refl _ _) (hw.own (.s (.s (.s (.s (.s .z)))))).row h148 hp149 rfl _ rfl)) ?_
   exact at_nil k
  intro g152
  show At 60 [(46,_),(47,_),(48,_),(49,_),(50,_),(51,_),(52,_),(2,_),(4,_),(5,_),(8,_),(9,_),(39,_),(40,_),(41,_)] _ _
  refine at_calleeC (caps:=[.pointer (some ⟨b132,0,none⟩)]) rfl ?_
  refine at_callI func123 rfl (by kernel_rfl) rfl rfl rfl rfl ?_
  refine dz ?_
  refine sr ?_
  refine aa ?_
  refine ns ?_
  refine am ?_
  obtain ⟨t153,ht153,hF⟩:=of_bindM hF
  refine at_callB func111 rfl (by kernel_rfl) rfl rfl (fun w hw=>decimal_Read_ok _ _ _ ht153 w (hg_strconv_ErrRange.on hw.below) (hg_strconv_ErrSyntax.on hw.below)) ?_
  refine am ?_
  refine aw xe ?_
  refine aw xe ?_
  refine aa ?_
  refine aa ?_
  refine nwx [7,6,2,0] ?_
  refine aw (r_load_cell isAgg133 rfl (fun w1 hw=>cells_get (hw.ok (Upd.mem (.s (.s .z)))) 0 _ rfl)) ?_
  refine am ?_
  refine at_callee rfl ?_
  refine at_callI func76 rfl (by kernel_rfl) rfl rfl rfl rfl ?_
  refine sr ?_
  refine aa ?_
  refine ns ?_
  refine am ?_
  refine aw (r_nilCheck rfl) ?_
  refine fa 54 underlying33 rfl sizeOf30 ?_
  refine aa ?_
  refine nwq [2] ?_
  refine qt ?_
  refine at_retI1 rfl rfl ?_
  refine am ?_
  refine aw (r_conv underlying31 underlying30 rfl) ?_
  refine aw (r_nilCheck rfl) ?_
  refine at_store (c:=(cInt .u32)) (z:=wr .u32 t153.1) (.s (.s (.s .z))) (c_api_Item_f_Local zv5 ({ { zv4 with f_Kind:=t10 } with f_Key:=t144.1 })) sizeOf30 rfl rfl rfl ?_
  refine ns ?_
  refine am ?_
  refine aa ?_
  refine nwq [5] ?_
  refine qt ?_
  refine at_retI1 rfl rfl ?_
  refine aa ?_
  refine ns ?_
  refine am ?_
  refine aw xn ?_
  refine nwq [55,41,40,39,10,5,4,2] ?_
  rcases oi hF with ⟨h154,hF⟩|⟨h154,hF⟩
  ·refine ct h154 ?_
   refine sr ?_
   refine aw (r_build_struct (zs:=Cd.cs c_api_Item zv6) (cs:=Cd.cs c_api_Item zv6) underlying33 zeroValue33 rfl (places_api_Item_33) rfl rfl) ?_
   refine am ?_
   refine at_store (c:=c_api_Item) (z:=zv6) (.s (.s (.s (.s (.s .z))))) (Lens.whole _ _) sizeOf33 rfl rfl rfl ?_
   refine aa ?_
   refine qn ?_
   refine dz ?_
   refine dz ?_
   refine dz ?_
   refine dz ?_
   refine dz ?_
   refine wq [3,2] ?_
   refine tn ?_
   refine qt ?_
   refine at_blk_ret (at_then_ret (at_then_ret (at_blk_ret (at_then_ret ?_))))
   have hN155 : NK_api_Item (KZ w0 Z_) s_ zv6:=⟨RowK.nil ..,RowK.nil ..⟩
   obtain rfl:=of_some hF
   exact at_res2 rfl (res_cell (c:=c_api_Item) (y:=zv6) rfl .z (Lens.whole _ _) isAgg33 sizeOf33 (.inl rfl)) (res_tmp rfl) (fun w1 hw=>⟨Z_,s_,zv5,hM_,rfl,hN155,hw.pop⟩)
  refine cf h154 ?_
  refine at_skip ?_
  refine at_blk_normal (at_then_normal ?_)
  refine qr ?_
  refine aw xa ?_
  refine at_ov (t:=58) rfl (show Value.int .i64 (wr .i64 (1 + 1)) = .int .i64 2 from by rfl) ?_
  refine am ?_
  refine nt ?_
  refine wq [41,40,39,5,4,2] ?_
  refine at_round ?_
  refine sr ?_
  refine aw xl ?_
  refine at_fix (g:=42) rfl (show (decide (2 < 4)) = true from by decide) ?_
  refine nwq [42,41,40,39,5,4,2] ?_
  refine qs ?_
  refine ct rfl ?_
  refine sn ?_
  refine qs ?_
  refine at_block ?_
  refine sr ?_
  refine am ?_
  refine aw (r_idx underlying96 sizeOf104 rfl rfl (by decide) rfl) ?_
  refine aw (r_load_agg (l:=(zl6 b133)) isAgg104 sizeOf104 rfl rfl (fun w1 hw=>cells_mid (pre:=(zl4 b132)) (suf:=zl11) (hw.ok (Upd.mem .z)) rfl rfl)) ?_
  refine at_alloc (cs:=zl21) zeroValue104 rfl rfl ?_
  intro b156
  refine aa ?_
  refine sa 3 ((zl6 b133)) .z rfl rfl sizeOf104 rfl rfl rfl ?_
  refine nt ?_
  refine qs ?_
  refine wq [41,40,39,9,8,5,4,2] ?_
  obtain ⟨h157,hF⟩:=of_guard hF
  refine at_pure (φ:=∃ b o,p4 = some ⟨b,o,none⟩) (fun _ hw=>row_ptr (hw.own (.s (.s (.s (.s (.s .z)))))).row h157) ?_
  rintro ⟨b159,o160,hp158⟩
  refine at_invT [.q 46 (fun g161=>.pointer (some ⟨b156,0 + 1,none⟩)) [] 0 0,.q 47 (fun g161=>.func (.func 123) #[] #[.pointer (some ⟨b133,0,none⟩)]) [0] 0 0,.q 48 (fun g161=>.slice p4 t3.length c5) [] 0 0,.q 49 (fun g161=>.int .i64 2) [] 0 0,.q 50 (fun g161=>.int .i64 (wr .i64 (2 + 1))) [3] 0 0,.q 51 (fun g161=>.pointer (some ⟨b159,o160 + Int.toNat (wr .i64 (2 + 1)) * 1,none⟩)) [2,4] 0 0,.q 52 (fun g161=>.string (lget t3 (wr .i64 (2 + 1)))) [5] 0 0] (fun g161 s=>match s with | _=>(Wd w0 (cellsE b156 (zl6 b133) 104::cellsE b134 (zl0 b132 b133) 104::cellsE b133 zl23 133::cellsE b132 zl22 133::cellsE b11 (Cd.cs c_api_Item (zv5,{ { { zv4 with f_Kind:=t10 } with f_Key:=t144.1 } with f_Local:=wr .u32 t153.1 })) 33::rowE cStr 9 p4 c5 t3::cellsE b1 (Cd.cs c_api_Item zv6) 33::frzE w0 Z_ s_::G_))) 0 7 (by kernel_rfl) (by kernel_rfl) (by kernel_rfl) (by kernel_rfl) (by kernel_rfl) (by kernel_rfl) ⟨fun _ _ _=>rfl,fun _ _ _=>rfl,fun _ _ _=>rfl,fun _ _ _=>rfl,fun _ _ _=>rfl,fun _ _ _=>rfl,fun _ _ _=>rfl,trivial⟩ (by kernel_rfl) (fun w_ h=>⟨fun _=>g3 0 none 0 none w_,h.drew⟩) ⟨?_,?_,?_,?_,?_,?_,?_,trivial⟩ ?_
  ·intro Lx g161 s K hl hh k
   show At 60 ((2,_)::(4,_)::(5,_)::(8,_)::(9,_)::(39,_)::(40,_)::(41,_)::Lx) _ _
   refine fa 1 underlying104 rfl sizeOf101 ?_
   exact at_nil k
  ·intro Lx g161 s K hl hh k
   show At 60 ((46,_)::(2,_)::(4,_)::(5,_)::(8,_)::(9,_)::(39,_)::(40,_)::(41,_)::Lx) _ _
   obtain rfl : s = 0:=by omega
   refine aw (r_load_cell isAgg101 rfl (fun w1 hw=>cells_get (hw.ok (Upd.mem .z)) 1 _ rfl)) ?_
   exact at_nil k
  ·intro Lx g161 s K hl hh k
   show At 60 ((2,_)::(4,_)::(5,_)::(8,_)::(9,_)::(39,_)::(40,_)::(41,_)::Lx) _ _
   refine am ?_
   exact at_nil k
  ·intro Lx g161 s K hl hh k
   show At 60 ((2,_)::(4,_)::(5,_)::(8,_)::(9,_)::(39,_)::(40,_)::(41,_)::Lx) _ _
   refine am ?_
   exact at_nil k
  ·intro Lx g161 s K hl hh k
   show At 60 ((49,_)::(2,_)::(4,_)::(5,_)::(8,_)::(9,_)::(39,_)::(40,_)::(41,_)::Lx) _ _
   refine aw xa ?_
   exact at_nil k
  ·intro Lx g161 s K hl hh k
   show At 60 ((48,_)::(50,_)::(2,_)::(4,_)::(5,_)::(8,_)::(9,_)::(39,_)::(40,_)::(41,_)::Lx) _ _
   refine aw (r_idx underlying38 sizeOf9 rfl rfl h157 hp158) ?_
   exact at_nil k
  ·intro Lx g161 s K hl hh k
   show At 60 ((51,_)::(2,_)::(4,_)::(5,_)::(8,_)::(9,_)::(39,_)::(40,_)::(41,_)::Lx) _ _
   obtain rfl : s = 0:=by omega
   refine aw (r_load_cell isAgg9 rfl (fun _ hw=>row_cell0 (W:=fun w1=>w1 = _) (fun w1 h=>by subst h; exact Below.refl _ _) (hw.own (.s (.s (.s (.s (.s .z)))))).row h157 hp158 rfl _ rfl)) ?_
   exact at_nil k
  intro g161
  show At 60 [(46,_),(47,_),(48,_),(49,_),(50,_),(51,_),(52,_),(2,_),(4,_),(5,_),(8,_),(9,_),(39,_),(40,_),(41,_)] _ _
  refine at_calleeC (caps:=[.pointer (some ⟨b133,0,none⟩)]) rfl ?_
  refine at_callI func123 rfl (by kernel_rfl) rfl rfl rfl rfl ?_
  refine dz ?_
  refine sr ?_
  refine aa ?_
  refine ns ?_
  refine am ?_
  obtain ⟨t162,ht162,hF⟩:=of_bindM hF
  refine at_callB func111 rfl (by kernel_rfl) rfl rfl (fun w hw=>decimal_Read_ok _ _ _ ht162 w (hg_strconv_ErrRange.on hw.below) (hg_strconv_ErrSyntax.on hw.below)) ?_
  refine am ?_
  refine aw xe ?_
  refine aw xe ?_
  refine aa ?_
  refine aa ?_
  refine nwx [7,6,2,0] ?_
  refine aw (r_load_cell isAgg133 rfl (fun w1 hw=>cells_get (hw.ok (Upd.mem (.s .z))) 0 _ rfl)) ?_
  refine am ?_
  refine at_callee rfl ?_
  refine at_callI func77 rfl (by kernel_rfl) rfl rfl rfl rfl ?_
  refine sr ?_
  refine aa ?_
  refine ns ?_
  refine am ?_
  refine aw (r_nilCheck rfl) ?_
  refine fa 55 underlying33 rfl sizeOf30 ?_
  refine aa ?_
  refine nwq [2] ?_
  refine qt ?_
  refine at_retI1 rfl rfl ?_
  refine am ?_
  refine aw (r_conv underlying31 underlying30 rfl) ?_
  refine aw (r_nilCheck rfl) ?_
  refine at_store (c:=(cInt .u32)) (z:=wr .u32 t162.1) (.s (.s (.s .z))) (c_api_Item_f_Remote zv5 ({ { { zv4 with f_Kind:=t10 } with f_Key:=t144.1 } with f_Local:=wr .u32 t153.1 })) sizeOf30 rfl rfl rfl ?_
  refine ns ?_
  refine am ?_
  refine aa ?_
  refine nwq [5] ?_
  refine qt ?_
  refine at_retI1 rfl rfl ?_
  refine aa ?_
  refine ns ?_
  refine am ?_
  refine aw xn ?_
  refine nwq [55,41,40,39,10,5,4,2] ?_
  rcases oi hF with ⟨h163,hF⟩|⟨h163,hF⟩
  ·refine ct h163 ?_
   refine sr ?_
   refine aw (r_build_struct (zs:=Cd.cs c_api_Item zv6) (cs:=Cd.cs c_api_Item zv6) underlying33 zeroValue33 rfl (places_api_Item_33) rfl rfl) ?_
   refine am ?_
   refine at_store (c:=c_api_Item) (z:=zv6) (.s (.s (.s (.s (.s .z))))) (Lens.whole _ _) sizeOf33 rfl rfl rfl ?_
   refine aa ?_
   refine qn ?_
   refine dz ?_
   refine dz ?_
   refine dz ?_
   refine dz ?_
   refine dz ?_
   refine wq [3,2] ?_
   refine tn ?_
   refine qt ?_
   refine at_blk_ret (at_then_ret (at_then_ret (at_blk_ret (at_then_ret ?_))))
   have hN164 : NK_api_Item (KZ w0 Z_) s_ zv6:=⟨RowK.nil ..,RowK.nil ..⟩
   obtain rfl:=of_some hF
   exact at_res2 rfl (res_cell (c:=c_api_Item) (y:=zv6) rfl .z (Lens.whole _ _) isAgg33 sizeOf33 (.inl rfl)) (res_tmp rfl) (fun w1 hw=>⟨Z_,s_,zv5,hM_,rfl,hN164,hw.pop⟩)
  refine cf h163 ?_
  refine at_skip ?_
  refine at_blk_normal (at_then_normal ?_)
  refine qr ?_
  refine aw xa ?_
  refine at_ov (t:=58) rfl (show Value.int .i64 (wr .i64 (2 + 1)) = .int .i64 3 from by rfl) ?_
  refine am ?_
  refine nt ?_
  refine wq [41,40,39,5,4,2] ?_
  refine at_round ?_
  refine sr ?_
  refine aw xl ?_
  refine at_fix (g:=42) rfl (show (decide (3 < 4)) = true from by decide) ?_
  refine nwq [42,41,40,39,5,4,2] ?_
  refine qs ?_
  refine ct rfl ?_
  refine sn ?_
  refine qs ?_
  refine at_block ?_
  refine sr ?_
  refine am ?_
  refine aw (r_idx underlying96 sizeOf104 rfl rfl (by decide) rfl) ?_
  refine aw (r_load_agg (l:=zl11) isAgg104 sizeOf104 rfl rfl (fun w1 hw=>cells_mid (pre:=(zl2 b132 b133)) (suf:=[]) (hw.ok (Upd.mem .z)) rfl rfl)) ?_
  refine at_alloc (cs:=zl21) zeroValue104 rfl rfl ?_
  intro b165
  refine aa ?_
  refine sa 3 (zl11) .z rfl rfl sizeOf104 rfl rfl rfl ?_
  refine nt ?_
  refine qs ?_
  refine wq [41,40,39,9,8,5,4,2] ?_
  obtain ⟨h166,hF⟩:=of_guard hF
  refine at_pure (φ:=∃ b o,p4 = some ⟨b,o,none⟩) (fun _ hw=>row_ptr (hw.own (.s (.s (.s (.s (.s .z)))))).row h166) ?_
  rintro ⟨b168,o169,hp167⟩
  refine at_invT [.q 46 (fun g170=>.pointer (some ⟨b165,0 + 1,none⟩)) [] 0 0,.q 47 (fun g170=>.func (.func 140) #[] #[]) [0] 0 0,.q 48 (fun g170=>.slice p4 t3.length c5) [] 0 0,.q 49 (fun g170=>.int .i64 3) [] 0 0,.q 50 (fun g170=>.int .i64 (wr .i64 (3 + 1))) [3] 0 0,.q 51 (fun g170=>.pointer (some ⟨b168,o169 + Int.toNat (wr .i64 (3 + 1)) * 1,none⟩)) [2,4] 0 0,.q 52 (fun g170=>.string (lget t3 (wr .i64 (3 + 1)))) [5] 0 0] (fun g170 s=>match s with | _=>(Wd w0 (cellsE b165 zl11 104::cellsE b134 (zl0 b132 b133) 104::cellsE b133 zl23 133::cellsE b132 zl22 133::cellsE b11 (Cd.cs c_api_Item (zv5,{ { { { zv4 with f_Kind:=t10 } with f_Key:=t144.1 } with f_Local:=wr .u32 t153.1 } with f_Remote:=wr .u32 t162.1 })) 33::rowE cStr 9 p4 c5 t3::cellsE b1 (Cd.cs c_api_Item zv6) 33::frzE w0 Z_ s_::G_))) 0 7 (by kernel_rfl) (by kernel_rfl) (by kernel_rfl) (by kernel_rfl) (by kernel_rfl) (by kernel_rfl) ⟨fun _ _ _=>rfl,fun _ _ _=>rfl,fun _ _ _=>rfl,fun _ _ _=>rfl,fun _ _ _=>rfl,fun _ _ _=>rfl,fun _ _ _=>rfl,trivial⟩ (by kernel_rfl) (fun w_ h=>⟨fun _=>g3 0 none 0 none w_,h.drew⟩) ⟨?_,?_,?_,?_,?_,?_,?_,trivial⟩ ?_
  ·intro Lx g170 s K hl hh k
   show At 60 ((2,_)::(4,_)::(5,_)::(8,_)::(9,_)::(39,_)::(40,_)::(41,_)::Lx) _ _
   refine fa 1 underlying104 rfl sizeOf101 ?_
   exact at_nil k
  ·intro Lx g170 s K hl hh k
   show At 60 ((46,_)::(2,_)::(4,_)::(5,_)::(8,_)::(9,_)::(39,_)::(40,_)::(41,_)::Lx) _ _
   obtain rfl : s = 0:=by omega
   refine aw (r_load_cell isAgg101 rfl (fun w1 hw=>cells_get (hw.ok (Upd.mem .z)) 1 _ rfl)) ?_
   exact at_nil k
  ·intro Lx g170 s K hl hh k
   show At 60 ((2,_)::(4,_)::(5,_)::(8,_)::(9,_)::(39,_)::(40,_)::(41,_)::Lx) _ _
   refine am ?_
   exact at_nil k
  ·intro Lx g170 s K hl hh k
   show At 60 ((2,_)::(4,_)::(5,_)::(8,_)::(9,_)::(39,_)::(40,_)::(41,_)::Lx) _ _
   refine am ?_
   exact at_nil k
  ·intro Lx g170 s K hl hh k
   show At 60 ((49,_)::(2,_)::(4,_)::(5,_)::(8,_)::(9,_)::(39,_)::(40,_)::(41,_)::Lx) _ _
   refine aw xa ?_
   exact at_nil k
  ·intro Lx g170 s K hl hh k
   show At 60 ((48,_)::(50,_)::(2,_)::(4,_)::(5,_)::(8,_)::(9,_)::(39,_)::(40,_)::(41,_)::Lx) _ _
   refine aw (r_idx underlying38 sizeOf9 rfl rfl h166 hp167) ?_
   exact at_nil k
  ·intro Lx g170 s K hl hh k
   show At 60 ((51,_)::(2,_)::(4,_)::(5,_)::(8,_)::(9,_)::(39,_)::(40,_)::(41,_)::Lx) _ _
   obtain rfl : s = 0:=by omega
   refine aw (r_load_cell isAgg9 rfl (fun _ hw=>row_cell0 (W:=fun w1=>w1 = _) (fun w1 h=>by subst h; exact Below.refl _ _) (hw.own (.s (.s (.s (.s (.s .z)))))).row h166 hp167 rfl _ rfl)) ?_
   exact at_nil k
  intro g170
  show At 60 [(46,_),(47,_),(48,_),(49,_),(50,_),(51,_),(52,_),(2,_),(4,_),(5,_),(8,_),(9,_),(39,_),(40,_),(41,_)] _ _
  refine at_callee rfl ?_
  refine at_callI func140 rfl (by kernel_rfl) rfl rfl rfl rfl ?_
  refine dz ?_
  refine sr ?_
  refine aa ?_
  refine ns ?_
  refine am ?_
  refine am ?_
  obtain ⟨t171,ht171,hF⟩:=of_bindM hF
  refine at_callB func111 rfl (by kernel_rfl) rfl rfl (fun w hw=>decimal_Read_ok _ _ _ ht171 w (hg_strconv_ErrRange.on hw.below) (hg_strconv_ErrSyntax.on hw.below)) ?_
  refine am ?_
  refine aw xe ?_
  refine aw xe ?_
  refine aw (r_nilCheck rfl) ?_
  refine fa 56 underlying33 rfl sizeOf31 ?_
  refine at_store (c:=(cInt .u64)) (z:=t171.1) (.s (.s (.s .z))) (c_api_Item_f_Next zv5 ({ { { { zv4 with f_Kind:=t10 } with f_Key:=t144.1 } with f_Local:=wr .u32 t153.1 } with f_Remote:=wr .u32 t162.1 })) sizeOf31 rfl rfl rfl ?_
  refine aa ?_
  refine ns ?_
  refine am ?_
  refine aa ?_
  refine nwq [4] ?_
  refine qt ?_
  refine at_retI1 rfl rfl ?_
  refine aa ?_
  refine ns ?_
  refine am ?_
  refine aw xn ?_
  refine nwq [55,41,40,39,10,5,4,2] ?_
  rcases oi hF with ⟨h172,hF⟩|⟨h172,hF⟩
  ·refine ct h172 ?_
   refine sr ?_
   refine aw (r_build_struct (zs:=Cd.cs c_api_Item zv6) (cs:=Cd.cs c_api_Item zv6) underlying33 zeroValue33 rfl (places_api_Item_33) rfl rfl) ?_
   refine am ?_
   refine at_store (c:=c_api_Item) (z:=zv6) (.s (.s (.s (.s (.s .z))))) (Lens.whole _ _) sizeOf33 rfl rfl rfl ?_
   refine aa ?_
   refine qn ?_
   refine dz ?_
   refine dz ?_
   refine dz ?_
   refine dz ?_
   refine dz ?_
   refine wq [3,2] ?_
   refine tn ?_
   refine qt ?_
   refine at_blk_ret (at_then_ret (at_then_ret (at_blk_ret (at_then_ret ?_))))
   have hN173 : NK_api_Item (KZ w0 Z_) s_ zv6:=⟨RowK.nil ..,RowK.nil ..⟩
   obtain rfl:=of_some hF
   exact at_res2 rfl (res_cell (c:=c_api_Item) (y:=zv6) rfl .z (Lens.whole _ _) isAgg33 sizeOf33 (.inl rfl)) (res_tmp rfl) (fun w1 hw=>⟨Z_,s_,zv5,hM_,rfl,hN173,hw.pop⟩)
  refine cf h172 ?_
  refine at_skip ?_
  refine at_blk_normal (at_then_normal ?_)
  refine qr ?_
  refine aw xa ?_
  refine at_ov (t:=58) rfl (show Value.int .i64 (wr .i64 (3 + 1)) = .int .i64 4 from by rfl) ?_
  refine am ?_
  refine nt ?_
  refine wq [41,40,39,5,4,2] ?_
  refine at_round ?_
  refine sr ?_
  refine aw xl ?_
  refine at_fix (g:=42) rfl (show (decide (4 < 4)) = false from by decide) ?_
  refine nwq [42,41,40,39,5,4,2] ?_
  refine qs ?_
  refine cf rfl ?_
  refine at_exit ?_
  refine at_then_exit (at_then_exit ?_)
  refine at_blk_same ?_
  refine dz ?_
  refine dz ?_
  refine dz ?_
  refine at_drop (H:=_) (.s .z) ?_
  refine tn ?_
  refine sr ?_
  refine aw (r_load_aggc (c:=c_api_Item) (z:=(zv5,{ { { { { zv4 with f_Kind:=t10 } with f_Key:=t144.1 } with f_Local:=wr .u32 t153.1 } with f_Remote:=wr .u32 t162.1 } with f_Next:=t171.1 })) isAgg33 sizeOf33 rfl (lens_cell .z (Lens.whole _ _))) ?_
  refine at_store (c:=c_api_Item) (z:=(zv5,{ { { { { zv4 with f_Kind:=t10 } with f_Key:=t144.1 } with f_Local:=wr .u32 t153.1 } with f_Remote:=wr .u32 t162.1 } with f_Next:=t171.1 })) (.s .z) (Lens.whole _ _) sizeOf33 rfl rfl rfl ?_
  refine aa ?_
  refine qn ?_
  refine dz ?_
  refine wq [3,2] ?_
  refine tn ?_
  refine qt ?_
  have hN174 : NK_api_Item (KZ w0 Z_) s_ (zv5,{ { { { { zv4 with f_Kind:=t10 } with f_Key:=t144.1 } with f_Local:=wr .u32 t153.1 } with f_Remote:=wr .u32 t162.1 } with f_Next:=t171.1 }):=⟨RowK.nil ..,RowK.nil ..⟩
  obtain rfl:=of_some hF
  exact at_res2 rfl (res_cell (c:=c_api_Item) (y:=(zv5,{ { { { { zv4 with f_Kind:=t10 } with f_Key:=t144.1 } with f_Local:=wr .u32 t153.1 } with f_Remote:=wr .u32 t162.1 } with f_Next:=t171.1 })) rfl .z (Lens.whole _ _) isAgg33 sizeOf33 (.inl rfl)) (res_tmp rfl) (fun w1 hw=>⟨Z_,s_,zv5,hM_,rfl,hN174,hw.pop⟩)
 skip
 rcases oi hF with ⟨h175,hF⟩|⟨h175,hF⟩
 ·skip
  refine script_shapeOf_in5 rfl rfl h12 h31 h50 h86 h131 h175 ?_
  intro b176 b177
  refine am ?_
  refine aw xe ?_
  refine aw xe ?_
  refine at_alloc (cs:=zl20) zeroValue98 rfl rfl ?_
  intro b178
  refine sa 2 ((zl15 b177)) .z rfl rfl sizeOf98 rfl rfl rfl ?_
  refine aa ?_
  refine nwq [7,6,5,4,2] ?_
  refine qs ?_
  refine at_block ?_
  refine sr ?_
  refine am ?_
  refine aw (r_not rfl) ?_
  refine aa ?_
  refine nwq [25,6,5,4,2] ?_
  refine cf rfl ?_
  refine sr ?_
  refine am ?_
  refine aw (r_len_sl underlying38 rfl) ?_
  refine aw (r_isub rfl rfl) ?_
  refine fa 1 underlying98 rfl sizeOf96 ?_
  refine aw (r_load_cell isAgg96 rfl (fun w1 hw=>cells_get (hw.ok (Upd.mem .z)) 1 _ rfl)) ?_
  refine aw (r_len_sl underlying96 rfl) ?_
  refine aw xn ?_
  refine aa ?_
  refine nwq [29,6,5,4,2] ?_
  rcases oi hF with ⟨h179,hF⟩|⟨h179,hF⟩
  ·refine ct h179 ?_
   refine sr ?_
   refine aw (r_build_struct (zs:=Cd.cs c_api_Item zv6) (cs:=Cd.cs c_api_Item zv6) underlying33 zeroValue33 rfl (places_api_Item_33) rfl rfl) ?_
   refine at_store (c:=c_api_Item) (z:=zv6) (.s (.s (.s (.s (.s .z))))) (Lens.whole _ _) sizeOf33 rfl rfl rfl ?_
   refine aa ?_
   refine qn ?_
   refine dz ?_
   refine dz ?_
   refine dz ?_
   refine dz ?_
   refine dz ?_
   refine wq [3,2] ?_
   refine tn ?_
   refine qt ?_
   refine at_blk_ret (at_then_ret ?_)
   have hN180 : NK_api_Item (KZ w0 Z_) s_ zv6:=⟨RowK.nil ..,RowK.nil ..⟩
   obtain rfl:=of_some hF
   exact at_res2 rfl (res_cell (c:=c_api_Item) (y:=zv6) rfl .z (Lens.whole _ _) isAgg33 sizeOf33 (.inl rfl)) (res_tmp rfl) (fun w1 hw=>⟨Z_,s_,zv5,hM_,rfl,hN180,hw.pop⟩)
  refine cf h179 ?_
  refine at_skip ?_
  refine at_blk_normal (at_then_normal ?_)
  refine qs ?_
  refine sr ?_
  refine fa 1 underlying98 rfl sizeOf96 ?_
  refine aw (r_load_cell isAgg96 rfl (fun w1 hw=>cells_get (hw.ok (Upd.mem .z)) 1 _ rfl)) ?_
  refine aw (r_len_sl underlying96 rfl) ?_
  refine am ?_
  refine qn ?_
  refine dz ?_
  refine wq [41,40,39,5,4,2] ?_
  refine tn ?_
  refine at_block ?_
  refine wq [41,40,39,5,4,2] ?_
  refine at_loop ?_
  refine at_round ?_
  refine sr ?_
  refine aw xl ?_
  refine at_fix (g:=42) rfl (show (decide (0 < 1)) = true from by decide) ?_
  refine nwq [42,41,40,39,5,4,2] ?_
  refine qs ?_
  refine ct rfl ?_
  refine sn ?_
  refine qs ?_
  refine at_block ?_
  refine sr ?_
  refine am ?_
  refine aw (r_idx underlying96 sizeOf104 rfl rfl (by decide) rfl) ?_
  refine aw (r_load_agg (l:=(zl6 b176)) isAgg104 sizeOf104 rfl rfl (fun w1 hw=>cells_mid (pre:=[]) (suf:=[]) (hw.ok (Upd.mem .z)) rfl rfl)) ?_
  refine at_alloc (cs:=zl21) zeroValue104 rfl rfl ?_
  intro b181
  refine aa ?_
  refine sa 3 ((zl6 b176)) .z rfl rfl sizeOf104 rfl rfl rfl ?_
  refine nt ?_
  refine qs ?_
  refine wq [41,40,39,9,8,5,4,2] ?_
  obtain ⟨h182,hF⟩:=of_guard hF
  refine at_pure (φ:=∃ b o,p4 = some ⟨b,o,none⟩) (fun _ hw=>row_ptr (hw.own (.s (.s (.s (.s .z))))).row h182) ?_
  rintro ⟨b184,o185,hp183⟩
  refine at_invT [.q 46 (fun g186=>.pointer (some ⟨b181,0 + 1,none⟩)) [] 0 0,.q 47 (fun g186=>.func (.func 123) #[] #[.pointer (some ⟨b176,0,none⟩)]) [0] 0 0,.q 48 (fun g186=>.slice p4 t3.length c5) [] 0 0,.q 49 (fun g186=>.int .i64 0) [] 0 0,.q 50 (fun g186=>.int .i64 (wr .i64 (0 + 1))) [3] 0 0,.q 51 (fun g186=>.pointer (some ⟨b184,o185 + Int.toNat (wr .i64 (0 + 1)) * 1,none⟩)) [2,4] 0 0,.q 52 (fun g186=>.string (lget t3 (wr .i64 (0 + 1)))) [5] 0 0] (fun g186 s=>match s with | _=>(Wd w0 (cellsE b181 (zl6 b176) 104::cellsE b177 (zl6 b176) 104::cellsE b176 zl22 133::cellsE b11 (Cd.cs c_api_Item (zv5,{ zv4 with f_Kind:=t10 })) 33::rowE cStr 9 p4 c5 t3::cellsE b1 (Cd.cs c_api_Item zv6) 33::frzE w0 Z_ s_::G_))) 0 7 (by kernel_rfl) (by kernel_rfl) (by kernel_rfl) (by kernel_rfl) (by kernel_rfl) (by kernel_rfl) ⟨fun _ _ _=>rfl,fun _ _ _=>rfl,fun _ _ _=>rfl,fun _ _ _=>rfl,fun _ _ _=>rfl,fun _ _ _=>rfl,fun _ _ _=>rfl,trivial⟩ (by kernel_rfl) (fun w_ h=>⟨fun _=>g3 0 none 0 none w_,h.drew⟩) ⟨?_,?_,?_,?_,?_,?_,?_,trivial⟩ ?_
  ·intro Lx g186 s K hl hh k
   show At 60 ((2,_)::(4,_)::(5,_)::(8,_)::(9,_)::(39,_)::(40,_)::(41,_)::Lx) _ _
   refine fa 1 underlying104 rfl sizeOf101 ?_
   exact at_nil k
  ·intro Lx g186 s K hl hh k
   show At 60 ((46,_)::(2,_)::(4,_)::(5,_)::(8,_)::(9,_)::(39,_)::(40,_)::(41,_)::Lx) _ _
   obtain rfl : s = 0:=by omega
   refine aw (r_load_cell isAgg101 rfl (fun w1 hw=>cells_get (hw.ok (Upd.mem .z)) 1 _ rfl)) ?_
   exact at_nil k
  ·intro Lx g186 s K hl hh k
   show At 60 ((2,_)::(4,_)::(5,_)::(8,_)::(9,_)::(39,_)::(40,_)::(41,_)::Lx) _ _
   refine am ?_
   exact at_nil k
  ·intro Lx g186 s K hl hh k
   show At 60 ((2,_)::(4,_)::(5,_)::(8,_)::(9,_)::(39,_)::(40,_)::(41,_)::Lx) _ _
   refine am ?_
   exact at_nil k
  ·intro Lx g186 s K hl hh k
   show At 60 ((49,_)::(2,_)::(4,_)::(5,_)::(8,_)::(9,_)::(39,_)::(40,_)::(41,_)::Lx) _ _
   refine aw xa ?_
   exact at_nil k
  ·intro Lx g186 s K hl hh k
   show At 60 ((48,_)::(50,_)::(2,_)::(4,_)::(5,_)::(8,_)::(9,_)::(39,_)::(40,_)::(41,_)::Lx) _ _
   refine aw (r_idx underlying38 sizeOf9 rfl rfl h182 hp183) ?_
   exact at_nil k
  ·intro Lx g186 s K hl hh k
   show At 60 ((51,_)::(2,_)::(4,_)::(5,_)::(8,_)::(9,_)::(39,_)::(40,_)::(41,_)::Lx) _ _
   obtain rfl : s = 0:=by omega
   refine aw (r_load_cell isAgg9 rfl (fun _ hw=>row_cell0 (W:=fun w1=>w1 = _) (fun w1 h=>by subst h; exact Below.refl _ _) (hw.own (.s (.s (.s (.s .z))))).row h182 hp183 rfl _ rfl)) ?_
   exact at_nil k
  intro g186
  show At 60 [(46,_),(47,_),(48,_),(49,_),(50,_),(51,_),(52,_),(2,_),(4,_),(5,_),(8,_),(9,_),(39,_),(40,_),(41,_)] _ _
  refine at_calleeC (caps:=[.pointer (some ⟨b176,0,none⟩)]) rfl ?_
  refine at_callI func123 rfl (by kernel_rfl) rfl rfl rfl rfl ?_
  refine dz ?_
  refine sr ?_
  refine aa ?_
  refine ns ?_
  refine am ?_
  obtain ⟨t187,ht187,hF⟩:=of_bindM hF
  refine at_callB func111 rfl (by kernel_rfl) rfl rfl (fun w hw=>decimal_Read_ok _ _ _ ht187 w (hg_strconv_ErrRange.on hw.below) (hg_strconv_ErrSyntax.on hw.below)) ?_
  refine am ?_
  refine aw xe ?_
  refine aw xe ?_
  refine aa ?_
  refine aa ?_
  refine nwx [7,6,2,0] ?_
  refine aw (r_load_cell isAgg133 rfl (fun w1 hw=>cells_get (hw.ok (Upd.mem (.s .z))) 0 _ rfl)) ?_
  refine am ?_
  refine at_callee rfl ?_
  refine at_callI func76 rfl (by kernel_rfl) rfl rfl rfl rfl ?_
  refine sr ?_
  refine aa ?_
  refine ns ?_
  refine am ?_
  refine aw (r_nilCheck rfl) ?_
  refine fa 54 underlying33 rfl sizeOf30 ?_
  refine aa ?_
  refine nwq [2] ?_
  refine qt ?_
  refine at_retI1 rfl rfl ?_
  refine am ?_
  refine aw (r_conv underlying31 underlying30 rfl) ?_
  refine aw (r_nilCheck rfl) ?_
  refine at_store (c:=(cInt .u32)) (z:=wr .u32 t187.1) (.s (.s .z)) (c_api_Item_f_Local zv5 ({ zv4 with f_Kind:=t10 })) sizeOf30 rfl rfl rfl ?_
  refine ns ?_
  refine am ?_
  refine aa ?_
  refine nwq [5] ?_
  refine qt ?_
  refine at_retI1 rfl rfl ?_
  refine aa ?_
  refine ns ?_
  refine am ?_
  refine aw xn ?_
  refine nwq [55,41,40,39,10,5,4,2] ?_
  rcases oi hF with ⟨h188,hF⟩|⟨h188,hF⟩
  ·refine ct h188 ?_
   refine sr ?_
   refine aw (r_build_struct (zs:=Cd.cs c_api_Item zv6) (cs:=Cd.cs c_api_Item zv6) underlying33 zeroValue33 rfl (places_api_Item_33) rfl rfl) ?_
   refine am ?_
   refine at_store (c:=c_api_Item) (z:=zv6) (.s (.s (.s (.s .z)))) (Lens.whole _ _) sizeOf33 rfl rfl rfl ?_
   refine aa ?_
   refine qn ?_
   refine dz ?_
   refine dz ?_
   refine dz ?_
   refine dz ?_
   refine wq [3,2] ?_
   refine tn ?_
   refine qt ?_
   refine at_blk_ret (at_then_ret (at_then_ret (at_blk_ret (at_then_ret ?_))))
   have hN189 : NK_api_Item (KZ w0 Z_) s_ zv6:=⟨RowK.nil ..,RowK.nil ..⟩
   obtain rfl:=of_some hF
   exact at_res2 rfl (res_cell (c:=c_api_Item) (y:=zv6) rfl .z (Lens.whole _ _) isAgg33 sizeOf33 (.inl rfl)) (res_tmp rfl) (fun w1 hw=>⟨Z_,s_,zv5,hM_,rfl,hN189,hw.pop⟩)
  refine cf h188 ?_
  refine at_skip ?_
  refine at_blk_normal (at_then_normal ?_)
  refine qr ?_
  refine aw xa ?_
  refine at_ov (t:=58) rfl (show Value.int .i64 (wr .i64 (0 + 1)) = .int .i64 1 from by rfl) ?_
  refine am ?_
  refine nt ?_
  refine wq [41,40,39,5,4,2] ?_
  refine at_round ?_
  refine sr ?_
  refine aw xl ?_
  refine at_fix (g:=42) rfl (show (decide (1 < 1)) = false from by decide) ?_
  refine nwq [42,41,40,39,5,4,2] ?_
  refine qs ?_
  refine cf rfl ?_
  refine at_exit ?_
  refine at_then_exit (at_then_exit ?_)
  refine at_blk_same ?_
  refine dz ?_
  refine dz ?_
  refine at_drop (H:=_) (.s .z) ?_
  refine tn ?_
  refine sr ?_
  refine aw (r_load_aggc (c:=c_api_Item) (z:=(zv5,{ { zv4 with f_Kind:=t10 } with f_Local:=wr .u32 t187.1 })) isAgg33 sizeOf33 rfl (lens_cell .z (Lens.whole _ _))) ?_
  refine at_store (c:=c_api_Item) (z:=(zv5,{ { zv4 with f_Kind:=t10 } with f_Local:=wr .u32 t187.1 })) (.s .z) (Lens.whole _ _) sizeOf33 rfl rfl rfl ?_
  refine aa ?_
  refine qn ?_
  refine dz ?_
  refine wq [3,2] ?_
  refine tn ?_
  refine qt ?_
  have hN190 : NK_api_Item (KZ w0 Z_) s_ (zv5,{ { zv4 with f_Kind:=t10 } with f_Local:=wr .u32 t187.1 }):=⟨RowK.nil ..,RowK.nil ..⟩
  obtain rfl:=of_some hF
  exact at_res2 rfl (res_cell (c:=c_api_Item) (y:=(zv5,{ { zv4 with f_Kind:=t10 } with f_Local:=wr .u32 t187.1 })) rfl .z (Lens.whole _ _) isAgg33 sizeOf33 (.inl rfl)) (res_tmp rfl) (fun w1 hw=>⟨Z_,s_,zv5,hM_,rfl,hN190,hw.pop⟩)
 skip
 refine script_shapeOf_in6 rfl rfl h12 h31 h50 h86 h131 h175 ?_
 intro _
 refine am ?_
 refine aw xe ?_
 refine aw xe ?_
 refine at_alloc (cs:=zl20) zeroValue98 rfl rfl ?_
 intro b191
 refine sa 2 (zl20) .z rfl rfl sizeOf98 rfl rfl rfl ?_
 refine aa ?_
 refine nwq [7,6,5,4,2] ?_
 refine qs ?_
 refine at_block ?_
 refine sr ?_
 refine am ?_
 refine aw (r_not rfl) ?_
 refine aa ?_
 refine nwq [25,6,5,4,2] ?_
 refine ct rfl ?_
 refine sr ?_
 refine aw (r_build_struct (zs:=Cd.cs c_api_Item zv6) (cs:=Cd.cs c_api_Item zv6) underlying33 zeroValue33 rfl (places_api_Item_33) rfl rfl) ?_
 refine at_store (c:=c_api_Item) (z:=zv6) (.s (.s (.s .z))) (Lens.whole _ _) sizeOf33 rfl rfl rfl ?_
 refine aa ?_
 refine qn ?_
 refine dz ?_
 refine dz ?_
 refine dz ?_
 refine wq [3,2] ?_
 refine tn ?_
 refine qt ?_
 refine at_blk_ret (at_then_ret ?_)
 have hN192 : NK_api_Item (KZ w0 Z_) s_ zv6:=⟨RowK.nil ..,RowK.nil ..⟩
 obtain rfl:=of_some hF
 exact at_res2 rfl (res_cell (c:=c_api_Item) (y:=zv6) rfl .z (Lens.whole _ _) isAgg33 sizeOf33 (.inl rfl)) (res_tmp rfl) (fun w1 hw=>⟨Z_,s_,zv5,hM_,rfl,hN192,hw.pop⟩)
end Go.Proofs.YtkkmmpofdcccmaaGreatDoor
