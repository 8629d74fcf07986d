/- Texts of this claim, those in one that belong together; printed by a program of this project. -/
import Derived.Test.YtahlbjmafceoeaaProg
import Derived.Test.YtahlbjmafceoeaaKFlatSpans3
set_option linter.unusedVariables false
set_option linter.unusedSimpArgs false
set_option maxRecDepth 20000
namespace Go.Proofs.Ytahlbjmafceoeaa.Agg
open E Go.RowKit Adr Cid
def bf(a b:Sn):Prop:=a.1.1<b.1.1∨(a.1.1=b.1.1∧a.1.2.2<b.1.2.1)
def ltS(V:Int)(x:Nat)(s:Sn):Bool:=ltA V x s.1.1 s.1.2.1
theorem mid_nat{i j:Nat}(h:i+j≤1000000):wr .i64 (ishr .u64 (wr .u64 (wr .i64 ((i:Int)+(j:Int)))) 1)=(((i+j)/2:Nat):Int):=by
 have e:(i:Int)+(j:Int)=((i+j:Nat):Int):=by omega
 rw [e,wr_i64 (x:=((i+j:Nat):Int)) (by omega) (by omega),wr_u64 (by omega) (by omega)]
 have:=ishr_nat .u64 (i+j) 1 (by decide)
 rw [show ((1:Nat):Int)=1 from rfl] at this
 rw [this]
 exact wr_i64 (by omega) (by omega)
theorem get_sN(S:List Sn)(k:Nat)(s:Sn)(h:S[k]? = some s):lget (S.map sN) (k:Int)=sN s:=by
 unfold lget
 rw [Int.toNat_natCast,List.getD_eq_getElem?_getD,List.getElem?_map,h];rfl
theorem search_loop(V:Int)(x:Nat)(hx:x<2 ^ wd V)(S:List Sn)(hS:okS S)(hb:S.Pairwise bf)(hn:S.length≤100000):∀ (f i j:Nat),j-i≤f→i≤j→j≤S.length→(∀ k s,k<i→S[k]? = some s→ltS V x s=false)→(∀ k s,j≤k→S[k]? = some s→ltS V x s=true) →
  ∃ r:Nat,sort_Search__flat_Find_1.l0 (adr V x) (S.map sN) (i:Int) (j:Int)=some (r:Int)∧r≤S.length∧(∀ k s,k<r→S[k]? = some s→ltS V x s=false)∧(∀ k s,r≤k→S[k]? = some s→ltS V x s=true)
 | f,i,j,hf,hij,hj,h1,h2=>by
  rw [sort_Search__flat_Find_1.l0.eq_def]
  by_cases hlt:i<j
  ·rw [decide_eq_true (show (i:Int)<(j:Int) by omega),if_pos rfl,mid_nat (by omega)]
   have hm1:i≤(i+j)/2:=by omega
   have hm2:(i+j)/2<j:=by omega
   generalize (i+j)/2=m at hm1 hm2
   obtain ⟨s,hs⟩:∃ s,S[m]? = some s:=⟨_,List.getElem?_eq_getElem (by omega)⟩
   have hsr:=hS s (List.mem_of_getElem? hs)
   have hle:=hsr.le
   have hlt2:=hsr.lt
   have hin:(0:Int)≤(m:Int)∧(m:Int)<((S.map sN).length:Int):=by rw [List.length_map];omega
   have hcall:flat_Find_1 (m:Int) (adr V x) (S.map sN)=some (ltS V x s):=by
    unfold flat_Find_1
    rw [if_pos hin,get_sN S m s hs]
    have:((sN s).f_Range).f_From=adr s.1.1 s.1.2.1:=rfl
    rw [this,(adr_less hx (show s.1.2.1<2 ^ wd s.1.1 by omega)).1];rfl
   rw [hcall,bindM_some]
   have mono:∀ (k k':Nat) (t t':Sn),k<k'→S[k]? = some t→S[k']? = some t'→ltS V x t=true→ltS V x t'=true:=by
    intro k k' t t' hk ht ht' hlt
    have hbf:bf t t':=by
     have hkl:=(List.getElem?_eq_some_iff.1 ht)
     have hkl':=(List.getElem?_eq_some_iff.1 ht')
     obtain ⟨a1,a2⟩:=hkl
     obtain ⟨b1,b2⟩:=hkl'
     have:=List.pairwise_iff_getElem.1 hb k k' a1 b1 hk
     rw [a2,b2] at this;exact this
    have h9:=(hS t (List.mem_of_getElem? ht)).le
    unfold ltS ltA at hlt ⊢
    unfold bf at hbf
    split at hlt
    ·have:=of_decide_eq_true hlt
     split
     ·exact decide_eq_true (by omega)
     ·exact decide_eq_true (by omega)
    ·have:=of_decide_eq_true hlt
     split
     ·omega
     ·exact decide_eq_true (by omega)
   cases hc:ltS V x s with
   | false =>
    have hw:wr .i64 ((m:Int)+1)=((m+1:Nat):Int):=by rw [wr_i64 (by omega) (by omega)];omega
    rw [if_pos (by decide),hw]
    cases f with
    | zero=>omega
    | succ f =>
     refine search_loop V x hx S hS hb hn f (m+1) j (by omega) (by omega) hj (fun k t hk ht=>?_) h2
     rcases Nat.lt_or_ge k m with h | h
     ·cases ht2:ltS V x t with
      | false=>rfl
      | true=>rw [mono k m t s h ht hs ht2] at hc;cases hc
     ·have:k=m:=by omega
      subst this
      rw [hs] at ht;cases ht;exact hc
   | true =>
    rw [if_neg (by decide)]
    cases f with
    | zero=>omega
    | succ f =>
     refine search_loop V x hx S hS hb hn f i m (by omega) hm1 (by omega) h1 (fun k t hk ht=>?_)
     rcases Nat.lt_or_ge m k with h | h
     ·exact mono m k s t h hs ht hc
     ·have:k=m:=by omega
      subst this
      rw [hs] at ht;cases ht;exact hc
  ·have:i=j:=by omega
   subst this
   rw [decide_eq_false (by omega),if_neg Bool.false_ne_true]
   exact ⟨i,rfl,hj,h1,h2⟩
theorem findS_code{V:Int}(hf:fam V){x:Nat}(hx:x<2 ^ wd V)(S:List Sn)(hS:okS S)(hb:S.Pairwise bf)(hn:S.length≤100000) :
  (∃ s∈S,inR V x s.1∧flat_Find (S.map sN) (adr V x)=some (s.2,true))∨((∀ s∈S,¬ inR V x s.1)∧flat_Find (S.map sN) (adr V x)=some (0,false)):=by
 obtain ⟨r,h1,h2,h3,h4⟩:=search_loop V x hx S hS hb hn S.length 0 S.length (by omega) (Nat.zero_le _) (Nat.le_refl _) (fun k s hk=>by omega) (fun k s hk hs=>by
  have:=(List.getElem?_eq_some_iff.1 hs).1
  omega)
 have hml:(S.map sN).length=S.length:=List.length_map ..
 unfold flat_Find sort_Search__flat_Find_1
 rw [(adr_right hf x).1,bindM_some,if_neg (by decide),hml]
 have h1:sort_Search__flat_Find_1.l0 (adr V x) (S.map sN) 0 (S.length:Int)=some (r:Int):=h1
 rw [h1,bindM_some,bindM_some]
 have hw:wr .i64 ((r:Int)-1)=(r:Int)-1:=wr_i64 (by omega) (by omega)
 rw [hw]
 have hno:∀ k s,r≤k→S[k]? = some s→¬ inR V x s.1:=fun k s hk hs hin=>by
  have:=h4 k s hk hs
  unfold ltS ltA at this
  unfold inR at hin
  split at this
  ·have:=of_decide_eq_true this;omega
  ·omega
 cases r with
 | zero =>
  right
  refine ⟨fun s hs=>?_,?_⟩
  ·obtain ⟨k,hk⟩:=List.mem_iff_getElem?.1 hs
   exact hno k s (Nat.zero_le _) hk
  ·rw [decide_eq_true (by omega),if_pos rfl]
 | succ m =>
  obtain ⟨s,hs⟩:∃ s,S[m]? = some s:=⟨_,List.getElem?_eq_getElem (by omega)⟩
  have hsm:=List.mem_of_getElem? hs
  have hsr:=hS s hsm
  have hle:=hsr.le
  have hf3:=h3 m s (by omega) hs
  have e1:((m+1:Nat):Int)-1=(m:Int):=by omega
  have hin:(0:Int)≤(m:Int)∧(m:Int)<(S.length:Int):=by omega
  rw [e1,decide_eq_false (by omega),if_neg Bool.false_ne_true,if_pos hin,get_sN S m s hs,if_pos hin,if_pos hin]
  have hV:(((sN s).f_Range).f_From).f_V=s.1.1:=rfl
  have hV2:(adr V x).f_V=V:=rfl
  have hto:((sN s).f_Range).f_To=adr s.1.1 s.1.2.2:=rfl
  rw [hV,hV2,hto,(adr_less hsr.lt hx).1,bindM_some]
  have hearlier:∀ k t,k<m→S[k]? = some t→bf t s:=fun k t hk ht=>by
   obtain ⟨a1,a2⟩:=List.getElem?_eq_some_iff.1 ht
   obtain ⟨b1,b2⟩:=List.getElem?_eq_some_iff.1 hs
   have:=List.pairwise_iff_getElem.1 hb k m a1 b1 hk
   rw [a2,b2] at this;exact this
  have hall:¬ inR V x s.1→∀ t∈S,¬ inR V x t.1:=fun hns t ht=>by
   obtain ⟨k,hk⟩:=List.mem_iff_getElem?.1 ht
   rcases Nat.lt_trichotomy k m with h | h | h
   ·have h5:=hearlier k t h hk
    intro hin2
    unfold ltS ltA at hf3
    unfold bf at h5
    unfold inR at hin2 hns
    split at hf3
    ·have:=of_decide_eq_false hf3;omega
    ·have:=of_decide_eq_false hf3;omega
   ·subst h
    rw [hs] at hk;cases hk;exact hns
   ·exact hno k t (by omega) hk
  by_cases hVV:s.1.1=V
  ·have:(s.1.1 != V)=false:=by simpa using hVV
   rw [this,if_neg Bool.false_ne_true]
   unfold ltA
   rw [if_pos hVV]
   have hge:s.1.2.1≤x:=by
    unfold ltS ltA at hf3
    rw [if_pos hVV.symm] at hf3
    have:=of_decide_eq_false hf3
    omega
   by_cases hend:s.1.2.2<x
   ·right
    rw [decide_eq_true hend,if_pos rfl]
    exact ⟨hall (fun h=>by unfold inR at h;omega),rfl⟩
   ·left
    rw [decide_eq_false hend,if_neg Bool.false_ne_true]
    exact ⟨s,hsm,⟨hVV.symm,hge,by omega⟩,rfl⟩
  ·have:(s.1.1 != V)=true:=by simpa using hVV
   right
   rw [this,if_pos rfl]
   exact ⟨hall (fun h=>hVV h.1.symm),rfl⟩
theorem findS_wrong{V:Int}{k:List UInt8}(hk:k.length=16)(h:rightL V k=false)(S:List S_flat_Span):flat_Find S (mkA V k)=some (0,false):=by
 unfold flat_Find
 rw [right_code hk,bindM_some,h];rfl
theorem t0:Good (4,167772160,24):=⟨.inl rfl,by decide,by decide,by decide⟩
def exT:List En:=[((4,167772160,24),1),((4,167772160,23),2)]
theorem ex_good:∀ e∈exT,Good e.1:=fun e he=>by
 rcases List.mem_cons.1 he with rfl | he
 ·exact t0
 ·rw [List.mem_singleton.1 he];exact g0
theorem ex_eq:[crawlwaylaw59_alive.e0,crawlwaylaw59_alive.e1]=exT.map en:=by decide +kernel
theorem ex_sorted:Sorted (exT.map en):=by
 refine ⟨fun x hx=>?_,?_,?_⟩
 ·obtain ⟨e,he,rfl⟩:=List.mem_map.1 hx
  exact ⟨e.1,ex_good e he,rfl⟩
 ·refine List.pairwise_cons.2 ⟨fun y hy=>?_,List.pairwise_singleton _ _⟩
  rw [List.mem_singleton.1 hy]
  show lessP (prf 4 167772160 23) (prf 4 167772160 24)=false
  rw [lessP_prf g0.lt t0.lt];decide
 ·show (List.map S_api_Entry.f_P (exT.map en)).Nodup
  refine List.nodup_cons.2 ⟨fun h=>?_,List.nodup_cons.2 ⟨by simp,List.nodup_nil⟩⟩
  have:=pf_inj t0 g0 (List.mem_singleton.1 h)
  cases this
theorem ex_of:ofM exT=[((4,176160768,184549375),1),((4,167772160,176160767),2)]:=by decide +kernel
theorem alive59:crawlwaylaw59_alive=some true:=by
 have hc:=counts_self ex_sorted (by decide) ex_sorted.okL
 obtain ⟨h1,h2,h3⟩:=flatOf_code (exT.map en) exT ex_good (by decide) hc.code
 unfold crawlwaylaw59_alive
 rw [ex_eq,h1,bindM_some]
 have ha:({ { ({ f_V:=(0:Int),f_B:=(Vector.replicate 16 (0:Int):(Vector Int 16)) }:S_api_Addr) with f_V:=4 } with f_B:=vset (Vector.replicate 16 (0:Int):(Vector Int 16)) 0 10 }:S_api_Addr)=adr 4 167772160:=by decide +kernel
 rw [ha]
 rw [ex_of] at h2 ⊢
 have hS:okS ([((4,176160768,184549375),1),((4,167772160,176160767),2)]:List Sn).reverse:=fun s hs=>h2 s (List.mem_reverse.1 hs)
 have hb:(([((4,176160768,184549375),1),((4,167772160,176160767),2)]:List Sn).reverse).Pairwise bf:=by
  refine List.pairwise_cons.2 ⟨fun y hy=>?_,List.pairwise_singleton _ _⟩
  rw [List.mem_singleton.1 hy]
  right;decide
 rcases findS_code (.inl rfl:fam 4) (x:=167772160) (by decide) _ hS hb (by decide) with ⟨s,hs,hin,hr⟩ | ⟨hno,_⟩
 ·rw [hr,bindM_some]
  have hs2:s.2=2:=by
   rcases List.mem_cons.1 hs with rfl | hs
   ·rfl
   ·rw [List.mem_singleton.1 hs] at hin
    unfold inR at hin
    simp at hin
  rw [hs2]
  rfl
 ·exact absurd (show inR 4 167772160 ((4,167772160,176160767):Rg) from ⟨rfl,by decide,by decide⟩) (hno ((4,167772160,176160767),2) (by simp))
theorem alive_then59:(crawlwaylaw59_alive>>=fun t=>some t)=some true:=by rw [alive59];rfl
end Go.Proofs.Ytahlbjmafceoeaa.Agg
namespace Go.Proofs.Ytahlbjmafceoeaa.Agg
open E Go.RowKit Adr Cid
def cn(a b:Sn):Prop:=a.1.1<b.1.1∨(a.1.1=b.1.1∧(a.1.2.2+1<b.1.2.1∨(a.1.2.2+1=b.1.2.1∧a.2≠b.2)))
def covS(S:List Sn)(W:Int)(x:Nat)(o:Int):Prop:=∃ s∈S,inR W x s.1∧s.2=o
def OwnL(A:List En)(W:Int)(x:Nat)(o:Int):Prop:=∃ m∈A,inP W x m.1∧m.2=o∧∀ m'∈A,inP W x m'.1→bitsOf m'≤bitsOf m
def bfr(V:Int)(p:Nat)(W:Int)(x:Nat):Prop:=W<V∨(W=V∧x<p)
theorem covS_addS{rv:List Sn}{s:Sn}(hrv:okS rv)(hs:GoodR s.1)(W:Int)(x:Nat)(o:Int):covS (addS rv s) W x o↔covS rv W x o∨(inR W x s.1∧s.2=o):=by
 cases rv with
 | nil =>
  show covS [s] W x o↔_
  unfold covS
  simp
 | cons q rest =>
  rw [addS_cons]
  split
  ·next hc =>
   have hq:=(hrv q (List.mem_cons_self ..)).le
   have h1:=hs.le
   have hiff:(inR W x (q.1.1,q.1.2.1,s.1.2.2)∧q.2=o)↔(inR W x q.1∧q.2=o)∨(inR W x s.1∧s.2=o):=by
    unfold inR
    simp only
    omega
   constructor
   ·rintro ⟨t,ht,h⟩
    rcases List.mem_cons.1 ht with rfl | ht
    ·rcases hiff.1 h with h | h
     ·exact .inl ⟨q,List.mem_cons_self ..,h⟩
     ·exact .inr h
    ·exact .inl ⟨t,List.mem_cons_of_mem _ ht,h⟩
   ·rintro (⟨t,ht,h⟩ | h)
    ·rcases List.mem_cons.1 ht with rfl | ht
     ·exact ⟨_,List.mem_cons_self ..,hiff.2 (.inl h)⟩
     ·exact ⟨t,List.mem_cons_of_mem _ ht,h⟩
    ·exact ⟨_,List.mem_cons_self ..,hiff.2 (.inr h)⟩
  ·constructor
   ·rintro ⟨t,ht,h⟩
    rcases List.mem_cons.1 ht with rfl | ht
    ·exact .inr h
    ·exact .inl ⟨t,ht,h⟩
   ·rintro (⟨t,ht,h⟩ | h)
    ·exact ⟨t,List.mem_cons_of_mem _ ht,h⟩
    ·exact ⟨s,List.mem_cons_self ..,h⟩
structure Sp (rv:List Sn) (V:Int) (p:Nat):Prop where
 ok:okS rv
 bef:∀ s∈rv,s.1.1<V∨(s.1.1=V∧s.1.2.2<p)
 cn:rv.Pairwise fun b a=>cn a b
theorem Sp.mono{rv:List Sn}{V V':Int}{p p':Nat}(h:Sp rv V p)(hp:V<V'∨(V=V'∧p≤p')):Sp rv V' p':=⟨h.ok,fun s hs=>by have:=h.bef s hs;omega,h.cn⟩
theorem Sp.add{rv:List Sn}{V:Int}{p M:Nat}{o:Int}(h:Sp rv V p)(hV:fam V)(hp:p≤M)(hM:M<2 ^ wd V):Sp (addS rv ((V,p,M),o)) V (M+1):=by
 refine ⟨addS_ok h.ok ⟨hV,hp,hM⟩,?_,?_⟩
 ·intro s hs
  cases rv with
  | nil =>
   have hs:s∈[((V,p,M),o)]:=hs
   rw [List.mem_singleton.1 hs]
   exact .inr ⟨rfl,Nat.lt_succ_self M⟩
  | cons q rest =>
   rw [addS_cons] at hs
   split at hs
   ·next hc =>
    rcases List.mem_cons.1 hs with rfl | hs
    ·exact .inr ⟨hc.2.1,Nat.lt_succ_self M⟩
    ·have:=h.bef s (List.mem_cons_of_mem _ hs);omega
   ·rcases List.mem_cons.1 hs with rfl | hs
    ·exact .inr ⟨rfl,Nat.lt_succ_self M⟩
    ·have:=h.bef s hs;omega
 ·cases rv with
  | nil=>exact List.pairwise_singleton _ _
  | cons q rest =>
   obtain ⟨c1,c2⟩:=List.pairwise_cons.1 h.cn
   rw [addS_cons]
   split
   ·exact List.pairwise_cons.2 ⟨fun r hr=>c1 r hr,c2⟩
   ·next hc =>
    have hq:=h.bef q (List.mem_cons_self ..)
    have hqs:Agg.cn q ((V,p,M),o):=by
     unfold Agg.cn
     simp only at hc ⊢
     omega
    refine List.pairwise_cons.2 ⟨fun r hr=>?_,h.cn⟩
    rcases List.mem_cons.1 hr with rfl | hr
    ·exact hqs
    ·have h1:=c1 r hr
     have h2:=(h.ok q (List.mem_cons_self ..)).le
     unfold Agg.cn at h1 hqs ⊢
     simp only at hqs ⊢
     omega
def posA(V:Int):Option Nat→Nat
 | none=>2 ^ wd V
 | some N=>N
theorem posA_nx{V:Int}{M:Nat}(h:M<2 ^ wd V):posA V (nxO V M)=M+1:=by
 unfold nxO
 split
 ·rfl
 ·show 2 ^ wd V=M+1;omega
theorem putM_pos{rv:List Sn}{e:En}{a:Option Nat}{M:Nat}(ha:okAt e.1.1 a)(hM:M<2 ^ wd e.1.1) :
  (putM rv e a M).1=(if M<posA e.1.1 a then rv else addS rv ((e.1.1,posA e.1.1 a,M),e.2))∧posA e.1.1 (putM rv e a M).2=(if M<posA e.1.1 a then posA e.1.1 a else M+1):=by
 cases a with
 | none =>
  have h1:M<posA e.1.1 none:=hM
  rw [if_pos h1,if_pos h1];exact ⟨rfl,rfl⟩
 | some N =>
  rw [putM_some]
  by_cases h:M<N
  ·have h1:M<posA e.1.1 (some N):=h
   rw [if_pos h,if_pos h1,if_pos h1];exact ⟨rfl,rfl⟩
  ·have h1:¬ M<posA e.1.1 (some N):=h
   rw [if_neg h,if_neg h1,if_neg h1];exact ⟨rfl,posA_nx hM⟩
structure St (A:List En) (rv:List Sn) (stk:List En) (V:Int) (p:Nat):Prop where
 mem:∀ t∈stk,t∈A∧t.1.1=V
 chain:stk.Pairwise fun t u=>cont u.1 t.1
 inp:∀ t∈stk,t.1.2.1≤p
 fin:∀ m∈A,m∈stk∨(m.1.1<V∨(m.1.1=V∧endT m.1<p))
 sp:Sp rv V p
 cov:∀ W x o,covS rv W x o↔bfr V p W x∧OwnL A W x o
theorem own_top{A:List En}(hA:∀ e∈A,Good e.1)(hnd:(A.map Prod.fst).Nodup){rv:List Sn}{t:En}{stk:List En}{V:Int}{p:Nat}(h:St A rv (t::stk) V p){x:Nat}(h1:p≤x)(h2:x≤endT t.1)(o:Int):OwnL A V x o↔t.2=o:=by
 obtain ⟨htA,htV⟩:=h.mem t (List.mem_cons_self ..)
 have htp:=h.inp t (List.mem_cons_self ..)
 have hin:inP V x t.1:=⟨htV.symm,by omega,h2⟩
 have hbest:∀ m∈A,inP V x m.1→bitsOf m≤bitsOf t:=fun m hm hmx=>by
  rcases h.fin m hm with hs | hs
  ·rcases List.mem_cons.1 hs with rfl | hs
   ·exact Nat.le_refl _
   ·have hc:=(List.pairwise_cons.1 h.chain).1 m hs
    exact (bits_k (hA m hm) (hA t htA) hc.1.symm).2 hc.2.1
  ·unfold inP at hmx;omega
 constructor
 ·rintro ⟨m,hm,hmx,ho,hb⟩
  have h3:=hb t htA hin
  have h4:=hbest m hm hmx
  rw [←ho,same_of hA hnd hm htA hmx hin (by omega)]
 ·intro ho
  exact ⟨t,htA,hin,ho,hbest⟩
theorem St.put{A:List En}(hA:∀ e∈A,Good e.1)(hnd:(A.map Prod.fst).Nodup){rv:List Sn}{t:En}{stk:List En}{V:Int}{p M:Nat}(h:St A rv (t::stk) V p)(hM:M≤endT t.1) :
  St A (if M<p then rv else addS rv ((V,p,M),t.2)) (t::stk) V (if M<p then p else M+1):=by
 by_cases hlt:M<p
 ·rw [if_pos hlt,if_pos hlt];exact h
 ·rw [if_neg hlt,if_neg hlt]
  obtain ⟨htA,htV⟩:=h.mem t (List.mem_cons_self ..)
  have hg:=hA t htA
  have hfam:fam V:=by rw [←htV];exact hg.fam
  have hend:M<2 ^ wd V:=by have:=hg.end_lt;rw [htV] at this;omega
  refine ⟨h.mem,h.chain,fun u hu=>by have:=h.inp u hu;omega,fun m hm=>?_,h.sp.add hfam (by omega) hend,fun W x o=>?_⟩
  ·rcases h.fin m hm with hs | hs
   ·exact .inl hs
   ·right;omega
  ·rw [covS_addS h.sp.ok ⟨hfam,by show p≤M;omega,hend⟩,h.cov]
   constructor
   ·rintro (⟨h1,h2⟩ | ⟨h1,h2⟩)
    ·exact ⟨by unfold bfr at *;omega,h2⟩
    ·have h1:W=V∧p≤x∧x≤M:=h1
     obtain ⟨rfl,h3,h4⟩:=h1
     exact ⟨.inr ⟨rfl,by omega⟩,(own_top hA hnd h h3 (by omega) o).2 h2⟩
   ·rintro ⟨h1,h2⟩
    by_cases hb:bfr V p W x
    ·exact .inl ⟨hb,h2⟩
    ·have h3:W=V∧p≤x∧x≤M:=by unfold bfr at h1 hb;omega
     obtain ⟨rfl,h4,h5⟩:=h3
     exact .inr ⟨⟨rfl,h4,h5⟩,(own_top hA hnd h h4 (by omega) o).1 h2⟩
theorem St.pop{A:List En}{rv:List Sn}{t:En}{stk:List En}{V:Int}{p:Nat}(h:St A rv (t::stk) V p)(hend:endT t.1<p):St A rv stk V p:=by
 refine ⟨fun u hu=>h.mem u (List.mem_cons_of_mem _ hu),(List.pairwise_cons.1 h.chain).2,fun u hu=>h.inp u (List.mem_cons_of_mem _ hu),fun m hm=>?_,h.sp,h.cov⟩
 rcases h.fin m hm with hs | hs
 ·rcases List.mem_cons.1 hs with rfl | hs
  ·exact .inr (.inr ⟨(h.mem m (List.mem_cons_self ..)).2,hend⟩)
  ·exact .inl hs
 ·exact .inr hs
theorem St.close{A:List En}(hA:∀ e∈A,Good e.1)(hnd:(A.map Prod.fst).Nodup)(q:En→Bool)(V:Int):∀ (stk:List En) (rv:List Sn) (a:Option Nat),okAt V a→St A rv stk V (posA V a) →
  St A (closeM q rv stk a).1 (closeM q rv stk a).2.1 V (posA V (closeM q rv stk a).2.2)∧okAt V (closeM q rv stk a).2.2∧∀ lim,posA V a≤lim→(∀ t∈stk,q t=false→endT t.1<lim)→posA V (closeM q rv stk a).2.2≤lim
 | [],rv,a,ha,h=>⟨h,ha,fun lim h1 _=>h1⟩
 | t::stk,rv,a,ha,h=>by
  rw [closeM_cons]
  cases hq:q t with
  | true=>rw [if_pos rfl];exact ⟨h,ha,fun lim h1 _=>h1⟩
  | false =>
   rw [if_neg Bool.false_ne_true]
   obtain ⟨htA,htV⟩:=h.mem t (List.mem_cons_self ..)
   have hg:=hA t htA
   have hend:endT t.1<2 ^ wd V:=by rw [←htV];exact hg.end_lt
   have hp:=putM_pos (rv:=rv) (e:=t) (a:=a) (M:=endT t.1) (by rw [htV];exact ha) (by rw [htV];exact hend)
   have hs:=h.put hA hnd (Nat.le_refl (endT t.1))
   rw [htV] at hp
   rw [←hp.1,←hp.2] at hs
   have hpost:endT t.1<posA V (putM rv t a (endT t.1)).2:=by rw [hp.2];split<;>omega
   obtain ⟨_,ha',_⟩:=putM_ok (M:=endT t.1) h.sp.ok hg htV ha hend
   obtain ⟨c1,c2,c3⟩:=St.close hA hnd q V stk _ _ ha' (hs.pop hpost)
   refine ⟨c1,c2,fun lim h1 h2=>c3 lim ?_ fun u hu=>h2 u (List.mem_cons_of_mem _ hu)⟩
   rw [hp.2]
   have:=h2 t (List.mem_cons_self ..) hq
   split<;>omega
theorem nodup_sub{A B:List En}(h:((A++B).map Prod.fst).Nodup):(A.map Prod.fst).Nodup:=by
 rw [List.map_append] at h
 exact (List.nodup_append.1 h).1
def before(t u:Tr):Prop:=t.1<u.1∨(t.1=u.1∧(t.2.1<u.2.1∨(t.2.1=u.2.1∧u.2.2<t.2.2)))
theorem not_cont{t u:Tr}(ht:Good t)(hu:Good u)(hb:before t u)(hc:¬ cont t u)(hV:t.1=u.1):endT t<u.2.1:=by
 rcases Nat.lt_or_ge (endT t) u.2.1 with h | h
 ·exact h
 ·exfalso
  unfold before at hb
  have h1:t.2.1≤u.2.1:=by omega
  rcases Nat.le_total u.2.2 t.2.2 with hk | hk
  ·exact hc ⟨hV.symm,hk,h1,h⟩
  ·have h2:=(nest hu ht hV hk (Nat.le_refl _) (le_endT u) h1 h).1
   have h3:u.2.1≤t.2.1:=h2.2.2.1
   omega
theorem St.step{A:List En}{e:En}(hA:∀ t∈A++[e],Good t.1)(hnd:((A++[e]).map Prod.fst).Nodup)(hb:∀ t∈A,before t.1 e.1){rv:List Sn}{stk:List En}{V:Int}{a:Option Nat}(ha:okAt V a)(h:St A rv stk V (posA V a))(hpos:V<e.1.1∨(V=e.1.1∧posA V a≤e.1.2.1)) :
  St (A++[e]) (stepO (rv,stk,a) e).1 (stepO (rv,stk,a) e).2.1 e.1.1 (posA e.1.1 (stepO (rv,stk,a) e).2.2):=by
 have hA1:∀ t∈A,Good t.1:=fun t ht=>hA t (List.mem_append_left _ ht)
 have hnd1:=nodup_sub hnd
 have he:Good e.1:=hA e (by simp)
 have hcl:=St.close hA1 hnd1 (fun t=>decide (cont t.1 e.1)) V stk rv a ha h
 obtain ⟨_,_,w3⟩:=closeM_way (V:=V) (fun t=>decide (cont t.1 e.1)) stk rv a ⟨h.sp.ok,fun t ht=>⟨hA1 t (h.mem t ht).1,(h.mem t ht).2⟩,ha⟩
 generalize hc:closeM (fun t=>decide (cont t.1 e.1)) rv stk a=c at hcl w3
 obtain ⟨rv1,stk1,a1⟩:=c
 rw [stepO_eq hc]
 simp only at hcl w3 ⊢
 obtain ⟨c1,c2,c3⟩:=hcl
 have hlim:V=e.1.1→posA V a1≤e.1.2.1:=fun hVe=>c3 e.1.2.1 (by omega) fun t ht hq=>by
  have hm:=h.mem t ht
  exact not_cont (hA1 t hm.1) he (hb t hm.1) (of_decide_eq_false hq) (hm.2.trans hVe)
 have push:∀ (rv2:List Sn) (p2:Nat),St A rv2 stk1 V p2→(V<e.1.1∨(V=e.1.1∧p2≤e.1.2.1))→(stk1≠[]→V=e.1.1∧p2=e.1.2.1)→St (A++[e]) rv2 (e::stk1) e.1.1 e.1.2.1:=by
  intro rv2 p2 hs hp2 hne
  have hcont:∀ u∈stk1,cont u.1 e.1:=by
   cases stk1 with
   | nil=>intro u hu;cases hu
   | cons t stk2 =>
    have ht:cont t.1 e.1:=of_decide_eq_true (w3 t rfl)
    intro u hu
    rcases List.mem_cons.1 hu with rfl | hu
    ·exact ht
    ·exact cont_trans (hA1 u (hs.mem u (List.mem_cons_of_mem _ hu)).1) (hA1 t (hs.mem t (List.mem_cons_self ..)).1) ((List.pairwise_cons.1 hs.chain).1 u hu) ht
  refine ⟨fun u hu=>?_,List.pairwise_cons.2 ⟨hcont,hs.chain⟩,fun u hu=>?_,fun m hm=>?_,hs.sp.mono hp2,fun W x o=>?_⟩
  ·rcases List.mem_cons.1 hu with rfl | hu
   ·exact ⟨by simp,rfl⟩
   ·exact ⟨List.mem_append_left _ (hs.mem u hu).1,(hcont u hu).1.symm⟩
  ·rcases List.mem_cons.1 hu with rfl | hu
   ·exact Nat.le_refl _
   ·exact (hcont u hu).2.2.1
  ·rcases List.mem_append.1 hm with hm | hm
   ·rcases hs.fin m hm with h1 | h1
    ·exact .inl (List.mem_cons_of_mem _ h1)
    ·right;omega
   ·rw [List.mem_singleton.1 hm]
    exact .inl (List.mem_cons_self ..)
  ·rw [hs.cov]
   have hnew:bfr e.1.1 e.1.2.1 W x→(OwnL (A++[e]) W x o↔OwnL A W x o):=fun hbf=>by
    have hne2:¬ inP W x e.1:=fun h9=>by unfold inP at h9;unfold bfr at hbf;omega
    constructor
    ·rintro ⟨m,hm,h1,h2,h3⟩
     rcases List.mem_append.1 hm with hm | hm
     ·exact ⟨m,hm,h1,h2,fun m' hm'=>h3 m' (List.mem_append_left _ hm')⟩
     ·rw [List.mem_singleton.1 hm] at h1
      exact absurd h1 hne2
    ·rintro ⟨m,hm,h1,h2,h3⟩
     refine ⟨m,List.mem_append_left _ hm,h1,h2,fun m' hm' h4=>?_⟩
     rcases List.mem_append.1 hm' with hm' | hm'
     ·exact h3 m' hm' h4
     ·rw [List.mem_singleton.1 hm'] at h4
      exact absurd h4 hne2
   constructor
   ·rintro ⟨h1,h2⟩
    have h3:bfr e.1.1 e.1.2.1 W x:=by unfold bfr at *;omega
    exact ⟨h3,(hnew h3).2 h2⟩
   ·rintro ⟨h1,h2⟩
    have h2:=(hnew h1).1 h2
    refine ⟨?_,h2⟩
    obtain ⟨m,hm,hmx,_,_⟩:=h2
    rcases hs.fin m hm with h4 | h4
    ·have hne':stk1≠[]:=fun ee=>by rw [ee] at h4;cases h4
     obtain ⟨e1,e2⟩:=hne hne'
     rw [e1,e2];exact h1
    ·unfold inP at hmx
     unfold bfr
     omega
 show St (A++[e]) (midO rv1 a1 e.1.2.1 stk1) (e::stk1) e.1.1 e.1.2.1
 cases stk1 with
 | nil =>
  refine push rv1 (posA V a1) c1 ?_ (fun hne=>absurd rfl hne)
  rcases hpos with h1 | h1
  ·exact .inl h1
  ·exact .inr ⟨h1.1,hlim h1.1⟩
 | cons t stk2 =>
  have ht:cont t.1 e.1:=of_decide_eq_true (w3 t rfl)
  obtain ⟨htA,htV⟩:=c1.mem t (List.mem_cons_self ..)
  have hVe:V=e.1.1:=by rw [←htV];exact ht.1.symm
  have hl:=hlim hVe
  rw [midO_cons]
  by_cases h0:0<e.1.2.1
  ·rw [if_pos h0]
   have hM:e.1.2.1-1≤endT t.1:=by have:=ht.2.2.2;omega
   have hMlt:e.1.2.1-1<2 ^ wd t.1.1:=by have:=he.lt;rw [htV,hVe];omega
   have hp:=putM_pos (rv:=rv1) (e:=t) (a:=a1) (M:=e.1.2.1-1) (by rw [htV];exact c2) hMlt
   have hs:=c1.put hA1 hnd1 hM
   rw [htV] at hp
   rw [←hp.1,←hp.2] at hs
   have hpe:posA V (putM rv1 t a1 (e.1.2.1-1)).2=e.1.2.1:=by rw [hp.2];split<;>omega
   rw [hpe] at hs
   exact push _ e.1.2.1 hs (.inr ⟨hVe,Nat.le_refl _⟩) (fun _=>⟨hVe,rfl⟩)
  ·rw [if_neg h0]
   have:posA V a1=e.1.2.1:=by omega
   rw [this] at c1
   exact push rv1 e.1.2.1 c1 (.inr ⟨hVe,Nat.le_refl _⟩) (fun _=>⟨hVe,rfl⟩)
end Go.Proofs.Ytahlbjmafceoeaa.Agg
namespace Go.Proofs.Ytahlbjmafceoeaa.Agg
open E Go.RowKit Adr Cid
theorem head_first{s:Sn}{r:List Sn}(h:(s::r).Pairwise cn)(hok:okS (s::r)){W:Int}{x:Nat}{t:Sn}(ht:t∈s::r)(hx:inR W x t.1):s.1.1<W∨(s.1.1=W∧s.1.2.1≤x):=by
 rcases List.mem_cons.1 ht with rfl | ht
 ·unfold inR at hx;omega
 ·have h1:=(List.pairwise_cons.1 h).1 t ht
  have h2:=(hok s (List.mem_cons_self ..)).le
  unfold cn at h1
  unfold inR at hx
  omega
theorem head_own{s:Sn}{r:List Sn}(h:(s::r).Pairwise cn)(hok:okS (s::r)){o:Int}(hc:covS (s::r) s.1.1 s.1.2.1 o):o=s.2:=by
 obtain ⟨t,ht,hx,ho⟩:=hc
 rcases List.mem_cons.1 ht with rfl | ht
 ·exact ho.symm
 ·have h1:=(List.pairwise_cons.1 h).1 t ht
  have h2:=(hok s (List.mem_cons_self ..)).le
  unfold cn at h1
  unfold inR at hx
  omega
theorem head_end{s:Sn}{r:List Sn}(h:(s::r).Pairwise cn){o:Int}(ho:o=s.2):¬ covS (s::r) s.1.1 (s.1.2.2+1) o:=by
 rintro ⟨t,ht,hx,ho2⟩
 rcases List.mem_cons.1 ht with rfl | ht
 ·unfold inR at hx;omega
 ·have h1:=(List.pairwise_cons.1 h).1 t ht
  unfold cn at h1
  unfold inR at hx
  omega
theorem cov_self{s:Sn}{S:List Sn}(hs:s∈S){x:Nat}(h1:s.1.2.1≤x)(h2:x≤s.1.2.2):covS S s.1.1 x s.2:=⟨s,hs,⟨rfl,h1,h2⟩,rfl⟩
theorem cov_tail{s:Sn}{r:List Sn}(h:(s::r).Pairwise cn)(W:Int)(x:Nat)(o:Int):covS r W x o↔covS (s::r) W x o∧¬ inR W x s.1:=by
 constructor
 ·rintro ⟨t,ht,hx,ho⟩
  refine ⟨⟨t,List.mem_cons_of_mem _ ht,hx,ho⟩,fun hs=>?_⟩
  have h1:=(List.pairwise_cons.1 h).1 t ht
  unfold cn at h1
  unfold inR at hx hs
  omega
 ·rintro ⟨⟨t,ht,hx,ho⟩,hs⟩
  rcases List.mem_cons.1 ht with rfl | ht
  ·exact absurd hx hs
  ·exact ⟨t,ht,hx,ho⟩
theorem canon_uniq:∀ (S S':List Sn),S.Pairwise cn→S'.Pairwise cn→okS S→okS S'→(∀ W x o,covS S W x o↔covS S' W x o)→S=S'
 | [],[],_,_,_,_,_=>rfl
 | [],s'::r',_,_,_,h',hc=>by
  obtain ⟨t,ht,_⟩:=(hc s'.1.1 s'.1.2.1 s'.2).2 (cov_self (List.mem_cons_self ..) (Nat.le_refl _) (h' s' (List.mem_cons_self ..)).le)
  cases ht
 | s::r,[],_,_,h,_,hc=>by
  obtain ⟨t,ht,_⟩:=(hc s.1.1 s.1.2.1 s.2).1 (cov_self (List.mem_cons_self ..) (Nat.le_refl _) (h s (List.mem_cons_self ..)).le)
  cases ht
 | s::r,s'::r',p,p',h,h',hc=>by
  have hs:=(h s (List.mem_cons_self ..)).le
  have hs':=(h' s' (List.mem_cons_self ..)).le
  have c1:=(hc s.1.1 s.1.2.1 s.2).1 (cov_self (List.mem_cons_self ..) (Nat.le_refl _) hs)
  have c2:=(hc s'.1.1 s'.1.2.1 s'.2).2 (cov_self (List.mem_cons_self ..) (Nat.le_refl _) hs')
  have f1:s'.1.1<s.1.1∨(s'.1.1=s.1.1∧s'.1.2.1≤s.1.2.1):=by
   obtain ⟨t,ht,hx,_⟩:=c1
   exact head_first p' h' ht hx
  have f2:s.1.1<s'.1.1∨(s.1.1=s'.1.1∧s.1.2.1≤s'.1.2.1):=by
   obtain ⟨t,ht,hx,_⟩:=c2
   exact head_first p h ht hx
  have eV:s.1.1=s'.1.1:=by omega
  have eN:s.1.2.1=s'.1.2.1:=by omega
  have eo:s.2=s'.2:=by
   rw [eV,eN] at c1
   exact head_own p' h' c1
  have eM:s.1.2.2=s'.1.2.2:=by
   rcases Nat.lt_trichotomy s.1.2.2 s'.1.2.2 with g | g | g
   ·exfalso
    have:=(hc s'.1.1 (s.1.2.2+1) s'.2).2 (cov_self (List.mem_cons_self ..) (by omega) (by omega))
    rw [←eV] at this
    exact head_end p eo.symm this
   ·exact g
   ·exfalso
    have:=(hc s.1.1 (s'.1.2.2+1) s.2).1 (cov_self (List.mem_cons_self ..) (by omega) (by omega))
    rw [eV] at this
    exact head_end p' eo this
  have es:s=s':=by
   obtain ⟨⟨V,N,M⟩,o⟩:=s
   obtain ⟨⟨V',N',M'⟩,o'⟩:=s'
   simp only at eV eN eM eo
   rw [eV,eN,eM,eo]
  subst es
  rw [canon_uniq r r' (List.pairwise_cons.1 p).2 (List.pairwise_cons.1 p').2 (fun t ht=>h t (List.mem_cons_of_mem _ ht)) (fun t ht=>h' t (List.mem_cons_of_mem _ ht)) fun W x o=>by
   rw [cov_tail p,cov_tail p',hc]]
theorem before_of{T:List En}(hT:∀ e∈T,Good e.1)(hs:Up lessE (T.map en))(hnd:(T.map Prod.fst).Nodup):T.Pairwise fun t u=>before t.1 u.1:=by
 have h1:=List.pairwise_map.1 hs
 have h2:T.Pairwise fun t u=>t.1≠u.1:=List.pairwise_map.1 hnd
 exact List.Pairwise.imp_of_mem (fun {t u} ht hu hab=>by
  obtain ⟨h3,h4⟩:=hab
  have ht:=hT t ht
  have hu:=hT u hu
  have h3:lessP (prf u.1.1 u.1.2.1 u.1.2.2) (prf t.1.1 t.1.2.1 t.1.2.2)=false:=h3
  rw [lessP_prf hu.lt ht.lt] at h3
  unfold before
  by_cases e:u.1.1=t.1.1∧u.1.2.1=t.1.2.1
  ·rw [if_pos e] at h3
   have:=of_decide_eq_false h3
   have k1:=ht.le
   have k2:=hu.le
   rw [e.1] at this k2
   have hne:t.1.2.2≠u.1.2.2:=fun ek=>h4 (by
    obtain ⟨⟨a,b,c⟩,_⟩:=t
    obtain ⟨⟨a',b',c'⟩,_⟩:=u
    simp only at e ek ⊢
    rw [e.1,e.2,ek])
   exact .inr ⟨e.1.symm,.inr ⟨e.2.symm,by omega⟩⟩
  ·rw [if_neg e] at h3
   unfold ltA at h3
   split at h3
   ·have:=of_decide_eq_false h3
    omega
   ·have:=of_decide_eq_false h3
    omega) (h1.and h2)
theorem close_all:∀ (stk:List En) (rv:List Sn) (a:Option Nat),(closeM (fun _=>false) rv stk a).2.1=[]
 | [],_,_=>rfl
 | t::stk,rv,a=>by rw [closeM_cons,if_neg Bool.false_ne_true];exact close_all stk _ _
theorem fold_St{T:List En}(hT:∀ e∈T,Good e.1)(hnd:(T.map Prod.fst).Nodup)(hb:T.Pairwise fun t u=>before t.1 u.1):∀ (B A:List En) (s:List Sn×List En×Option Nat) (V:Int),T=A++B→okAt V s.2.2→St A s.1 s.2.1 V (posA V s.2.2)→(∀ e∈B,V<e.1.1∨(V=e.1.1∧posA V s.2.2≤e.1.2.1)) →
  ∃ V',okAt V' (B.foldl stepO s).2.2∧St T (B.foldl stepO s).1 (B.foldl stepO s).2.1 V' (posA V' (B.foldl stepO s).2.2)
 | [],A,s,V,hx,ha,h,_=>by
  rw [List.append_nil] at hx
  rw [hx]
  exact ⟨V,ha,h⟩
 | e::B,A,s,V,hx,ha,h,hpos=>by
  obtain ⟨rv,stk,a⟩:=s
  have hx2:T=(A++[e])++B:=by rw [hx];simp
  have hA:∀ t∈A++[e],Good t.1:=fun t ht=>hT t (by rw [hx2];exact List.mem_append_left _ ht)
  have hnd2:((A++[e]).map Prod.fst).Nodup:=by rw [hx2] at hnd;exact nodup_sub hnd
  rw [hx] at hb
  obtain ⟨_,b2,b3⟩:=List.pairwise_append.1 hb
  have he:Good e.1:=hA e (by simp)
  have hstep:=St.step hA hnd2 (fun t ht=>b3 t ht e (List.mem_cons_self ..)) ha h (hpos e (List.mem_cons_self ..))
  have hat:(stepO (rv,stk,a) e).2.2=some e.1.2.1:=rfl
  rw [List.foldl_cons]
  refine fold_St hT hnd (hx▸hb) B (A++[e]) (stepO (rv,stk,a) e) e.1.1 hx2 (fun N hN=>?_) hstep fun e' he'=>?_
  ·rw [hat] at hN;cases hN;exact he.lt
  ·have:=(List.pairwise_cons.1 b2).1 e' he'
   rw [hat]
   show e.1.1<e'.1.1∨(e.1.1=e'.1.1∧e.1.2.1≤e'.1.2.1)
   unfold before at this
   omega
theorem ofM_spec{T:List En}(hT:∀ e∈T,Good e.1)(hnd:(T.map Prod.fst).Nodup)(hs:Up lessE (T.map en)):okS (ofM T)∧(ofM T).reverse.Pairwise cn∧∀ W x o,covS (ofM T).reverse W x o↔OwnL T W x o:=by
 have hb:=before_of hT hs hnd
 obtain ⟨V,h1,h2⟩:=fold_St hT hnd hb T [] ([],[],some 0) 0 rfl (fun N hN=>(by cases hN;decide)) ⟨fun t ht=>(by cases ht),List.Pairwise.nil,fun t ht=>(by cases ht),fun m hm=>(by cases hm),⟨fun s hs=>(by cases hs),fun s hs=>(by cases hs),List.Pairwise.nil⟩,fun W x o=>⟨fun ⟨s,hs,_⟩=>(by cases hs),fun ⟨_,m,hm,_⟩=>(by cases hm)⟩⟩ (fun e he=>.inl (by
  rcases (hT e he).fam with h | h<;>rw [h]<;>decide))
 obtain ⟨c1,_,_⟩:=St.close hT hnd (fun _=>false) V _ _ _ h1 h2
 rw [close_all] at c1
 refine ⟨c1.sp.ok,List.pairwise_reverse.2 c1.sp.cn,fun W x o=>?_⟩
 have hrev:covS (ofM T).reverse W x o↔covS (ofM T) W x o:=by unfold covS;simp
 rw [hrev]
 have hc:=c1.cov W x o
 constructor
 ·intro h;exact (hc.1 h).2
 ·intro h
  refine hc.2 ⟨?_,h⟩
  obtain ⟨m,hm,hmx,_⟩:=h
  rcases c1.fin m hm with h4 | h4
  ·cases h4
  ·unfold inP at hmx
   unfold bfr
   omega
end Go.Proofs.Ytahlbjmafceoeaa.Agg
set_option maxRecDepth 20000
namespace Go.Proofs.Ytahlbjmafceoeaa.Agg
open E Go.RowKit Adr Cid
abbrev Ad:=Int×Nat
def ad(q:Ad):S_api_Addr:=adr q.1 q.2
def GoodA(q:Ad):Prop:=fam q.1∧q.2<2 ^ wd q.1
def ltq(q r:Ad):Prop:=q.1<r.1∨(q.1=r.1∧q.2<r.2)
instance ltqDec (q r:Ad):Decidable (ltq q r):=inferInstanceAs (Decidable (_∨_))
theorem ltA_ltq(q r:Ad):ltA q.1 q.2 r.1 r.2=decide (ltq q r):=by
 unfold ltA
 split
 ·rw [decide_eq_decide];unfold ltq;omega
 ·rw [decide_eq_decide];unfold ltq;omega
theorem ltq_of{q r:Ad}(h:¬ ltq r q)(hne:q≠r):ltq q r:=by
 have:¬ (q.1=r.1∧q.2=r.2):=fun e=>hne (Prod.ext e.1 e.2)
 unfold ltq at *;omega
structure SA (L:List Ad):Prop where
 good:∀ q∈L,GoodA q
 up:L.Pairwise ltq
theorem SA.lt{L:List Ad}(h:SA L){k j:Nat}{q r:Ad}(hk:L[k]? = some q)(hj:L[j]? = some r)(hkj:k<j):ltq q r:=by
 obtain ⟨a1,a2⟩:=List.getElem?_eq_some_iff.1 hk
 obtain ⟨b1,b2⟩:=List.getElem?_eq_some_iff.1 hj
 have:=List.pairwise_iff_getElem.1 h.up k j a1 b1 hkj
 rw [a2,b2] at this;exact this
theorem get_ad(L:List Ad)(k:Nat)(q:Ad)(h:L[k]? = some q):lget (L.map ad) (k:Int)=ad q:=by
 unfold lget
 rw [Int.toNat_natCast,List.getD_eq_getElem?_getD,List.getElem?_map,h];rfl
theorem ad_inj{q r:Ad}(hq:GoodA q)(hr:GoodA r):ad q=ad r↔q=r:=by
 unfold ad
 rw [adr_inj hq.2 hr.2]
 exact ⟨fun e=>Prod.ext e.1 e.2,fun e=>by rw [e];exact ⟨rfl,rfl⟩⟩
theorem put_l0{L:List Ad}(hL:SA L)(hn:L.length≤100000){p:Ad}(hp:GoodA p):∀ (n:Nat),n≤L.length→(∀ k q,n≤k→L[k]? = some q→ltq p q) →
  ∃ m:Nat,m≤n∧crawlwayref59_put.l0 (L.map ad) (ad p) (n:Int)=some (m:Int)∧(∀ k q,m≤k→L[k]? = some q→ltq p q)∧∀ q,0<m→L[m-1]? = some q→¬ ltq p q
 | 0,_,h=>by
  refine ⟨0,Nat.le_refl _,?_,h,fun q h0=>absurd h0 (Nat.lt_irrefl 0)⟩
  rw [crawlwayref59_put.l0.eq_def,decide_eq_false (by omega),if_neg Bool.false_ne_true]
 | n+1,hn1,h=>by
  obtain ⟨y,hy⟩:∃ y,L[n]? = some y:=⟨_,List.getElem?_eq_getElem (by omega)⟩
  have hyg:=hL.good y (List.mem_of_getElem? hy)
  have hw:wr .i64 (((n+1:Nat):Int)-1)=(n:Int):=by rw [wr_i64 (by omega) (by omega)];omega
  have hin:(0:Int)≤(n:Int)∧(n:Int)<((L.map ad).length:Int):=by rw [List.length_map];omega
  have hless:crawlwayref10_Less (ad p) (ad y)=some (decide (ltq p y)):=by
   rw [←ltA_ltq];exact (adr_less hp.2 hyg.2).2
  rw [crawlwayref59_put.l0.eq_def,decide_eq_true (by omega),if_pos rfl,hw,if_pos hin,get_ad L n y hy,hless,bindM_some]
  by_cases hlt:ltq p y
  ·rw [decide_eq_true hlt,if_pos rfl]
   obtain ⟨m,m1,m2,m3,m4⟩:=put_l0 hL hn hp n (by omega) fun k q hk hq=>by
    rcases Nat.lt_or_ge n k with g | g
    ·exact h k q g hq
    ·have:k=n:=by omega
     subst this
     rw [hy] at hq;cases hq;exact hlt
   exact ⟨m,by omega,m2,m3,m4⟩
  ·rw [decide_eq_false hlt,if_neg Bool.false_ne_true]
   refine ⟨n+1,Nat.le_refl _,rfl,h,fun q _ hq=>?_⟩
   have hq:L[n]? = some q:=hq
   rw [hy] at hq;cases hq;exact hlt
theorem putA_code{L:List Ad}(hL:SA L)(hn:L.length≤100000){p:Ad}(hp:GoodA p):∃ L',crawlwayref59_put (L.map ad) (ad p)=some (L'.map ad)∧SA L'∧L'.length≤L.length+1∧∀ q,q∈L'↔q∈L∨q=p:=by
 obtain ⟨m,m1,m2,m3,m4⟩:=put_l0 hL hn hp L.length (Nat.le_refl _) fun k q hk hq=>by
  have:=(List.getElem?_eq_some_iff.1 hq).1;omega
 have hml:(L.map ad).length=L.length:=List.length_map ..
 have m2':crawlwayref59_put.l0 (L.map ad) (ad p) ((L.map ad).length:Int)=some (m:Int):=by rw [hml];exact m2
 have ins:(∀ y,0<m→L[m-1]? = some y→ltq y p)→∃ L',(if (0:Int)≤0∧0≤(m:Int)∧(m:Int)≤((L.map ad).length:Int) then if (([]:List S_api_Addr).length+(lsub (L.map ad) 0 (m:Int)).length)*24≤140737488355328 then if ((([]:List S_api_Addr)++(lsub (L.map ad) 0 (m:Int))).length+1)*24≤140737488355328 then if (0:Int)≤(m:Int)∧(m:Int)≤((L.map ad).length:Int)∧((L.map ad).length:Int)≤((L.map ad).length:Int) then if (((([]:List S_api_Addr)++(lsub (L.map ad) 0 (m:Int)))++[ad p]).length+(lsub (L.map ad) (m:Int) ((L.map ad).length:Int)).length)*24≤140737488355328 then some (((([]:List S_api_Addr)++(lsub (L.map ad) 0 (m:Int)))++[ad p])++(lsub (L.map ad) (m:Int) ((L.map ad).length:Int))) else none else none else none else none else none)=some (L'.map ad)∧SA L'∧L'.length≤L.length+1∧∀ q,q∈L'↔q∈L∨q=p:=by
  intro hlast
  have s1:lsub (L.map ad) 0 (m:Int)=(L.take m).map ad:=by
   unfold lsub
   rw [Int.toNat_natCast,List.map_take];rfl
  have s2:lsub (L.map ad) (m:Int) ((L.map ad).length:Int)=(L.drop m).map ad:=by
   unfold lsub
   rw [Int.toNat_natCast,Int.toNat_natCast,List.take_length,List.map_drop]
  have hmem:∀ q,q∈L↔q∈L.take m∨q∈L.drop m:=fun q=>by rw [←List.mem_append,List.take_append_drop]
  have t1:((L.take m).map ad).length=m:=by rw [List.length_map,List.length_take];omega
  have t2:((L.drop m).map ad).length=L.length-m:=by rw [List.length_map,List.length_drop]
  rw [s1,s2,List.nil_append,if_pos ⟨Int.le_refl _,by omega,by omega⟩,if_pos (by rw [t1,List.length_nil];omega),if_pos (by rw [t1];omega),if_pos ⟨by omega,by omega,Int.le_refl _⟩,if_pos (by rw [List.length_append,t1,t2,List.length_singleton];omega)]
  have low:∀ x∈L.take m,ltq x p:=fun x hx=>by
   obtain ⟨k,hk⟩:=List.mem_iff_getElem?.1 hx
   rw [List.getElem?_take] at hk
   split at hk
   ·next hkm =>
    obtain ⟨y,hy⟩:∃ y,L[m-1]? = some y:=⟨_,List.getElem?_eq_getElem (by omega)⟩
    have h1:=hlast y (by omega) hy
    rcases Nat.lt_or_ge k (m-1) with g | g
    ·have h2:=hL.lt hk hy g
     unfold ltq at *;omega
    ·have:k=m-1:=by omega
     rw [this,hy] at hk;cases hk;exact h1
   ·cases hk
  have high:∀ x∈L.drop m,ltq p x:=fun x hx=>by
   obtain ⟨k,hk⟩:=List.mem_iff_getElem?.1 hx
   rw [List.getElem?_drop] at hk
   exact m3 (m+k) x (by omega) hk
  refine ⟨L.take m++p::L.drop m,?_,⟨fun q hq=>?_,?_⟩,?_,fun q=>?_⟩
  ·rw [List.map_append,List.map_cons,List.append_assoc];rfl
  ·rcases List.mem_append.1 hq with h | h
   ·exact hL.good q ((hmem q).2 (.inl h))
   ·rcases List.mem_cons.1 h with rfl | h
    ·exact hp
    ·exact hL.good q ((hmem q).2 (.inr h))
  ·refine List.pairwise_append.2 ⟨hL.up.sublist (List.take_sublist ..),List.pairwise_cons.2 ⟨high,hL.up.sublist (List.drop_sublist ..)⟩,fun x hx y hy=>?_⟩
   rcases List.mem_cons.1 hy with rfl | hy
   ·exact low x hx
   ·have h1:=low x hx
    have h2:=high y hy
    unfold ltq at *;omega
  ·rw [List.length_append,List.length_cons,List.length_take,List.length_drop];omega
  ·rw [hmem,List.mem_append,List.mem_cons]
   constructor
   ·rintro (h | h | h)
    ·exact .inl (.inl h)
    ·exact .inr h
    ·exact .inl (.inr h)
   ·rintro ((h | h) | h)
    ·exact .inl h
    ·exact .inr (.inr h)
    ·exact .inr (.inl h)
 unfold crawlwayref59_put
 rw [m2',bindM_some]
 by_cases h0:0<m
 ·obtain ⟨y,hy⟩:∃ y,L[m-1]? = some y:=⟨_,List.getElem?_eq_getElem (by omega)⟩
  have hym:=List.mem_of_getElem? hy
  have hw:wr .i64 ((m:Int)-1)=((m-1:Nat):Int):=by rw [wr_i64 (by omega) (by omega)];omega
  have hin:(0:Int)≤((m-1:Nat):Int)∧((m-1:Nat):Int)<((L.map ad).length:Int):=by rw [hml];omega
  rw [decide_eq_true (show (m:Int)>0 by omega),if_pos rfl,hw,if_pos hin,get_ad L (m-1) y hy]
  by_cases hyp:y=p
  ·rw [decide_eq_true (by rw [hyp]),if_pos rfl]
   exact ⟨L,rfl,hL,by omega,fun q=>⟨.inl,fun h=>h.elim id fun e=>by rw [e,←hyp];exact hym⟩⟩
  ·rw [decide_eq_false (mt (ad_inj (hL.good y hym) hp).1 hyp),if_neg Bool.false_ne_true]
   exact ins fun y' _ hy'=>by rw [hy] at hy';cases hy';exact ltq_of (m4 y h0 hy) hyp
 ·rw [decide_eq_false (show ¬ (m:Int)>0 by omega),if_neg Bool.false_ne_true]
  exact ins fun y h=>absurd h h0
theorem SA.nil:SA []:=⟨fun q h=>(by cases h),List.Pairwise.nil⟩
theorem get_en(A:List En)(e:En)(B:List En):lget ((A++e::B).map en) (A.length:Int)=en e:=by
 rw [List.map_append,List.map_cons]
 have:=lget_mid (A.map en) (en e) (B.map en)
 rwa [List.length_map] at this
theorem start_good{e:En}(h:Good e.1):GoodA (e.1.1,e.1.2.1):=⟨h.fam,h.lt⟩
theorem end_good{e:En}(h:Good e.1):GoodA (e.1.1,endT e.1):=⟨h.fam,h.end_lt⟩
theorem lasts_loop(T:List En)(hT:∀ e∈T,Good e.1)(hn:T.length≤10000):∀ (B A:List En) (L:List Ad),T=A++B→SA L→L.length≤A.length →
  ∃ L',crawlwayref59_lasts.l0 (T.map en) (L.map ad) (A.length:Int)=some (L'.map ad)∧SA L'∧L'.length≤T.length∧∀ q,q∈L'↔q∈L∨∃ e∈B,q=(e.1.1,endT e.1)
 | [],A,L,hx,hL,hl=>by
  have hd:decide ((A.length:Int)<((T.map en).length:Int))=false:=decide_eq_false (by rw [hx];simp)
  refine ⟨L,?_,hL,by rw [hx];simpa using hl,fun q=>⟨.inl,fun h=>h.elim id fun ⟨e,he,_⟩=>by cases he⟩⟩
  rw [crawlwayref59_lasts.l0.eq_def,hd,if_neg Bool.false_ne_true]
 | e::B,A,L,hx,hL,hl=>by
  have hTl:T.length=A.length+(B.length+1):=by rw [hx];simp
  have hin:(0:Int)≤(A.length:Int)∧(A.length:Int)<((T.map en).length:Int):=by rw [List.length_map];omega
  have hg:lget (T.map en) (A.length:Int)=en e:=by rw [hx];exact get_en A e B
  have hwi:wr .i64 ((A.length:Int)+1)=((A++[e]).length:Int):=wr_mid A e (by omega)
  have he:=hT e (by rw [hx];simp)
  have hof:crawlwayref53_Of (en e).f_P=some (adr e.1.1 e.1.2.1,ad (e.1.1,endT e.1)):=by
   unfold crawlwayref53_Of
   have:crawlwayref53_last (en e).f_P=some (adr e.1.1 (endT e.1)):=(last_pf he).2
   rw [this];rfl
  obtain ⟨L1,p1,p2,p3,p4⟩:=putA_code hL (by omega) (end_good he)
  obtain ⟨L2,r1,r2,r3,r4⟩:=lasts_loop T hT hn B (A++[e]) L1 (by rw [hx];simp) p2 (by simp;omega)
  refine ⟨L2,?_,r2,r3,fun q=>?_⟩
  ·rw [crawlwayref59_lasts.l0.eq_def,decide_eq_true hin.2,if_pos rfl,if_pos hin,hg,hwi,hof,bindM_some]
   show (crawlwayref59_put (L.map ad) (ad (e.1.1,endT e.1))>>=_)=_
   rw [p1,bindM_some,r1]
  ·rw [r4,p4]
   constructor
   ·rintro ((h | h) | ⟨e',h1,h2⟩)
    ·exact .inl h
    ·exact .inr ⟨e,List.mem_cons_self ..,h⟩
    ·exact .inr ⟨e',List.mem_cons_of_mem _ h1,h2⟩
   ·rintro (h | ⟨e',h1,h2⟩)
    ·exact .inl (.inl h)
    ·rcases List.mem_cons.1 h1 with rfl | h1
     ·exact .inl (.inr h2)
     ·exact .inr ⟨e',h1,h2⟩
theorem begins_loop(T:List En)(hT:∀ e∈T,Good e.1)(hn:T.length≤10000):∀ (B A:List En) (L:List Ad),T=A++B→SA L→L.length≤A.length →
  ∃ L',crawlwayref59_Of.l0 (T.map en) (L.map ad) (A.length:Int)=some (L'.map ad)∧SA L'∧L'.length≤T.length∧∀ q,q∈L'↔q∈L∨∃ e∈B,q=(e.1.1,e.1.2.1)
 | [],A,L,hx,hL,hl=>by
  have hd:decide ((A.length:Int)<((T.map en).length:Int))=false:=decide_eq_false (by rw [hx];simp)
  refine ⟨L,?_,hL,by rw [hx];simpa using hl,fun q=>⟨.inl,fun h=>h.elim id fun ⟨e,he,_⟩=>by cases he⟩⟩
  rw [crawlwayref59_Of.l0.eq_def,hd,if_neg Bool.false_ne_true]
 | e::B,A,L,hx,hL,hl=>by
  have hTl:T.length=A.length+(B.length+1):=by rw [hx];simp
  have hin:(0:Int)≤(A.length:Int)∧(A.length:Int)<((T.map en).length:Int):=by rw [List.length_map];omega
  have hg:lget (T.map en) (A.length:Int)=en e:=by rw [hx];exact get_en A e B
  have hwi:wr .i64 ((A.length:Int)+1)=((A++[e]).length:Int):=wr_mid A e (by omega)
  have he:=hT e (by rw [hx];simp)
  obtain ⟨L1,p1,p2,p3,p4⟩:=putA_code hL (by omega) (start_good he)
  obtain ⟨L2,r1,r2,r3,r4⟩:=begins_loop T hT hn B (A++[e]) L1 (by rw [hx];simp) p2 (by simp;omega)
  refine ⟨L2,?_,r2,r3,fun q=>?_⟩
  ·rw [crawlwayref59_Of.l0.eq_def,decide_eq_true hin.2,if_pos rfl,if_pos hin,hg,hwi]
   show (crawlwayref59_put (L.map ad) (ad (e.1.1,e.1.2.1))>>=_)=_
   rw [p1,bindM_some,r1]
  ·rw [r4,p4]
   constructor
   ·rintro ((h | h) | ⟨e',h1,h2⟩)
    ·exact .inl h
    ·exact .inr ⟨e,List.mem_cons_self ..,h⟩
    ·exact .inr ⟨e',List.mem_cons_of_mem _ h1,h2⟩
   ·rintro (h | ⟨e',h1,h2⟩)
    ·exact .inl (.inl h)
    ·rcases List.mem_cons.1 h1 with rfl | h1
     ·exact .inl (.inr h2)
     ·exact .inr ⟨e',h1,h2⟩
theorem nexts_loop(E:List Ad)(hE:SA E)(hn:E.length≤10000):∀ (B A:List Ad) (L:List Ad),E=A++B→SA L→L.length≤10000+A.length →
  ∃ L',crawlwayref59_Of.l1 (E.map ad) (L.map ad) (A.length:Int)=some (L'.map ad)∧SA L'∧L'.length≤10000+E.length∧∀ q,q∈L'↔q∈L∨∃ r∈B,r.2+1<2 ^ wd r.1∧q=(r.1,r.2+1)
 | [],A,L,hx,hL,hl=>by
  have hd:decide ((A.length:Int)<((E.map ad).length:Int))=false:=decide_eq_false (by rw [hx];simp)
  refine ⟨L,?_,hL,by rw [hx];simpa using hl,fun q=>⟨.inl,fun h=>h.elim id fun ⟨e,he,_⟩=>by cases he⟩⟩
  rw [crawlwayref59_Of.l1.eq_def,hd,if_neg Bool.false_ne_true]
 | r::B,A,L,hx,hL,hl=>by
  have hTl:E.length=A.length+(B.length+1):=by rw [hx];simp
  have hin:(0:Int)≤(A.length:Int)∧(A.length:Int)<((E.map ad).length:Int):=by rw [List.length_map];omega
  have hg:lget (E.map ad) (A.length:Int)=ad r:=get_ad E A.length r (by rw [hx];simp)
  have hwi:wr .i64 ((A.length:Int)+1)=((A++[r]).length:Int):=wr_mid A r (by omega)
  have hr:=hE.good r (by rw [hx];simp)
  have hnx:crawlwayref53_Next (ad r)=some (nx r.1 r.2):=(next_adr hr.1 hr.2).2
  have hA1:(A++[r]).length=A.length+1:=by simp
  rw [crawlwayref59_Of.l1.eq_def,decide_eq_true hin.2,if_pos rfl,if_pos hin,hg,hwi,hnx,bindM_some,nx_pair.1]
  by_cases h:r.2+1<2 ^ wd r.1
  ·have hnx1:(nx r.1 r.2).1=ad (r.1,r.2+1):=nx_pair.2 h
   obtain ⟨L1,p1,p2,p3,p4⟩:=putA_code hL (by omega) (p:=(r.1,r.2+1)) ⟨hr.1,h⟩
   obtain ⟨L2,r1,r2,r3,r4⟩:=nexts_loop E hE hn B (A++[r]) L1 (by rw [hx];simp) p2 (by omega)
   refine ⟨L2,?_,r2,r3,fun q=>?_⟩
   ·rw [decide_eq_true h,if_pos rfl,hnx1,p1,bindM_some,r1]
   ·rw [r4,p4]
    constructor
    ·rintro ((h1 | h1) | ⟨e',h1,h2⟩)
     ·exact .inl h1
     ·exact .inr ⟨r,List.mem_cons_self ..,h,h1⟩
     ·exact .inr ⟨e',List.mem_cons_of_mem _ h1,h2⟩
    ·rintro (h1 | ⟨e',h1,h2⟩)
     ·exact .inl (.inl h1)
     ·rcases List.mem_cons.1 h1 with rfl | h1
      ·exact .inl (.inr h2.2)
      ·exact .inr ⟨e',h1,h2⟩
  ·obtain ⟨L2,r1,r2,r3,r4⟩:=nexts_loop E hE hn B (A++[r]) L (by rw [hx];simp) hL (by omega)
   refine ⟨L2,?_,r2,r3,fun q=>?_⟩
   ·rw [decide_eq_false h,if_neg Bool.false_ne_true,r1]
   ·rw [r4]
    constructor
    ·rintro (h1 | ⟨e',h1,h2⟩)
     ·exact .inl h1
     ·exact .inr ⟨e',List.mem_cons_of_mem _ h1,h2⟩
    ·rintro (h1 | ⟨e',h1,h2⟩)
     ·exact .inl h1
     ·rcases List.mem_cons.1 h1 with rfl | h1
      ·exact absurd h2.1 h
      ·exact .inr ⟨e',h1,h2⟩
theorem prev59_loop(V:Int):∀ (i n:Nat) (tl:List UInt8),tl.length=16-i→i≤16→n<256 ^ i→0<n →
  crawlwayref59_previous.l0 ((i:Int)-1) (mkA V (digs i n++tl))=some (.ret (mkA V (digs i (n-1)++tl)))
 | 0,n,tl,ht,hi,hn,h0=>by simp at hn;omega
 | i+1,n,tl,ht,hi,hn,h0=>by
  have e1:(((i+1:Nat):Int)-1)=(i:Int):=by omega
  have hd:decide ((i:Int)≥0)=true:=decide_eq_true (by omega)
  have hg:(0:Int)≤(i:Int)∧(i:Int)<16:=by omega
  have hp:digs (i+1) n++tl=digs i (n/256)++UInt8.ofNat (n%256)::tl:=by rw [digs,List.append_assoc];rfl
  have hpl:(digs i (n/256)).length=i:=digs_length _ _
  have hl:(digs i (n/256)++UInt8.ofNat (n%256)::tl).length=16:=by rw [List.length_append,List.length_cons,hpl,ht];omega
  have hx:(UInt8.ofNat (n%256)).toNat=n%256:=ofNat_toNat (Nat.mod_lt _ (by omega))
  have hbg:bg (digs i (n/256)++UInt8.ofNat (n%256)::tl) i=n%256:=by
   have:=bg_mid (digs i (n/256)) (UInt8.ofNat (n%256)) tl
   rw [hpl,hx] at this;exact this
  have hset:∀ y,(digs i (n/256)++UInt8.ofNat (n%256)::tl).set i y=digs i (n/256)++y::tl:=fun y=>by
   have:=set_mid (digs i (n/256)) (UInt8.ofNat (n%256)) y tl
   rw [hpl] at this;exact this
  have hwi:wr .i64 ((i:Int)-1)=(i:Int)-1:=wr_i64 (by omega) (by omega)
  rw [Nat.pow_succ] at hn
  rw [e1,hp,crawlwayref59_previous.l0.eq_def,hd,if_pos rfl,if_pos hg,get_mkA hl i (by omega),hbg]
  by_cases hz:n%256=0
  ·rw [decide_eq_false (by omega),if_neg Bool.false_ne_true,if_pos hg,hwi]
   have h255:(255:Int)=(((255:UInt8).toNat:Nat):Int):=rfl
   rw [h255,set_mkA hl,hset,prev59_loop V i (n/256) (255::tl) (by rw [List.length_cons,ht];omega) (by omega) (by omega) (by omega)]
   have hd1:digs (i+1) (n-1)++tl=digs i (n/256-1)++255::tl:=by
    rw [digs,show (n-1)/256=n/256-1 by omega,show (n-1)%256=255 by omega,List.append_assoc];rfl
   rw [hd1]
  ·have hw:wr .u8 (((n%256:Nat):Int)-1)=(((UInt8.ofNat (n%256-1)).toNat:Nat):Int):=by
    rw [ofNat_toNat (by omega),wr_u8 (by omega) (by omega)];omega
   rw [decide_eq_true (by omega),if_pos rfl,if_pos hg,if_pos hg,hw,set_mkA hl,hset]
   have hd1:digs (i+1) (n-1)++tl=digs i (n/256)++UInt8.ofNat (n%256-1)::tl:=by
    rw [digs,show (n-1)/256=n/256 by omega,show (n-1)%256=n%256-1 by omega,List.append_assoc];rfl
   rw [hd1]
theorem wb8{V:Int}(hf:fam V):Int.tdiv (wd V:Int) 8=(wb V:Int):=by
 rcases hf with rfl | rfl<;>decide
theorem prev59{V:Int}(hf:fam V){N:Nat}(hN:N<2 ^ wd V)(h0:0<N):crawlwayref59_previous (adr V N)=some (adr V (N-1)):=by
 have hb:=wb_le V
 have hi:wr .i64 ((wr .i64 (wb V:Int))-1)=(wb V:Int)-1:=by
  rw [wr_i64 (x:=(wb V:Int)) (by omega) (by omega)]
  exact wr_i64 (by omega) (by omega)
 unfold crawlwayref59_previous
 rw [(adr_width hf N).2,bindM_some,wb8 hf,hi]
 unfold adr bt
 rw [prev59_loop V (wb V) N (List.replicate (16-wb V) 0) (by rw [List.length_replicate]) hb (by rw [pow_wb];exact hN) h0];rfl
def onesL(k:Nat):List UInt8:=List.replicate k 255++List.replicate (16-k) 0
theorem ones_len{k:Nat}(hk:k≤16):(onesL k).length=16:=by unfold onesL;simp;omega
theorem ones_set{k:Nat}(hk:k<16):(onesL k).set k 255=onesL (k+1):=by
 unfold onesL
 have e1:List.replicate (16-k) (0:UInt8)=0::List.replicate (16-(k+1)) 0:=by
  rw [show 16-k=(16-(k+1))+1 by omega,List.replicate_succ]
 have:=set_mid (List.replicate k (255:UInt8)) 0 255 (List.replicate (16-(k+1)) 0)
 rw [List.length_replicate] at this
 rw [e1,this,List.replicate_succ',List.append_assoc];rfl
theorem ones_right{V:Int}(hf:fam V){k:Nat}(hk:k≤wb V):rightL V (onesL k)=true:=by
 rcases hf with rfl | rfl
 ·have hk:k≤4:=hk
  have:∀ k:Fin 5,rightL 4 (onesL k.val)=true:=by decide +kernel
  exact this ⟨k,by omega⟩
 ·rfl
theorem ones_width{V:Int}(hf:fam V){k:Nat}(hk:k≤wb V):crawlwayref10_Width (mkA V (onesL k))=some (wd V:Int):=by
 have h16:=wb_le V
 rw [width_ref (ones_len (by omega))]
 unfold widthL wd
 rw [if_pos (ones_right hf hk)]
theorem ones_adr{V:Int}(hf:fam V):mkA V (onesL (wb V))=adr V (2 ^ wd V-1):=by
 rcases hf with rfl | rfl
 ·have:onesL (wb 4)=bt 4 (2 ^ wd 4-1):=by decide +kernel
  unfold adr;rw [this]
 ·have:onesL (wb 6)=bt 6 (2 ^ wd 6-1):=by decide +kernel
  unfold adr;rw [this]
theorem ones_l3{V:Int}(hf:fam V):∀ (f k:Nat),k+f=wb V→crawlwayref59_Of.l3 (k:Int) (mkA V (onesL k))=some (adr V (2 ^ wd V-1))
 | 0,k,h=>by
  have hk:k=wb V:=by omega
  have hb:=wb_le V
  rw [crawlwayref59_Of.l3.eq_def,ones_width hf (by omega),bindM_some,wb8 hf,wr_i64 (by omega) (by omega),decide_eq_false (by omega),if_neg Bool.false_ne_true,hk,ones_adr hf]
 | f+1,k,h=>by
  have hb:=wb_le V
  have h255:(255:Int)=(((255:UInt8).toNat:Nat):Int):=rfl
  have hw:wr .i64 ((k:Int)+1)=((k+1:Nat):Int):=by rw [wr_i64 (by omega) (by omega)];omega
  rw [crawlwayref59_Of.l3.eq_def,ones_width hf (by omega),bindM_some,wb8 hf,wr_i64 (x:=(wb V:Int)) (by omega) (by omega),decide_eq_true (by omega),if_pos rfl,if_pos (by omega),hw,h255,set_mkA (ones_len (by omega)),ones_set (by omega)]
  exact ones_l3 hf f (k+1) (by omega)
theorem ones_l4{V:Int}(hf:fam V):∀ (f k:Nat),k+f=wb V→crawlwayref59_Of.l4 (k:Int) (mkA V (onesL k))=some (adr V (2 ^ wd V-1))
 | 0,k,h=>by
  have hk:k=wb V:=by omega
  have hb:=wb_le V
  rw [crawlwayref59_Of.l4.eq_def,ones_width hf (by omega),bindM_some,wb8 hf,wr_i64 (by omega) (by omega),decide_eq_false (by omega),if_neg Bool.false_ne_true,hk,ones_adr hf]
 | f+1,k,h=>by
  have hb:=wb_le V
  have h255:(255:Int)=(((255:UInt8).toNat:Nat):Int):=rfl
  have hw:wr .i64 ((k:Int)+1)=((k+1:Nat):Int):=by rw [wr_i64 (by omega) (by omega)];omega
  rw [crawlwayref59_Of.l4.eq_def,ones_width hf (by omega),bindM_some,wb8 hf,wr_i64 (x:=(wb V:Int)) (by omega) (by omega),decide_eq_true (by omega),if_pos rfl,if_pos (by omega),hw,h255,set_mkA (ones_len (by omega)),ones_set (by omega)]
  exact ones_l4 hf f (k+1) (by omega)
theorem zero_ones(V:Int):({ ({ f_V:=(0:Int),f_B:=(Vector.replicate 16 (0:Int):(Vector Int 16)) }:S_api_Addr) with f_V:=V }:S_api_Addr)=mkA V (onesL 0):=by
 show ({ f_V:=V,f_B:=(Vector.replicate 16 (0:Int):(Vector Int 16)) }:S_api_Addr)=mkA V (onesL 0)
 rw [zero_vb];rfl
def sR(s:Sn):S_crawlwayref59_Span:={ f_From:=adr s.1.1 s.1.2.1,f_To:=adr s.1.1 s.1.2.2,f_Owner:=s.2 }
def tailJ(q26:List S_api_Addr)(i47:List S_crawlwayref59_Span)(i48 o:Int)(to:S_api_Addr)(K:List S_crawlwayref59_Span→Option (List S_crawlwayref59_Span)):Option (List S_crawlwayref59_Span) :=
 if (decide ((i47.length:Int)>0))=true then (if (0:Int)≤wr .i64 ((i47.length:Int)-1)∧wr .i64 ((i47.length:Int)-1)<(i47.length:Int) then if ((lget i47 (wr .i64 ((i47.length:Int)-1))).f_Owner==o)=true then (if (0:Int)≤wr .i64 ((i47.length:Int)-1)∧wr .i64 ((i47.length:Int)-1)<(i47.length:Int) then if (0:Int)≤i48∧i48<(q26.length:Int) then if (((lget i47 (wr .i64 ((i47.length:Int)-1))).f_To).f_V==(lget q26 i48).f_V)=true then (if (0:Int)≤wr .i64 ((i47.length:Int)-1)∧wr .i64 ((i47.length:Int)-1)<(i47.length:Int) then crawlwayref53_Next ((lget i47 (wr .i64 ((i47.length:Int)-1))).f_To)>>=fun u=>if u.2=true then (if (0:Int)≤i48∧i48<(q26.length:Int) then if (decide (u.1=lget q26 i48))=true then (if (0:Int)≤wr .i64 ((i47.length:Int)-1)∧wr .i64 ((i47.length:Int)-1)<(i47.length:Int) then K (lset i47 (wr .i64 ((i47.length:Int)-1)) ({ (lget i47 (wr .i64 ((i47.length:Int)-1))) with f_To:=to })) else none) else (if (0:Int)≤i48∧i48<(q26.length:Int) then if (i47.length+1)*56≤140737488355328 then K (i47++[{ { { ({ f_From:=({ f_V:=(0:Int),f_B:=(Vector.replicate 16 (0:Int):(Vector Int 16)) }:S_api_Addr),f_To:=({ f_V:=(0:Int),f_B:=(Vector.replicate 16 (0:Int):(Vector Int 16)) }:S_api_Addr),f_Owner:=(0:Int) }:S_crawlwayref59_Span) with f_From:=lget q26 i48 } with f_To:=to } with f_Owner:=o }]) else none else none) else none) else (if (0:Int)≤i48∧i48<(q26.length:Int) then if (i47.length+1)*56≤140737488355328 then K (i47++[{ { { ({ f_From:=({ f_V:=(0:Int),f_B:=(Vector.replicate 16 (0:Int):(Vector Int 16)) }:S_api_Addr),f_To:=({ f_V:=(0:Int),f_B:=(Vector.replicate 16 (0:Int):(Vector Int 16)) }:S_api_Addr),f_Owner:=(0:Int) }:S_crawlwayref59_Span) with f_From:=lget q26 i48 } with f_To:=to } with f_Owner:=o }]) else none else none) else none) else (if (0:Int)≤i48∧i48<(q26.length:Int) then if (i47.length+1)*56≤140737488355328 then K (i47++[{ { { ({ f_From:=({ f_V:=(0:Int),f_B:=(Vector.replicate 16 (0:Int):(Vector Int 16)) }:S_api_Addr),f_To:=({ f_V:=(0:Int),f_B:=(Vector.replicate 16 (0:Int):(Vector Int 16)) }:S_api_Addr),f_Owner:=(0:Int) }:S_crawlwayref59_Span) with f_From:=lget q26 i48 } with f_To:=to } with f_Owner:=o }]) else none else none) else none else none) else (if (0:Int)≤i48∧i48<(q26.length:Int) then if (i47.length+1)*56≤140737488355328 then K (i47++[{ { { ({ f_From:=({ f_V:=(0:Int),f_B:=(Vector.replicate 16 (0:Int):(Vector Int 16)) }:S_api_Addr),f_To:=({ f_V:=(0:Int),f_B:=(Vector.replicate 16 (0:Int):(Vector Int 16)) }:S_api_Addr),f_Owner:=(0:Int) }:S_crawlwayref59_Span) with f_From:=lget q26 i48 } with f_To:=to } with f_Owner:=o }]) else none else none) else none) else (if (0:Int)≤i48∧i48<(q26.length:Int) then if (i47.length+1)*56≤140737488355328 then K (i47++[{ { { ({ f_From:=({ f_V:=(0:Int),f_B:=(Vector.replicate 16 (0:Int):(Vector Int 16)) }:S_api_Addr),f_To:=({ f_V:=(0:Int),f_B:=(Vector.replicate 16 (0:Int):(Vector Int 16)) }:S_api_Addr),f_Owner:=(0:Int) }:S_crawlwayref59_Span) with f_From:=lget q26 i48 } with f_To:=to } with f_Owner:=o }]) else none else none)
theorem l2_eq(t1:List S_api_Entry)(q26:List S_api_Addr)(i47:List S_crawlwayref59_Span)(i48:Int):crawlwayref59_Of.l2 t1 q26 i47 i48=(if (decide (i48<(q26.length:Int)))=true then (if (0:Int)≤i48∧i48<(q26.length:Int) then crawlwayref25_Find t1 (lget q26 i48)>>=fun t58=>if (!t58.2)=true then (crawlwayref59_Of.l2 t1 q26 i47 (wr .i64 (i48+1))) else (if (0:Int)≤i48∧i48<(q26.length:Int) then if (decide (wr .i64 (i48+1)<(q26.length:Int)))=true then (if (0:Int)≤wr .i64 (i48+1)∧wr .i64 (i48+1)<(q26.length:Int) then if (0:Int)≤i48∧i48<(q26.length:Int) then if ((lget q26 (wr .i64 (i48+1))).f_V==(lget q26 i48).f_V)=true then (if (0:Int)≤wr .i64 (i48+1)∧wr .i64 (i48+1)<(q26.length:Int) then crawlwayref59_previous (lget q26 (wr .i64 (i48+1)))>>=fun t81=>tailJ q26 i47 i48 t58.1.f_Owner t81 (fun l=>crawlwayref59_Of.l2 t1 q26 l (wr .i64 (i48+1))) else none) else (crawlwayref59_Of.l3 0 ({ ({ f_V:=(0:Int),f_B:=(Vector.replicate 16 (0:Int):(Vector Int 16)) }:S_api_Addr) with f_V:=(lget q26 i48).f_V })>>=fun q163=>tailJ q26 i47 i48 t58.1.f_Owner q163 (fun l=>crawlwayref59_Of.l2 t1 q26 l (wr .i64 (i48+1)))) else none else none) else (crawlwayref59_Of.l4 0 ({ ({ f_V:=(0:Int),f_B:=(Vector.replicate 16 (0:Int):(Vector Int 16)) }:S_api_Addr) with f_V:=(lget q26 i48).f_V })>>=fun q251=>tailJ q26 i47 i48 t58.1.f_Owner q251 (fun l=>crawlwayref59_Of.l2 t1 q26 l (wr .i64 (i48+1)))) else none) else none) else (some i47)):=by
 rw [crawlwayref59_Of.l2.eq_def];rfl
theorem tail_code(q26:List S_api_Addr)(i:Int)(hin:(0:Int)≤i∧i<(q26.length:Int))(b:Ad)(hb:GoodA b)(hg:lget q26 i=ad b)(rv:List Sn)(hrv:okS rv)(hn:rv.length≤100000)(o:Int)(M:Nat)(K:List S_crawlwayref59_Span→Option (List S_crawlwayref59_Span)) :
  tailJ q26 (rv.reverse.map sR) i o (adr b.1 M) K=K ((addS rv ((b.1,b.2,M),o)).reverse.map sR):=by
 have hnew:(if (0:Int)≤i∧i<(q26.length:Int) then if ((rv.reverse.map sR).length+1)*56≤140737488355328 then K (rv.reverse.map sR++[{ { { ({ f_From:=({ f_V:=(0:Int),f_B:=(Vector.replicate 16 (0:Int):(Vector Int 16)) }:S_api_Addr),f_To:=({ f_V:=(0:Int),f_B:=(Vector.replicate 16 (0:Int):(Vector Int 16)) }:S_api_Addr),f_Owner:=(0:Int) }:S_crawlwayref59_Span) with f_From:=ad b } with f_To:=adr b.1 M } with f_Owner:=o }]) else none else none)=K ((((b.1,b.2,M),o)::rv).reverse.map sR):=by
  rw [if_pos hin,if_pos (by rw [List.length_map,List.length_reverse];omega),List.reverse_cons,List.map_append];rfl
 unfold tailJ
 rw [hg]
 cases rv with
 | nil =>
  have hl0:((([]:List Sn).reverse.map sR).length:Int)=0:=rfl
  rw [hl0,decide_eq_false (by omega),if_neg Bool.false_ne_true]
  exact hnew
 | cons q rest =>
  have hl:(q::rest).reverse.map sR=rest.reverse.map sR++[sR q]:=by simp
  have hll:(((q::rest).reverse.map sR).length:Int)=((rest.length+1:Nat):Int):=by rw [hl];simp
  have hq:=hrv q (List.mem_cons_self ..)
  have hrn:rest.length+1≤100000:=by simpa using hn
  have hw2:wr .i64 (((rest.length+1:Nat):Int)-1)=(rest.length:Int):=by rw [wr_i64 (by omega) (by omega)];omega
  have hi2:(0:Int)≤(rest.length:Int)∧(rest.length:Int)<((rest.length+1:Nat):Int):=by omega
  have hg2:lget ((q::rest).reverse.map sR) (rest.length:Int)=sR q:=by
   rw [hl]
   have:=lget_mid (rest.reverse.map sR) (sR q) []
   rwa [List.length_map,List.length_reverse] at this
  have ho2:(sR q).f_To=adr q.1.1 q.1.2.2:=rfl
  have hyes:(q.2=o∧q.1.1=b.1∧q.1.2.2+1=b.2)→addS (q::rest) ((b.1,b.2,M),o)=((q.1.1,q.1.2.1,M),q.2)::rest:=fun h=>by rw [addS_cons,if_pos h]
  have hno:¬ (q.2=o∧q.1.1=b.1∧q.1.2.2+1=b.2)→addS (q::rest) ((b.1,b.2,M),o)=((b.1,b.2,M),o)::q::rest:=fun h=>by rw [addS_cons,if_neg h]
  rw [hll,decide_eq_true (show ((rest.length+1:Nat):Int)>0 by omega),if_pos rfl,hw2,if_pos hi2,hg2]
  by_cases h1:q.2=o
  ·have:((sR q).f_Owner==o)=true:=by rw [beq_iff_eq];exact h1
   rw [this,if_pos rfl,if_pos hi2,if_pos hin,ho2]
   by_cases hV:q.1.1=b.1
   ·have:((adr q.1.1 q.1.2.2).f_V==(ad b).f_V)=true:=by rw [beq_iff_eq];exact hV
    rw [this,if_pos rfl,if_pos hi2,(next_adr hq.fam hq.lt).2,bindM_some,nx_pair.1]
    by_cases h2:q.1.2.2+1<2 ^ wd q.1.1
    ·rw [decide_eq_true h2,if_pos rfl,if_pos hin,nx_pair.2 h2]
     by_cases h3:q.1.2.2+1=b.2
     ·rw [decide_eq_true (show adr q.1.1 (q.1.2.2+1)=ad b from (adr_inj h2 hb.2).2 ⟨hV,h3⟩),if_pos rfl,if_pos hi2,hyes ⟨h1,hV,h3⟩]
      have hset:lset ((q::rest).reverse.map sR) (rest.length:Int) ({ sR q with f_To:=adr b.1 M })=(((q.1.1,q.1.2.1,M),q.2)::rest).reverse.map sR:=by
       have e2:({ sR q with f_To:=adr b.1 M }:S_crawlwayref59_Span)=sR ((q.1.1,q.1.2.1,M),q.2):=by rw [←hV];rfl
       rw [hl,e2,List.reverse_cons,List.map_append]
       have e1:(rest.length:Int)=((rest.reverse.map sR).length:Int):=by simp
       rw [e1]
       simp [lset]
      rw [hset]
     ·rw [decide_eq_false (show ¬ adr q.1.1 (q.1.2.2+1)=ad b from mt (adr_inj h2 hb.2).1 fun h=>h3 h.2),if_neg Bool.false_ne_true,hno (fun h=>h3 h.2.2)]
      exact hnew
    ·rw [decide_eq_false h2,if_neg Bool.false_ne_true,hno (fun h=>by
      obtain ⟨_,h4,h5⟩:=h
      have:=hb.2
      rw [h4] at h2
      omega)]
     exact hnew
   ·have:((adr q.1.1 q.1.2.2).f_V==(ad b).f_V)=false:=by rw [beq_eq_false_iff_ne];exact hV
    rw [this,if_neg Bool.false_ne_true,hno (fun h=>hV h.2.1)]
    exact hnew
  ·have:((sR q).f_Owner==o)=false:=by rw [beq_eq_false_iff_ne];exact h1
   rw [this,if_neg Bool.false_ne_true,hno (fun h=>h1 h.1)]
   exact hnew
end Go.Proofs.Ytahlbjmafceoeaa.Agg
set_option maxRecDepth 20000
namespace Go.Proofs.Ytahlbjmafceoeaa.Agg
open E Go.RowKit Adr Cid
def posB:List Ad→Ad
 | []=>(7,0)
 | b::_=>b
def toOf(b:Ad):List Ad→Nat
 | []=>2 ^ wd b.1-1
 | q::_=>if q.1=b.1 then q.2-1 else 2 ^ wd b.1-1
theorem toOf_nil(b:Ad):toOf b []=2 ^ wd b.1-1:=rfl
theorem toOf_cons(b q:Ad)(B:List Ad):toOf b (q::B)=if q.1=b.1 then q.2-1 else 2 ^ wd b.1-1:=rfl
structure Bg (T:List En) (G:List Ad):Prop where
 sa:SA G
 start:∀ e∈T,(e.1.1,e.1.2.1)∈G
 stop:∀ e∈T,endT e.1+1<2 ^ wd e.1.1→(e.1.1,endT e.1+1)∈G
theorem fam_lt{V:Int}(h:fam V):V<7:=by rcases h with rfl | rfl<;>decide
theorem next_begin{A B:List Ad}{b:Ad}(h:SA (A++b::B)){q:Ad}(hq:q∈A++b::B)(hlt:ltq b q):∃ r B',B=r::B'∧(q=r∨ltq r q):=by
 obtain ⟨p1,p2,p3⟩:=List.pairwise_append.1 h.up
 obtain ⟨p4,p5⟩:=List.pairwise_cons.1 p2
 rcases List.mem_append.1 hq with hq | hq
 ·have:=p3 q hq b (List.mem_cons_self ..)
  unfold ltq at *;omega
 ·rcases List.mem_cons.1 hq with rfl | hq
  ·unfold ltq at hlt;omega
  ·cases B with
   | nil=>cases hq
   | cons r B' =>
    refine ⟨r,B',rfl,?_⟩
    rcases List.mem_cons.1 hq with hq | hq
    ·exact .inl hq
    ·exact .inr ((List.pairwise_cons.1 p5).1 q hq)
theorem head_lt{A B:List Ad}{b r:Ad}(h:SA (A++b::r::B)):ltq b r∧GoodA r:=by
 obtain ⟨p1,p2,p3⟩:=List.pairwise_append.1 h.up
 exact ⟨(List.pairwise_cons.1 p2).1 r (List.mem_cons_self ..),h.good r (by simp)⟩
theorem mid_good{A B:List Ad}{b:Ad}(h:SA (A++b::B)):GoodA b:=h.good b (by simp)
theorem toOf_lt{A B:List Ad}{b:Ad}(h:SA (A++b::B)):b.2≤toOf b B∧toOf b B<2 ^ wd b.1:=by
 have hb:=(mid_good h).2
 cases B with
 | nil=>rw [toOf_nil];omega
 | cons r B =>
  obtain ⟨h1,h2⟩:=head_lt h
  rw [toOf_cons]
  split
  ·next e =>
   have:=h2.2
   rw [e] at this
   unfold ltq at h1;omega
  ·omega
theorem no_begin{A B:List Ad}{b:Ad}(h:SA (A++b::B)){n:Nat}(hq:(b.1,n)∈A++b::B)(hn:b.2<n):toOf b B<n:=by
 obtain ⟨r,B',rfl,hr⟩:=next_begin h hq (.inr ⟨rfl,hn⟩)
 obtain ⟨h1,h2⟩:=head_lt h
 have hr1:r.1=b.1∧r.2≤n:=by
  rcases hr with hr | hr
  ·rw [←hr];exact ⟨rfl,Nat.le_refl _⟩
  ·have hr:r.1<b.1∨(r.1=b.1∧r.2<n):=hr
   unfold ltq at h1;omega
 rw [toOf_cons,if_pos hr1.1]
 omega
theorem same_in{T:List En}(hT:∀ e∈T,Good e.1){A B:List Ad}{b:Ad}(h:Bg T (A++b::B)){x:Nat}(h1:b.2≤x)(h2:x≤toOf b B){e:En}(he:e∈T):inP b.1 x e.1↔inP b.1 b.2 e.1:=by
 have hs:=h.start e he
 have hg:=hT e he
 unfold inP
 constructor
 ·rintro ⟨hV,h3,h4⟩
  refine ⟨hV,?_,by omega⟩
  rcases Nat.lt_or_ge b.2 e.1.2.1 with g | g
  ·rw [←hV] at hs
   have:=no_begin h.sa hs g
   omega
  ·exact g
 ·rintro ⟨hV,h3,h4⟩
  refine ⟨hV,by omega,?_⟩
  rcases Nat.lt_or_ge (endT e.1) x with g | g
  ·have hlt:=(toOf_lt h.sa).2
   have hm:=h.stop e he (by rw [←hV];omega)
   rw [←hV] at hm
   have:=no_begin h.sa hm (by omega)
   omega
  ·exact g
theorem between{T:List En}(hT:∀ e∈T,Good e.1){A B:List Ad}{b:Ad}(h:Bg T (A++b::B)){W:Int}{x:Nat}(hb:¬ bfr b.1 b.2 W x)(hp:bfr (posB B).1 (posB B).2 W x){e:En}(he:e∈T)(hx:inP W x e.1):W=b.1∧b.2≤x∧x≤toOf b B:=by
 have hs:=h.start e he
 have hend:=(hT e he).end_lt
 obtain ⟨hV,h3,h4⟩:=hx
 by_cases hWb:W=b.1
 ·refine ⟨hWb,by unfold bfr at hb;omega,?_⟩
  have hlt:x<2 ^ wd b.1:=by rw [←hWb,hV];omega
  cases B with
  | nil=>rw [toOf_nil];omega
  | cons r B =>
   rw [toOf_cons]
   have hp:bfr r.1 r.2 W x:=hp
   split
   ·next er=>unfold bfr at hp;omega
   ·omega
 ·exfalso
  have hlt:ltq b (e.1.1,e.1.2.1):=by
   left
   unfold bfr at hb
   show b.1<e.1.1
   omega
  obtain ⟨r,B',rfl,hr⟩:=next_begin h.sa hs hlt
  have hp:bfr r.1 r.2 W x:=hp
  unfold bfr at hp
  rcases hr with hr | hr
  ·rw [←hr] at hp
   simp only at hp
   omega
  ·have hr:r.1<e.1.1∨(r.1=e.1.1∧r.2<e.1.2.1):=hr
   omega
theorem pos_after{A B:List Ad}{b:Ad}(h:SA (A++b::B)):b.1<(posB B).1∨(b.1=(posB B).1∧toOf b B+1≤(posB B).2):=by
 cases B with
 | nil=>exact .inl (fam_lt (mid_good h).1)
 | cons r B =>
  obtain ⟨h1,h2⟩:=head_lt h
  rw [toOf_cons]
  show b.1<r.1∨(b.1=r.1∧_≤r.2)
  unfold ltq at h1
  split
  ·omega
  ·omega
structure Cn (T:List En) (rv:List Sn) (p:Ad):Prop where
 sp:Sp rv p.1 p.2
 cov:∀ W x o,covS rv W x o↔bfr p.1 p.2 W x∧OwnL T W x o
theorem bfr_mono{p q:Ad}(h:p.1<q.1∨(p.1=q.1∧p.2≤q.2)){W:Int}{x:Nat}(hb:bfr p.1 p.2 W x):bfr q.1 q.2 W x:=by unfold bfr at *;omega
theorem Cn.none{T:List En}(hT:∀ e∈T,Good e.1){A B:List Ad}{b:Ad}(h:Bg T (A++b::B)){rv:List Sn}(hc:Cn T rv b)(hn:best (fun e=>decide (inP b.1 b.2 e.1)) T=none):Cn T rv (posB B):=by
 have hto:=(toOf_lt h.sa).1
 have hle:b.1<(posB B).1∨(b.1=(posB B).1∧b.2≤(posB B).2):=by have:=pos_after h.sa;omega
 refine ⟨hc.sp.mono hle,fun W x o=>?_⟩
 rw [hc.cov]
 constructor
 ·rintro ⟨h1,h2⟩;exact ⟨bfr_mono hle h1,h2⟩
 ·rintro ⟨h1,h2⟩
  refine ⟨Classical.byContradiction fun hnb=>?_,h2⟩
  obtain ⟨m,hm,hmx,_⟩:=h2
  obtain ⟨rfl,h3,h4⟩:=between hT h hnb h1 hm hmx
  have:=best_none.1 hn m hm
  have h5:=(same_in hT h h3 h4 hm).1 hmx
  rw [decide_eq_true h5] at this;cases this
theorem Cn.some{T:List En}(hT:∀ e∈T,Good e.1)(hnd:(T.map Prod.fst).Nodup){A B:List Ad}{b:Ad}(h:Bg T (A++b::B)){rv:List Sn}(hc:Cn T rv b){e:En}(hn:best (fun e=>decide (inP b.1 b.2 e.1)) T=some e):Cn T (addS rv ((b.1,b.2,toOf b B),e.2)) (posB B):=by
 obtain ⟨he,hpe,hmax⟩:=best_some hn
 have hpe:=of_decide_eq_true hpe
 obtain ⟨hto,htl⟩:=toOf_lt h.sa
 have hbg:=mid_good h.sa
 have hpos:=pos_after h.sa
 refine ⟨(hc.sp.add hbg.1 hto htl).mono hpos,fun W x o=>?_⟩
 rw [covS_addS hc.sp.ok ⟨hbg.1,hto,htl⟩,hc.cov]
 constructor
 ·rintro (⟨h1,h2⟩ | ⟨h1,h2⟩)
  ·exact ⟨bfr_mono (by omega) h1,h2⟩
  ·have h1:W=b.1∧b.2≤x∧x≤toOf b B:=h1
   obtain ⟨rfl,h3,h4⟩:=h1
   refine ⟨by unfold bfr;omega,e,he,(same_in hT h h3 h4 he).2 hpe,h2,fun m' hm' hx'=>?_⟩
   exact hmax m' hm' (decide_eq_true ((same_in hT h h3 h4 hm').1 hx'))
 ·rintro ⟨h1,h2⟩
  by_cases hb:bfr b.1 b.2 W x
  ·exact .inl ⟨hb,h2⟩
  ·obtain ⟨m,hm,hmx,ho,hmm⟩:=h2
   obtain ⟨rfl,h3,h4⟩:=between hT h hb h1 hm hmx
   refine .inr ⟨⟨rfl,h3,h4⟩,?_⟩
   have k1:=hmm e he ((same_in hT h h3 h4 he).2 hpe)
   have k2:=hmax m hm (decide_eq_true ((same_in hT h h3 h4 hm).1 hmx))
   rw [←ho,same_of hT hnd he hm ((same_in hT h h3 h4 he).2 hpe) hmx (by omega)]
theorem spans_loop{T:List En}(hT:∀ e∈T,Good e.1)(hnd:(T.map Prod.fst).Nodup)(hn:T.length≤10000){G:List Ad}(hG:Bg T G)(hGl:G.length≤30000):∀ (B A:List Ad) (rv:List Sn),G=A++B→Cn T rv (posB B)→rv.length≤A.length →
  ∃ rv',crawlwayref59_Of.l2 (T.map en) (G.map ad) (rv.reverse.map sR) (A.length:Int)=some (rv'.reverse.map sR)∧Cn T rv' (7,0)∧rv'.length≤G.length
 | [],A,rv,hx,hc,hl=>by
  have hd:decide ((A.length:Int)<((G.map ad).length:Int))=false:=decide_eq_false (by rw [hx];simp)
  refine ⟨rv,?_,hc,by rw [hx];simpa using hl⟩
  rw [l2_eq,hd,if_neg Bool.false_ne_true]
 | b::B,A,rv,hx,hc,hl=>by
  have hGe:G.length=A.length+(B.length+1):=by rw [hx];simp
  have hin:(0:Int)≤(A.length:Int)∧(A.length:Int)<((G.map ad).length:Int):=by rw [List.length_map];omega
  have hg:lget (G.map ad) (A.length:Int)=ad b:=get_ad G A.length b (by rw [hx];simp)
  have hwi:wr .i64 ((A.length:Int)+1)=((A++[b]).length:Int):=wr_mid A b (by omega)
  have hA1:(A++[b]).length=A.length+1:=by simp
  have hG2:Bg T (A++b::B):=by rw [←hx];exact hG
  have hbg:=mid_good hG2.sa
  have hfind:=find_code (ad b) (fun e=>decide (inP b.1 b.2 e.1)) T (by omega) (fun e he=>has_pf (hT e he) hbg.1 b.2 hbg.2)
  have hx2:G=(A++[b])++B:=by rw [hx];simp
  rw [l2_eq,hwi,decide_eq_true hin.2,if_pos rfl,if_pos hin,hg,hfind,bindM_some]
  cases hb:best (fun e=>decide (inP b.1 b.2 e.1)) T with
  | none =>
   rw [if_pos (show (!((outE none,(none:Option En).isSome).2))=true from rfl)]
   exact spans_loop hT hnd hn hG hGl B (A++[b]) rv hx2 (Cn.none hT hG2 hc hb) (by omega)
  | some e =>
   rw [if_neg (show ¬ (!((outE (some e),(some e:Option En).isSome).2))=true from Bool.false_ne_true),if_pos hin]
   have hrvl:=addS_len rv ((b.1,b.2,toOf b B),e.2)
   obtain ⟨rv',r1,r2,r3⟩:=spans_loop hT hnd hn hG hGl B (A++[b]) (addS rv ((b.1,b.2,toOf b B),e.2)) hx2 (Cn.some hT hnd hG2 hc hb) (by omega)
   refine ⟨rv',?_,r2,r3⟩
   have fin:∀ M:Nat,M=toOf b B→tailJ (G.map ad) (rv.reverse.map sR) (A.length:Int) e.2 (adr b.1 M) (fun l=>crawlwayref59_Of.l2 (T.map en) (G.map ad) l ((A++[b]).length:Int))=some (rv'.reverse.map sR):=by
    intro M hM
    subst hM
    rw [tail_code (G.map ad) (A.length:Int) hin b hbg hg rv hc.sp.ok (by omega)]
    exact r1
   have hV:(ad b).f_V=b.1:=rfl
   cases B with
   | nil =>
    have hz:([]:List Ad).length=0:=rfl
    have hlast:decide (((A++[b]).length:Int)<((G.map ad).length:Int))=false:=decide_eq_false (by rw [List.length_map];omega)
    have hl4:crawlwayref59_Of.l4 0 (mkA b.1 (onesL 0))=some (adr b.1 (2 ^ wd b.1-1)):=ones_l4 hbg.1 (wb b.1) 0 (by omega)
    rw [hlast,if_neg Bool.false_ne_true,hV,zero_ones,hl4,bindM_some]
    exact fin _ rfl
   | cons r B =>
    have hBl:(r::B).length=B.length+1:=rfl
    have hin2:(0:Int)≤((A++[b]).length:Int)∧((A++[b]).length:Int)<((G.map ad).length:Int):=by rw [List.length_map];omega
    have hgr:lget (G.map ad) ((A++[b]).length:Int)=ad r:=get_ad G (A++[b]).length r (by rw [hx2];simp)
    obtain ⟨hbr,hrg⟩:=head_lt hG2.sa
    have hVr:(ad r).f_V=r.1:=rfl
    rw [decide_eq_true hin2.2,if_pos rfl,if_pos hin2,if_pos hin,hgr,hVr,hV]
    by_cases hrb:r.1=b.1
    ·have hpos:0<r.2:=by unfold ltq at hbr;omega
     have hpr:crawlwayref59_previous (ad r)=some (adr b.1 (r.2-1)):=by rw [←hrb];exact prev59 hrg.1 hrg.2 hpos
     rw [if_pos (by rw [beq_iff_eq];exact hrb),if_pos hin2,hpr,bindM_some]
     exact fin _ (by rw [toOf_cons,if_pos hrb])
    ·have hl3:crawlwayref59_Of.l3 0 (mkA b.1 (onesL 0))=some (adr b.1 (2 ^ wd b.1-1)):=ones_l3 hbg.1 (wb b.1) 0 (by omega)
     rw [if_neg (by rw [beq_iff_eq];exact hrb),zero_ones,hl3,bindM_some]
     exact fin _ (by rw [toOf_cons,if_neg hrb])
theorem posB_first{T:List En}(hT:∀ e∈T,Good e.1){G:List Ad}(hG:Bg T G):Cn T [] (posB G):=by
 refine ⟨⟨fun s hs=>(by cases hs),fun s hs=>(by cases hs),List.Pairwise.nil⟩,fun W x o=>⟨fun ⟨s,hs,_⟩=>(by cases hs),fun ⟨h1,m,hm,hmx,_⟩=>?_⟩⟩
 exfalso
 have hs:=hG.start m hm
 unfold inP at hmx
 cases G with
 | nil=>cases hs
 | cons b B =>
  have h1:bfr b.1 b.2 W x:=h1
  unfold bfr at h1
  rcases List.mem_cons.1 hs with hs | hs
  ·rw [←hs] at h1
   simp only at h1
   omega
  ·have:ltq b (m.1.1,m.1.2.1):=(List.pairwise_cons.1 hG.sa.up).1 _ hs
   have this:b.1<m.1.1∨(b.1=m.1.1∧b.2<m.1.2.1):=this
   omega
theorem refOf_code(l:List S_api_Entry)(T:List En)(hT:∀ e∈T,Good e.1)(hnd:(T.map Prod.fst).Nodup)(hn:T.length≤10000)(h:crawlwayref59_Own l=some (T.map en)) :
  ∃ rv,crawlwayref59_Of l=some (rv.reverse.map sR)∧okS rv∧rv.reverse.Pairwise cn∧(∀ W x o,covS rv.reverse W x o↔OwnL T W x o)∧rv.length≤20000:=by
 obtain ⟨E,e1,e2,e3,e4⟩:=lasts_loop T hT hn T [] [] rfl SA.nil (Nat.le_refl _)
 obtain ⟨L,l1,l2,l3,l4⟩:=begins_loop T hT hn T [] [] rfl SA.nil (Nat.le_refl _)
 obtain ⟨G,g1,g2,g3,g4⟩:=nexts_loop E e2 (by omega) E [] L rfl l2 (by simp;omega)
 have hG:Bg T G:=by
  refine ⟨g2,fun e he=>(g4 _).2 (.inl ((l4 _).2 (.inr ⟨e,he,rfl⟩))),fun e he hlt=>(g4 _).2 (.inr ⟨(e.1.1,endT e.1),(e4 _).2 (.inr ⟨e,he,rfl⟩),hlt,rfl⟩)⟩
 obtain ⟨rv,r1,r2,r3⟩:=spans_loop hT hnd hn hG (by omega) G [] [] rfl (posB_first hT hG) (Nat.le_refl _)
 refine ⟨rv,?_,r2.sp.ok,List.pairwise_reverse.2 r2.sp.cn,fun W x o=>?_,by omega⟩
 ·unfold crawlwayref59_Of
  have e1:crawlwayref59_lasts (T.map en)=some (E.map ad):=by
   unfold crawlwayref59_lasts
   have e1:crawlwayref59_lasts.l0 (T.map en) ([]:List S_api_Addr) 0=some (E.map ad):=e1
   rw [e1];rfl
  have l1:crawlwayref59_Of.l0 (T.map en) ([]:List S_api_Addr) 0=some (L.map ad):=l1
  have g1:crawlwayref59_Of.l1 (E.map ad) (L.map ad) 0=some (G.map ad):=g1
  have r1:crawlwayref59_Of.l2 (T.map en) (G.map ad) ([]:List S_crawlwayref59_Span) 0=some (rv.reverse.map sR):=r1
  rw [h,bindM_some,e1,bindM_some,l1,bindM_some,g1,bindM_some,r1];rfl
 ·have hrev:covS rv.reverse W x o↔covS rv W x o:=by unfold covS;simp
  rw [hrev,r2.cov]
  refine ⟨fun h=>h.2,fun h=>⟨?_,h⟩⟩
  obtain ⟨m,hm,hmx,_⟩:=h
  have:=fam_lt (hT m hm).fam
  unfold inP at hmx
  left
  show W<7
  omega
end Go.Proofs.Ytahlbjmafceoeaa.Agg
namespace Go.Proofs.Ytahlbjmafceoeaa
open E Go.RowKit _root_.Go.Proofs.Try
def crawlwaylaw59_FlatSpans.l0(t4:List S_flat_Span)(t7:List S_crawlwayref59_Span)(i12:Int):Option (Ctl (Bool) (Unit)) :=
 if (decide (i12<(t4.length:Int)))=true then (if (0:Int)≤i12∧i12<(t4.length:Int) then if (0:Int)≤i12∧i12<(t7.length:Int) then if (!decide (((lget t4 i12).f_Range).f_From=(lget t7 i12).f_From))=true then (some (.ret false)) else (if (0:Int)≤i12∧i12<(t4.length:Int) then if (0:Int)≤i12∧i12<(t7.length:Int) then if (!decide (((lget t4 i12).f_Range).f_To=(lget t7 i12).f_To))=true then (some (.ret false)) else (if (0:Int)≤i12∧i12<(t4.length:Int) then if (0:Int)≤i12∧i12<(t7.length:Int) then if ((lget t4 i12).f_Owner != (lget t7 i12).f_Owner)=true then (some (.ret false)) else (crawlwaylaw59_FlatSpans.l0 t4 t7 (wr .i64 (i12+1))) else none else none) else none else none) else none else none) else (some (.nx ()))
 partial_fixpoint
def crawlwaylaw59_FlatSpans(x0:List S_api_Entry)(x1:S_api_Addr):Option (Bool) :=
 if (decide ((x0.length:Int)>24))=true then (crawlwaylaw59_alive>>=fun t3=>some t3) else (flat_Of x0>>=fun t4=>crawlwayref59_Of x0>>=fun t7=>if ((t4.length:Int) != (t7.length:Int))=true then (some false) else (crawlwaylaw59_FlatSpans.l0 t4 t7 0>>=fun q11=>match q11 with | .ret r'=>some r' | .nx sq11=>(flat_Find t4 x1>>=fun t44=>crawlwayref59_Own x0>>=fun t46=>crawlwayref25_Find t46 x1>>=fun t49=>if (t44.1==t49.1.f_Owner)=true then (if (t44.2==t49.2)=true then (crawlwaylaw59_alive>>=fun t54=>some t54) else (some false)) else (some false))))
set_option maxHeartbeats 3200000 in
theorem crawlwaylaw59_FlatSpans_ok(x0:List S_api_Entry)(p0_:Option Addr)(c0_:Nat)(x1:S_api_Addr)(r:Bool)(hF:crawlwaylaw59_FlatSpans x0 x1=some r)(w:World)(hr0:Row c_api_Entry w p0_ c0_ x0) :
    Calls Try.prog 6 #[.slice p0_ x0.length c0_,.agg (Cd.cs c_api_Addr x1).toArray] w (fun e w'=>e=.returned (.bool r)∧Below w.heap.size w w'):=by
 unfold crawlwaylaw59_FlatSpans at hF
 refine ce (l:=[.slice p0_ x0.length c0_,.agg (Cd.cs c_api_Addr x1).toArray]) func6 rfl rfl ?_
 refine at_start ?_
 refine sr ?_
 refine at_box (cs:=Cd.cs c_api_Addr x1) rfl rfl rfl ?_
 intro b1
 refine aa (nt (qs (sr (am ?_))))
 refine aw (r_len_sl underlying54 rfl) ?_
 refine aw (r_igtr rfl rfl) ?_
 refine nwq [14,3,0] ?_
 obtain ⟨h2,hF⟩|⟨h2,hF⟩:=oi hF
 ·refine ct h2 ?_
  refine sr ?_
  obtain ⟨t3,ht3,hF⟩:=bM hF
  refine cB func27 rfl (fun w hw=>crawlwaylaw59_alive_ok  _ ht3 w) ?_
  refine aa (qn (dz (wq [4] ?_)))
  refine tn (rt ?_)
  have K:=os hF
  subst K
  exact r1 wb
 refine cf h2 ?_
 refine sns (am ?_)
 obtain ⟨t4,ht4,hF⟩:=bM hF
 refine at_callO (c:=c_flat_Span) (e:=60) (ys:=t4) (V:=fun p cap=>.slice p t4.length cap) func28 rfl (by kernel_rfl) rfl rfl (fun w hw=>flat_Of_ok _ _ _ _ ht4 w (hr0.below hw.below)) ?_
 intro p5 c6
 refine aa (ns (am ?_))
 obtain ⟨t7,ht7,hF⟩:=bM hF
 refine at_callO (c:=c_crawlwayref59_Span) (e:=62) (ys:=t7) (V:=fun p cap=>.slice p t7.length cap) func29 rfl (by kernel_rfl) rfl rfl (fun w hw=>crawlwayref59_Of_ok _ _ _ _ ht7 w (hr0.below hw.below)) ?_
 intro p8 c9
 refine aa (nt (qs (sr (am ?_))))
 refine aw (r_len_sl underlying55 rfl) ?_
 refine am ?_
 refine aw (r_len_sl underlying57 rfl) ?_
 refine aw xn (nwq [24,6,5,3,0] ?_)
 obtain ⟨h10,hF⟩|⟨h10,hF⟩:=oi hF
 ·refine ct h10 ?_
  refine sr (aa (qn (dz (dz (dz (wq [4] ?_))))))
  refine tn (rt ?_)
  have K:=os hF
  subst K
  exact r1 wb
 refine cf h10 ?_
 refine sn (qs (sr (aa (nwq [7,6,5,3,0] ?_))))
 refine qb ?_
 obtain ⟨q11,hq11,hF⟩:=bM hF
 refine wq [7,6,5,3,0] ?_
 refine at_loop_r (B:=0) (r:=r) (q:=q11) (A:=fun (_:Unit) Y=>At 95 [(0,.slice p0_ x0.length c0_),(3,.pointer (some ⟨b1,0,none⟩)),(5,.slice p5 t4.length c6)] (Wd w [rowE c_flat_Span 60 p5 c6 t4,cellsE b1 (Cd.cs c_api_Addr x1) 24]) Y) ?_ ?_
 ·intro K
  refine crawlwaylaw59_FlatSpans.l0.partial_correctness t4 t7 (motive:=fun i12 x=>KR (fun (_:Unit) Y=>At 95 [(0,.slice p0_ x0.length c0_),(3,.pointer (some ⟨b1,0,none⟩)),(5,.slice p5 t4.length c6)] (Wd w [rowE c_flat_Span 60 p5 c6 t4,cellsE b1 (Cd.cs c_api_Addr x1) 24]) Y) _ 0 r x→Round (fun Y=>At 95 [(0,.slice p0_ x0.length c0_),(3,.pointer (some ⟨b1,0,none⟩)),(5,.slice p5 t4.length c6),(6,.slice p8 t7.length c9),(7,.int .i64 i12)] (Wd w [rowE c_crawlwayref59_Span 62 p8 c9 t7,rowE c_flat_Span 60 p5 c6 t4,cellsE b1 (Cd.cs c_api_Addr x1) 24]) Y) _ _ _) ?_ _ _ hq11 K
  ·clear K hF
   intro g ih i12 x hF K
   refine at_round ?_
   refine qs (sr (am (am ?_)))
   refine aw (r_len_sl underlying55 rfl) ?_
   refine aw xl (nwq [28,7,6,5,3,0] ?_)
   obtain ⟨h13,hF⟩|⟨h13,hF⟩:=oi hF
   ·refine ct h13 ?_
    refine sn (qs ?_)
    refine qb ?_
    refine qs (wq [7,6,5,3,0] ?_)
    obtain ⟨h14,hF⟩:=gd hF
    refine at_pure (φ:=∃ b o,p5=some ⟨b,o,none⟩) (fun _ hw=>row_ptr (hw.own (.s .z)).row h14) ?_
    rintro ⟨b16,o17,hp15⟩
    obtain ⟨h18,hF⟩:=gd hF
    refine at_pure (φ:=∃ b o,p8=some ⟨b,o,none⟩) (fun _ hw=>row_ptr (hw.own .z).row h18) ?_
    rintro ⟨b20,o21,hp19⟩
    obtain ⟨h22,hF⟩|⟨h22,hF⟩:=oi hF
    ·skip
     refine at_inv [.q 31 (fun g23=>.slice p5 t4.length c6) [] 0 0,.q 32 (fun g23=>.int .i64 i12) [] 0 0,.q 33 (fun g23=>.pointer (some ⟨b16,o17+Int.toNat i12*35,none⟩)) [0,1] 0 0,.q 34 (fun g23=>.pointer (some ⟨b16,o17+Int.toNat i12*35+0,none⟩)) [2] 0 0,.q 35 (fun g23=>.pointer (some ⟨b16,o17+Int.toNat i12*35+0+0,none⟩)) [3] 0 0,.q 36 (fun g23=>.agg (Cd.cs c_api_Addr (((lget t4 i12).f_Range).f_From)).toArray) [4] 0 0,.q 37 (fun g23=>.slice p8 t7.length c9) [] 0 0,.q 38 (fun g23=>.int .i64 i12) [] 0 0,.q 39 (fun g23=>.pointer (some ⟨b20,o21+Int.toNat i12*35,none⟩)) [6,7] 0 0,.q 40 (fun g23=>.pointer (some ⟨b20,o21+Int.toNat i12*35+0,none⟩)) [8] 0 0,.q 41 (fun g23=>.agg (Cd.cs c_api_Addr ((lget t7 i12).f_From)).toArray) [9] 0 0,.q 42 (fun g23=>.bool (!decide (((lget t4 i12).f_Range).f_From=(lget t7 i12).f_From))) [5,10] 0 0,.q 43 (fun g23=>.bool true) [11] 0 0,.q 44 (fun g23=>undef) [12] 0 0,.q 45 (fun g23=>undef) [12] 0 0,.q 46 (fun g23=>undef) [12,13,14] 0 0,.q 47 (fun g23=>undef) [12,15] 0 0,.q 48 (fun g23=>undef) [12,16] 0 0,.q 49 (fun g23=>undef) [12,17] 0 0,.q 50 (fun g23=>undef) [12] 0 0,.q 51 (fun g23=>undef) [12] 0 0,.q 52 (fun g23=>undef) [12,19,20] 0 0,.q 53 (fun g23=>undef) [12,21] 0 0,.q 54 (fun g23=>undef) [12,22] 0 0,.q 55 (fun g23=>undef) [12,18,23] 0 0,.q 56 (fun g23=>.bool true) [12,24] 0 0,.q 57 (fun g23=>.bool true) [25] 0 0,.q 58 (fun g23=>undef) [26] 0 0,.q 59 (fun g23=>undef) [26] 0 0,.q 60 (fun g23=>undef) [26,27,28] 0 0,.q 61 (fun g23=>undef) [26,29] 0 0,.q 62 (fun g23=>undef) [26,30] 0 0,.q 63 (fun g23=>undef) [26] 0 0,.q 64 (fun g23=>undef) [26] 0 0,.q 65 (fun g23=>undef) [26,32,33] 0 0,.q 66 (fun g23=>undef) [26,34] 0 0,.q 67 (fun g23=>undef) [26,35] 0 0,.q 68 (fun g23=>undef) [26,31,36] 0 0,.q 69 (fun g23=>.bool true) [26,37] 0 0] (fun g23 s=>match s with | _=>(Wd w [rowE c_crawlwayref59_Span 62 p8 c9 t7,rowE c_flat_Span 60 p5 c6 t4,cellsE b1 (Cd.cs c_api_Addr x1) 24])) 0 (by kernel_rfl) (by kernel_rfl) (by kernel_rfl) (by kernel_rfl) (by kernel_rfl) ⟨fun _ _ _=>rfl,fun _ _ _=>rfl,fun _ _ _=>rfl,fun _ _ _=>rfl,fun _ _ _=>rfl,fun _ _ _=>rfl,fun _ _ _=>rfl,fun _ _ _=>rfl,fun _ _ _=>rfl,fun _ _ _=>rfl,fun _ _ _=>rfl,fun _ _ _=>rfl,fun _ _ _=>rfl,fun _ _ _=>rfl,fun _ _ _=>rfl,fun _ _ _=>rfl,fun _ _ _=>rfl,fun _ _ _=>rfl,fun _ _ _=>rfl,fun _ _ _=>rfl,fun _ _ _=>rfl,fun _ _ _=>rfl,fun _ _ _=>rfl,fun _ _ _=>rfl,fun _ _ _=>rfl,fun _ _ _=>rfl,fun _ _ _=>rfl,fun _ _ _=>rfl,fun _ _ _=>rfl,fun _ _ _=>rfl,fun _ _ _=>rfl,fun _ _ _=>rfl,fun _ _ _=>rfl,fun _ _ _=>rfl,fun _ _ _=>rfl,fun _ _ _=>rfl,fun _ _ _=>rfl,fun _ _ _=>rfl,fun _ _ _=>rfl,trivial⟩ (by kernel_rfl) (fun w_ h=>⟨fun _=>g3 0 none 0 none w_,h.drew⟩) ⟨?_,?_,?_,?_,?_,?_,?_,?_,?_,?_,?_,?_,?_,?_,?_,?_,?_,?_,?_,?_,?_,?_,?_,?_,?_,?_,?_,?_,?_,?_,?_,?_,?_,?_,?_,?_,?_,?_,?_,trivial⟩ ?_
     ·intro Lx g23 s K hl hh k
      show At 95 ((0,_)::(3,_)::(5,_)::(6,_)::(7,_)::Lx) _ _
      refine am ?_
      exact at_nil k
     ·intro Lx g23 s K hl hh k
      show At 95 ((0,_)::(3,_)::(5,_)::(6,_)::(7,_)::Lx) _ _
      refine am ?_
      exact at_nil k
     ·intro Lx g23 s K hl hh k
      show At 95 ((31,_)::(32,_)::(0,_)::(3,_)::(5,_)::(6,_)::(7,_)::Lx) _ _
      refine aw (r_idx underlying55 sizeOf60 rfl rfl h14 hp15) ?_
      exact at_nil k
     ·intro Lx g23 s K hl hh k
      show At 95 ((33,_)::(0,_)::(3,_)::(5,_)::(6,_)::(7,_)::Lx) _ _
      refine fa 0 underlying60 rfl sizeOf26 ?_
      exact at_nil k
     ·intro Lx g23 s K hl hh k
      show At 95 ((34,_)::(0,_)::(3,_)::(5,_)::(6,_)::(7,_)::Lx) _ _
      refine fa 0 underlying26 rfl sizeOf24 ?_
      exact at_nil k
     ·intro Lx g23 s K hl hh k
      show At 95 ((35,_)::(0,_)::(3,_)::(5,_)::(6,_)::(7,_)::Lx) _ _
      obtain rfl:s=0:=by omega
      refine aw (r_load_aggc (c:=c_api_Addr) (z:=((lget t4 i12).f_Range).f_From) isAgg24 sizeOf24 rfl (fun w1 hw=>row_lens (y:=((lget t4 i12).f_Range).f_From) (W:=fun w1=>w1=_) (fun w1 h=>by subst h;exact Below.refl _ _) (hw.own (.s .z)).row h14 hp15 (Lens.comp (Lens.comp lw (fun z=>{ (lget t4 i12) with f_Range:=z }) (c_flat_Span_f_Range (lget t4 i12))) (fun z=>{ (lget t4 i12).f_Range with f_From:=z }) (c_aggregate_Range_f_From ((lget t4 i12).f_Range))) _ rfl)) ?_
      exact at_nil k
     ·intro Lx g23 s K hl hh k
      show At 95 ((0,_)::(3,_)::(5,_)::(6,_)::(7,_)::Lx) _ _
      refine am ?_
      exact at_nil k
     ·intro Lx g23 s K hl hh k
      show At 95 ((0,_)::(3,_)::(5,_)::(6,_)::(7,_)::Lx) _ _
      refine am ?_
      exact at_nil k
     ·intro Lx g23 s K hl hh k
      show At 95 ((37,_)::(38,_)::(0,_)::(3,_)::(5,_)::(6,_)::(7,_)::Lx) _ _
      refine aw (r_idx underlying57 sizeOf62 rfl rfl h18 hp19) ?_
      exact at_nil k
     ·intro Lx g23 s K hl hh k
      show At 95 ((39,_)::(0,_)::(3,_)::(5,_)::(6,_)::(7,_)::Lx) _ _
      refine fa 0 underlying62 rfl sizeOf24 ?_
      exact at_nil k
     ·intro Lx g23 s K hl hh k
      show At 95 ((40,_)::(0,_)::(3,_)::(5,_)::(6,_)::(7,_)::Lx) _ _
      obtain rfl:s=0:=by omega
      refine aw (r_load_aggc (c:=c_api_Addr) (z:=(lget t7 i12).f_From) isAgg24 sizeOf24 rfl (fun w1 hw=>row_lens (y:=(lget t7 i12).f_From) (W:=fun w1=>w1=_) (fun w1 h=>by subst h;exact Below.refl _ _) (hw.own .z).row h18 hp19 (Lens.comp lw (fun z=>{ (lget t7 i12) with f_From:=z }) (c_crawlwayref59_Span_f_From (lget t7 i12))) _ rfl)) ?_
      exact at_nil k
     ·intro Lx g23 s K hl hh k
      show At 95 ((36,_)::(41,_)::(0,_)::(3,_)::(5,_)::(6,_)::(7,_)::Lx) _ _
      refine aw (r_eqagg (c:=c_api_Addr) (a:=((lget t4 i12).f_Range).f_From) (b:=(lget t7 i12).f_From) (eq_api_Addr_24) rfl Try.eqGuardType24 rfl rfl (.inr rfl) rfl) ?_
      exact at_nil k
     ·intro Lx g23 s K hl hh k
      show At 95 ((42,_)::(0,_)::(3,_)::(5,_)::(6,_)::(7,_)::Lx) _ _
      refine am ?_
      exact at_nil (at_cast h22 k)
     ·intro Lx g23 s K hl hh k
      show At 95 ((43,_)::(0,_)::(3,_)::(5,_)::(6,_)::(7,_)::Lx) _ _
      refine gn ?_
      exact at_nil k
     ·intro Lx g23 s K hl hh k
      show At 95 ((43,_)::(0,_)::(3,_)::(5,_)::(6,_)::(7,_)::Lx) _ _
      refine gn ?_
      exact at_nil k
     ·intro Lx g23 s K hl hh k
      show At 95 ((43,_)::(44,_)::(45,_)::(0,_)::(3,_)::(5,_)::(6,_)::(7,_)::Lx) _ _
      refine gn ?_
      exact at_nil k
     ·intro Lx g23 s K hl hh k
      show At 95 ((43,_)::(46,_)::(0,_)::(3,_)::(5,_)::(6,_)::(7,_)::Lx) _ _
      refine gn ?_
      exact at_nil k
     ·intro Lx g23 s K hl hh k
      show At 95 ((43,_)::(47,_)::(0,_)::(3,_)::(5,_)::(6,_)::(7,_)::Lx) _ _
      refine gn ?_
      exact at_nil k
     ·intro Lx g23 s K hl hh k
      show At 95 ((43,_)::(48,_)::(0,_)::(3,_)::(5,_)::(6,_)::(7,_)::Lx) _ _
      obtain rfl:s=0:=by omega
      refine gn ?_
      exact at_nil k
     ·intro Lx g23 s K hl hh k
      show At 95 ((43,_)::(0,_)::(3,_)::(5,_)::(6,_)::(7,_)::Lx) _ _
      refine gn ?_
      exact at_nil k
     ·intro Lx g23 s K hl hh k
      show At 95 ((43,_)::(0,_)::(3,_)::(5,_)::(6,_)::(7,_)::Lx) _ _
      refine gn ?_
      exact at_nil k
     ·intro Lx g23 s K hl hh k
      show At 95 ((43,_)::(50,_)::(51,_)::(0,_)::(3,_)::(5,_)::(6,_)::(7,_)::Lx) _ _
      refine gn ?_
      exact at_nil k
     ·intro Lx g23 s K hl hh k
      show At 95 ((43,_)::(52,_)::(0,_)::(3,_)::(5,_)::(6,_)::(7,_)::Lx) _ _
      refine gn ?_
      exact at_nil k
     ·intro Lx g23 s K hl hh k
      show At 95 ((43,_)::(53,_)::(0,_)::(3,_)::(5,_)::(6,_)::(7,_)::Lx) _ _
      obtain rfl:s=0:=by omega
      refine gn ?_
      exact at_nil k
     ·intro Lx g23 s K hl hh k
      show At 95 ((43,_)::(49,_)::(54,_)::(0,_)::(3,_)::(5,_)::(6,_)::(7,_)::Lx) _ _
      refine gn ?_
      exact at_nil k
     ·intro Lx g23 s K hl hh k
      show At 95 ((43,_)::(55,_)::(0,_)::(3,_)::(5,_)::(6,_)::(7,_)::Lx) _ _
      refine aw xp ?_
      exact at_nil k
     ·intro Lx g23 s K hl hh k
      show At 95 ((56,_)::(0,_)::(3,_)::(5,_)::(6,_)::(7,_)::Lx) _ _
      refine am ?_
      exact at_nil k
     ·intro Lx g23 s K hl hh k
      show At 95 ((57,_)::(0,_)::(3,_)::(5,_)::(6,_)::(7,_)::Lx) _ _
      refine gn ?_
      exact at_nil k
     ·intro Lx g23 s K hl hh k
      show At 95 ((57,_)::(0,_)::(3,_)::(5,_)::(6,_)::(7,_)::Lx) _ _
      refine gn ?_
      exact at_nil k
     ·intro Lx g23 s K hl hh k
      show At 95 ((57,_)::(58,_)::(59,_)::(0,_)::(3,_)::(5,_)::(6,_)::(7,_)::Lx) _ _
      refine gn ?_
      exact at_nil k
     ·intro Lx g23 s K hl hh k
      show At 95 ((57,_)::(60,_)::(0,_)::(3,_)::(5,_)::(6,_)::(7,_)::Lx) _ _
      refine gn ?_
      exact at_nil k
     ·intro Lx g23 s K hl hh k
      show At 95 ((57,_)::(61,_)::(0,_)::(3,_)::(5,_)::(6,_)::(7,_)::Lx) _ _
      obtain rfl:s=0:=by omega
      refine gn ?_
      exact at_nil k
     ·intro Lx g23 s K hl hh k
      show At 95 ((57,_)::(0,_)::(3,_)::(5,_)::(6,_)::(7,_)::Lx) _ _
      refine gn ?_
      exact at_nil k
     ·intro Lx g23 s K hl hh k
      show At 95 ((57,_)::(0,_)::(3,_)::(5,_)::(6,_)::(7,_)::Lx) _ _
      refine gn ?_
      exact at_nil k
     ·intro Lx g23 s K hl hh k
      show At 95 ((57,_)::(63,_)::(64,_)::(0,_)::(3,_)::(5,_)::(6,_)::(7,_)::Lx) _ _
      refine gn ?_
      exact at_nil k
     ·intro Lx g23 s K hl hh k
      show At 95 ((57,_)::(65,_)::(0,_)::(3,_)::(5,_)::(6,_)::(7,_)::Lx) _ _
      refine gn ?_
      exact at_nil k
     ·intro Lx g23 s K hl hh k
      show At 95 ((57,_)::(66,_)::(0,_)::(3,_)::(5,_)::(6,_)::(7,_)::Lx) _ _
      obtain rfl:s=0:=by omega
      refine gn ?_
      exact at_nil k
     ·intro Lx g23 s K hl hh k
      show At 95 ((57,_)::(62,_)::(67,_)::(0,_)::(3,_)::(5,_)::(6,_)::(7,_)::Lx) _ _
      refine gn ?_
      exact at_nil k
     ·intro Lx g23 s K hl hh k
      show At 95 ((57,_)::(68,_)::(0,_)::(3,_)::(5,_)::(6,_)::(7,_)::Lx) _ _
      refine aw xp ?_
      exact at_nil k
     intro g23
     show At 95 [(31,_),(32,_),(33,_),(34,_),(35,_),(36,_),(37,_),(38,_),(39,_),(40,_),(41,_),(42,_),(43,_),(44,_),(45,_),(46,_),(47,_),(48,_),(49,_),(50,_),(51,_),(52,_),(53,_),(54,_),(55,_),(56,_),(57,_),(58,_),(59,_),(60,_),(61,_),(62,_),(63,_),(64,_),(65,_),(66,_),(67,_),(68,_),(69,_),(0,_),(3,_),(5,_),(6,_),(7,_)] _ _
     refine wq [69,7,6,5,3,0] ?_
     refine tn ?_
     refine ct rfl ?_
     refine sr (aa (qn (dz (dz (dz (wq [4] ?_))))))
     refine tn (qt ?_)
     refine br (tr (tr (br (tr ?_))))
     obtain rfl:=os hF
     subst K
     exact r1 wb
    skip
    obtain ⟨h24,hF⟩:=gd hF
    refine at_pure (φ:=∃ b o,p5=some ⟨b,o,none⟩) (fun _ hw=>row_ptr (hw.own (.s .z)).row h24) ?_
    rintro ⟨b26,o27,hp25⟩
    obtain ⟨h28,hF⟩:=gd hF
    refine at_pure (φ:=∃ b o,p8=some ⟨b,o,none⟩) (fun _ hw=>row_ptr (hw.own .z).row h28) ?_
    rintro ⟨b30,o31,hp29⟩
    obtain ⟨h32,hF⟩|⟨h32,hF⟩:=oi hF
    ·skip
     refine at_inv [.q 31 (fun g33=>.slice p5 t4.length c6) [] 0 0,.q 32 (fun g33=>.int .i64 i12) [] 0 0,.q 33 (fun g33=>.pointer (some ⟨b16,o17+Int.toNat i12*35,none⟩)) [0,1] 0 0,.q 34 (fun g33=>.pointer (some ⟨b16,o17+Int.toNat i12*35+0,none⟩)) [2] 0 0,.q 35 (fun g33=>.pointer (some ⟨b16,o17+Int.toNat i12*35+0+0,none⟩)) [3] 0 0,.q 36 (fun g33=>.agg (Cd.cs c_api_Addr (((lget t4 i12).f_Range).f_From)).toArray) [4] 0 0,.q 37 (fun g33=>.slice p8 t7.length c9) [] 0 0,.q 38 (fun g33=>.int .i64 i12) [] 0 0,.q 39 (fun g33=>.pointer (some ⟨b20,o21+Int.toNat i12*35,none⟩)) [6,7] 0 0,.q 40 (fun g33=>.pointer (some ⟨b20,o21+Int.toNat i12*35+0,none⟩)) [8] 0 0,.q 41 (fun g33=>.agg (Cd.cs c_api_Addr ((lget t7 i12).f_From)).toArray) [9] 0 0,.q 42 (fun g33=>.bool (!decide (((lget t4 i12).f_Range).f_From=(lget t7 i12).f_From))) [5,10] 0 0,.q 43 (fun g33=>.bool false) [11] 0 0,.q 44 (fun g33=>.slice p5 t4.length c6) [12] 0 0,.q 45 (fun g33=>.int .i64 i12) [12] 0 0,.q 46 (fun g33=>.pointer (some ⟨b26,o27+Int.toNat i12*35,none⟩)) [12,13,14] 0 0,.q 47 (fun g33=>.pointer (some ⟨b26,o27+Int.toNat i12*35+0,none⟩)) [12,15] 0 0,.q 48 (fun g33=>.pointer (some ⟨b26,o27+Int.toNat i12*35+0+17,none⟩)) [12,16] 0 0,.q 49 (fun g33=>.agg (Cd.cs c_api_Addr (((lget t4 i12).f_Range).f_To)).toArray) [12,17] 0 0,.q 50 (fun g33=>.slice p8 t7.length c9) [12] 0 0,.q 51 (fun g33=>.int .i64 i12) [12] 0 0,.q 52 (fun g33=>.pointer (some ⟨b30,o31+Int.toNat i12*35,none⟩)) [12,19,20] 0 0,.q 53 (fun g33=>.pointer (some ⟨b30,o31+Int.toNat i12*35+17,none⟩)) [12,21] 0 0,.q 54 (fun g33=>.agg (Cd.cs c_api_Addr ((lget t7 i12).f_To)).toArray) [12,22] 0 0,.q 55 (fun g33=>.bool (!decide (((lget t4 i12).f_Range).f_To=(lget t7 i12).f_To))) [12,18,23] 0 0,.q 56 (fun g33=>.bool (!decide (((lget t4 i12).f_Range).f_To=(lget t7 i12).f_To))) [12,24] 0 0,.q 57 (fun g33=>.bool true) [25] 0 0,.q 58 (fun g33=>undef) [26] 0 0,.q 59 (fun g33=>undef) [26] 0 0,.q 60 (fun g33=>undef) [26,27,28] 0 0,.q 61 (fun g33=>undef) [26,29] 0 0,.q 62 (fun g33=>undef) [26,30] 0 0,.q 63 (fun g33=>undef) [26] 0 0,.q 64 (fun g33=>undef) [26] 0 0,.q 65 (fun g33=>undef) [26,32,33] 0 0,.q 66 (fun g33=>undef) [26,34] 0 0,.q 67 (fun g33=>undef) [26,35] 0 0,.q 68 (fun g33=>undef) [26,31,36] 0 0,.q 69 (fun g33=>.bool true) [26,37] 0 0] (fun g33 s=>match s with | _=>(Wd w [rowE c_crawlwayref59_Span 62 p8 c9 t7,rowE c_flat_Span 60 p5 c6 t4,cellsE b1 (Cd.cs c_api_Addr x1) 24])) 0 (by kernel_rfl) (by kernel_rfl) (by kernel_rfl) (by kernel_rfl) (by kernel_rfl) ⟨fun _ _ _=>rfl,fun _ _ _=>rfl,fun _ _ _=>rfl,fun _ _ _=>rfl,fun _ _ _=>rfl,fun _ _ _=>rfl,fun _ _ _=>rfl,fun _ _ _=>rfl,fun _ _ _=>rfl,fun _ _ _=>rfl,fun _ _ _=>rfl,fun _ _ _=>rfl,fun _ _ _=>rfl,fun _ _ _=>rfl,fun _ _ _=>rfl,fun _ _ _=>rfl,fun _ _ _=>rfl,fun _ _ _=>rfl,fun _ _ _=>rfl,fun _ _ _=>rfl,fun _ _ _=>rfl,fun _ _ _=>rfl,fun _ _ _=>rfl,fun _ _ _=>rfl,fun _ _ _=>rfl,fun _ _ _=>rfl,fun _ _ _=>rfl,fun _ _ _=>rfl,fun _ _ _=>rfl,fun _ _ _=>rfl,fun _ _ _=>rfl,fun _ _ _=>rfl,fun _ _ _=>rfl,fun _ _ _=>rfl,fun _ _ _=>rfl,fun _ _ _=>rfl,fun _ _ _=>rfl,fun _ _ _=>rfl,fun _ _ _=>rfl,trivial⟩ (by kernel_rfl) (fun w_ h=>⟨fun _=>g3 0 none 0 none w_,h.drew⟩) ⟨?_,?_,?_,?_,?_,?_,?_,?_,?_,?_,?_,?_,?_,?_,?_,?_,?_,?_,?_,?_,?_,?_,?_,?_,?_,?_,?_,?_,?_,?_,?_,?_,?_,?_,?_,?_,?_,?_,?_,trivial⟩ ?_
     ·intro Lx g33 s K hl hh k
      show At 95 ((0,_)::(3,_)::(5,_)::(6,_)::(7,_)::Lx) _ _
      refine am ?_
      exact at_nil k
     ·intro Lx g33 s K hl hh k
      show At 95 ((0,_)::(3,_)::(5,_)::(6,_)::(7,_)::Lx) _ _
      refine am ?_
      exact at_nil k
     ·intro Lx g33 s K hl hh k
      show At 95 ((31,_)::(32,_)::(0,_)::(3,_)::(5,_)::(6,_)::(7,_)::Lx) _ _
      refine aw (r_idx underlying55 sizeOf60 rfl rfl h14 hp15) ?_
      exact at_nil k
     ·intro Lx g33 s K hl hh k
      show At 95 ((33,_)::(0,_)::(3,_)::(5,_)::(6,_)::(7,_)::Lx) _ _
      refine fa 0 underlying60 rfl sizeOf26 ?_
      exact at_nil k
     ·intro Lx g33 s K hl hh k
      show At 95 ((34,_)::(0,_)::(3,_)::(5,_)::(6,_)::(7,_)::Lx) _ _
      refine fa 0 underlying26 rfl sizeOf24 ?_
      exact at_nil k
     ·intro Lx g33 s K hl hh k
      show At 95 ((35,_)::(0,_)::(3,_)::(5,_)::(6,_)::(7,_)::Lx) _ _
      obtain rfl:s=0:=by omega
      refine aw (r_load_aggc (c:=c_api_Addr) (z:=((lget t4 i12).f_Range).f_From) isAgg24 sizeOf24 rfl (fun w1 hw=>row_lens (y:=((lget t4 i12).f_Range).f_From) (W:=fun w1=>w1=_) (fun w1 h=>by subst h;exact Below.refl _ _) (hw.own (.s .z)).row h14 hp15 (Lens.comp (Lens.comp lw (fun z=>{ (lget t4 i12) with f_Range:=z }) (c_flat_Span_f_Range (lget t4 i12))) (fun z=>{ (lget t4 i12).f_Range with f_From:=z }) (c_aggregate_Range_f_From ((lget t4 i12).f_Range))) _ rfl)) ?_
      exact at_nil k
     ·intro Lx g33 s K hl hh k
      show At 95 ((0,_)::(3,_)::(5,_)::(6,_)::(7,_)::Lx) _ _
      refine am ?_
      exact at_nil k
     ·intro Lx g33 s K hl hh k
      show At 95 ((0,_)::(3,_)::(5,_)::(6,_)::(7,_)::Lx) _ _
      refine am ?_
      exact at_nil k
     ·intro Lx g33 s K hl hh k
      show At 95 ((37,_)::(38,_)::(0,_)::(3,_)::(5,_)::(6,_)::(7,_)::Lx) _ _
      refine aw (r_idx underlying57 sizeOf62 rfl rfl h18 hp19) ?_
      exact at_nil k
     ·intro Lx g33 s K hl hh k
      show At 95 ((39,_)::(0,_)::(3,_)::(5,_)::(6,_)::(7,_)::Lx) _ _
      refine fa 0 underlying62 rfl sizeOf24 ?_
      exact at_nil k
     ·intro Lx g33 s K hl hh k
      show At 95 ((40,_)::(0,_)::(3,_)::(5,_)::(6,_)::(7,_)::Lx) _ _
      obtain rfl:s=0:=by omega
      refine aw (r_load_aggc (c:=c_api_Addr) (z:=(lget t7 i12).f_From) isAgg24 sizeOf24 rfl (fun w1 hw=>row_lens (y:=(lget t7 i12).f_From) (W:=fun w1=>w1=_) (fun w1 h=>by subst h;exact Below.refl _ _) (hw.own .z).row h18 hp19 (Lens.comp lw (fun z=>{ (lget t7 i12) with f_From:=z }) (c_crawlwayref59_Span_f_From (lget t7 i12))) _ rfl)) ?_
      exact at_nil k
     ·intro Lx g33 s K hl hh k
      show At 95 ((36,_)::(41,_)::(0,_)::(3,_)::(5,_)::(6,_)::(7,_)::Lx) _ _
      refine aw (r_eqagg (c:=c_api_Addr) (a:=((lget t4 i12).f_Range).f_From) (b:=(lget t7 i12).f_From) (eq_api_Addr_24) rfl Try.eqGuardType24 rfl rfl (.inr rfl) rfl) ?_
      exact at_nil k
     ·intro Lx g33 s K hl hh k
      show At 95 ((42,_)::(0,_)::(3,_)::(5,_)::(6,_)::(7,_)::Lx) _ _
      refine am ?_
      exact at_nil (at_cast h22 k)
     ·intro Lx g33 s K hl hh k
      show At 95 ((43,_)::(0,_)::(3,_)::(5,_)::(6,_)::(7,_)::Lx) _ _
      refine gy ?_
      refine am ?_
      exact at_nil k
     ·intro Lx g33 s K hl hh k
      show At 95 ((43,_)::(0,_)::(3,_)::(5,_)::(6,_)::(7,_)::Lx) _ _
      refine gy ?_
      refine am ?_
      exact at_nil k
     ·intro Lx g33 s K hl hh k
      show At 95 ((43,_)::(44,_)::(45,_)::(0,_)::(3,_)::(5,_)::(6,_)::(7,_)::Lx) _ _
      refine gy ?_
      refine aw (r_idx underlying55 sizeOf60 rfl rfl h24 hp25) ?_
      exact at_nil k
     ·intro Lx g33 s K hl hh k
      show At 95 ((43,_)::(46,_)::(0,_)::(3,_)::(5,_)::(6,_)::(7,_)::Lx) _ _
      refine gy ?_
      refine fa 0 underlying60 rfl sizeOf26 ?_
      exact at_nil k
     ·intro Lx g33 s K hl hh k
      show At 95 ((43,_)::(47,_)::(0,_)::(3,_)::(5,_)::(6,_)::(7,_)::Lx) _ _
      refine gy ?_
      refine fa 17 underlying26 rfl sizeOf24 ?_
      exact at_nil k
     ·intro Lx g33 s K hl hh k
      show At 95 ((43,_)::(48,_)::(0,_)::(3,_)::(5,_)::(6,_)::(7,_)::Lx) _ _
      refine gy ?_
      obtain rfl:s=0:=by omega
      refine aw (r_load_aggc (c:=c_api_Addr) (z:=((lget t4 i12).f_Range).f_To) isAgg24 sizeOf24 rfl (fun w1 hw=>row_lens (y:=((lget t4 i12).f_Range).f_To) (W:=fun w1=>w1=_) (fun w1 h=>by subst h;exact Below.refl _ _) (hw.own (.s .z)).row h24 hp25 (Lens.comp (Lens.comp lw (fun z=>{ (lget t4 i12) with f_Range:=z }) (c_flat_Span_f_Range (lget t4 i12))) (fun z=>{ (lget t4 i12).f_Range with f_To:=z }) (c_aggregate_Range_f_To ((lget t4 i12).f_Range))) _ rfl)) ?_
      exact at_nil k
     ·intro Lx g33 s K hl hh k
      show At 95 ((43,_)::(0,_)::(3,_)::(5,_)::(6,_)::(7,_)::Lx) _ _
      refine gy ?_
      refine am ?_
      exact at_nil k
     ·intro Lx g33 s K hl hh k
      show At 95 ((43,_)::(0,_)::(3,_)::(5,_)::(6,_)::(7,_)::Lx) _ _
      refine gy ?_
      refine am ?_
      exact at_nil k
     ·intro Lx g33 s K hl hh k
      show At 95 ((43,_)::(50,_)::(51,_)::(0,_)::(3,_)::(5,_)::(6,_)::(7,_)::Lx) _ _
      refine gy ?_
      refine aw (r_idx underlying57 sizeOf62 rfl rfl h28 hp29) ?_
      exact at_nil k
     ·intro Lx g33 s K hl hh k
      show At 95 ((43,_)::(52,_)::(0,_)::(3,_)::(5,_)::(6,_)::(7,_)::Lx) _ _
      refine gy ?_
      refine fa 17 underlying62 rfl sizeOf24 ?_
      exact at_nil k
     ·intro Lx g33 s K hl hh k
      show At 95 ((43,_)::(53,_)::(0,_)::(3,_)::(5,_)::(6,_)::(7,_)::Lx) _ _
      refine gy ?_
      obtain rfl:s=0:=by omega
      refine aw (r_load_aggc (c:=c_api_Addr) (z:=(lget t7 i12).f_To) isAgg24 sizeOf24 rfl (fun w1 hw=>row_lens (y:=(lget t7 i12).f_To) (W:=fun w1=>w1=_) (fun w1 h=>by subst h;exact Below.refl _ _) (hw.own .z).row h28 hp29 (Lens.comp lw (fun z=>{ (lget t7 i12) with f_To:=z }) (c_crawlwayref59_Span_f_To (lget t7 i12))) _ rfl)) ?_
      exact at_nil k
     ·intro Lx g33 s K hl hh k
      show At 95 ((43,_)::(49,_)::(54,_)::(0,_)::(3,_)::(5,_)::(6,_)::(7,_)::Lx) _ _
      refine gy ?_
      refine aw (r_eqagg (c:=c_api_Addr) (a:=((lget t4 i12).f_Range).f_To) (b:=(lget t7 i12).f_To) (eq_api_Addr_24) rfl Try.eqGuardType24 rfl rfl (.inr rfl) rfl) ?_
      exact at_nil k
     ·intro Lx g33 s K hl hh k
      show At 95 ((43,_)::(55,_)::(0,_)::(3,_)::(5,_)::(6,_)::(7,_)::Lx) _ _
      refine aw xp ?_
      exact at_nil k
     ·intro Lx g33 s K hl hh k
      show At 95 ((56,_)::(0,_)::(3,_)::(5,_)::(6,_)::(7,_)::Lx) _ _
      refine am ?_
      exact at_nil (at_cast h32 k)
     ·intro Lx g33 s K hl hh k
      show At 95 ((57,_)::(0,_)::(3,_)::(5,_)::(6,_)::(7,_)::Lx) _ _
      refine gn ?_
      exact at_nil k
     ·intro Lx g33 s K hl hh k
      show At 95 ((57,_)::(0,_)::(3,_)::(5,_)::(6,_)::(7,_)::Lx) _ _
      refine gn ?_
      exact at_nil k
     ·intro Lx g33 s K hl hh k
      show At 95 ((57,_)::(58,_)::(59,_)::(0,_)::(3,_)::(5,_)::(6,_)::(7,_)::Lx) _ _
      refine gn ?_
      exact at_nil k
     ·intro Lx g33 s K hl hh k
      show At 95 ((57,_)::(60,_)::(0,_)::(3,_)::(5,_)::(6,_)::(7,_)::Lx) _ _
      refine gn ?_
      exact at_nil k
     ·intro Lx g33 s K hl hh k
      show At 95 ((57,_)::(61,_)::(0,_)::(3,_)::(5,_)::(6,_)::(7,_)::Lx) _ _
      obtain rfl:s=0:=by omega
      refine gn ?_
      exact at_nil k
     ·intro Lx g33 s K hl hh k
      show At 95 ((57,_)::(0,_)::(3,_)::(5,_)::(6,_)::(7,_)::Lx) _ _
      refine gn ?_
      exact at_nil k
     ·intro Lx g33 s K hl hh k
      show At 95 ((57,_)::(0,_)::(3,_)::(5,_)::(6,_)::(7,_)::Lx) _ _
      refine gn ?_
      exact at_nil k
     ·intro Lx g33 s K hl hh k
      show At 95 ((57,_)::(63,_)::(64,_)::(0,_)::(3,_)::(5,_)::(6,_)::(7,_)::Lx) _ _
      refine gn ?_
      exact at_nil k
     ·intro Lx g33 s K hl hh k
      show At 95 ((57,_)::(65,_)::(0,_)::(3,_)::(5,_)::(6,_)::(7,_)::Lx) _ _
      refine gn ?_
      exact at_nil k
     ·intro Lx g33 s K hl hh k
      show At 95 ((57,_)::(66,_)::(0,_)::(3,_)::(5,_)::(6,_)::(7,_)::Lx) _ _
      obtain rfl:s=0:=by omega
      refine gn ?_
      exact at_nil k
     ·intro Lx g33 s K hl hh k
      show At 95 ((57,_)::(62,_)::(67,_)::(0,_)::(3,_)::(5,_)::(6,_)::(7,_)::Lx) _ _
      refine gn ?_
      exact at_nil k
     ·intro Lx g33 s K hl hh k
      show At 95 ((57,_)::(68,_)::(0,_)::(3,_)::(5,_)::(6,_)::(7,_)::Lx) _ _
      refine aw xp ?_
      exact at_nil k
     intro g33
     show At 95 [(31,_),(32,_),(33,_),(34,_),(35,_),(36,_),(37,_),(38,_),(39,_),(40,_),(41,_),(42,_),(43,_),(44,_),(45,_),(46,_),(47,_),(48,_),(49,_),(50,_),(51,_),(52,_),(53,_),(54,_),(55,_),(56,_),(57,_),(58,_),(59,_),(60,_),(61,_),(62,_),(63,_),(64,_),(65,_),(66,_),(67,_),(68,_),(69,_),(0,_),(3,_),(5,_),(6,_),(7,_)] _ _
     refine wq [69,7,6,5,3,0] ?_
     refine tn ?_
     refine ct rfl ?_
     refine sr (aa (qn (dz (dz (dz (wq [4] ?_))))))
     refine tn (qt ?_)
     refine br (tr (tr (br (tr ?_))))
     obtain rfl:=os hF
     subst K
     exact r1 wb
    skip
    obtain ⟨h34,hF⟩:=gd hF
    refine at_pure (φ:=∃ b o,p5=some ⟨b,o,none⟩) (fun _ hw=>row_ptr (hw.own (.s .z)).row h34) ?_
    rintro ⟨b36,o37,hp35⟩
    obtain ⟨h38,hF⟩:=gd hF
    refine at_pure (φ:=∃ b o,p8=some ⟨b,o,none⟩) (fun _ hw=>row_ptr (hw.own .z).row h38) ?_
    rintro ⟨b40,o41,hp39⟩
    refine at_inv [.q 31 (fun g42=>.slice p5 t4.length c6) [] 0 0,.q 32 (fun g42=>.int .i64 i12) [] 0 0,.q 33 (fun g42=>.pointer (some ⟨b16,o17+Int.toNat i12*35,none⟩)) [0,1] 0 0,.q 34 (fun g42=>.pointer (some ⟨b16,o17+Int.toNat i12*35+0,none⟩)) [2] 0 0,.q 35 (fun g42=>.pointer (some ⟨b16,o17+Int.toNat i12*35+0+0,none⟩)) [3] 0 0,.q 36 (fun g42=>.agg (Cd.cs c_api_Addr (((lget t4 i12).f_Range).f_From)).toArray) [4] 0 0,.q 37 (fun g42=>.slice p8 t7.length c9) [] 0 0,.q 38 (fun g42=>.int .i64 i12) [] 0 0,.q 39 (fun g42=>.pointer (some ⟨b20,o21+Int.toNat i12*35,none⟩)) [6,7] 0 0,.q 40 (fun g42=>.pointer (some ⟨b20,o21+Int.toNat i12*35+0,none⟩)) [8] 0 0,.q 41 (fun g42=>.agg (Cd.cs c_api_Addr ((lget t7 i12).f_From)).toArray) [9] 0 0,.q 42 (fun g42=>.bool (!decide (((lget t4 i12).f_Range).f_From=(lget t7 i12).f_From))) [5,10] 0 0,.q 43 (fun g42=>.bool false) [11] 0 0,.q 44 (fun g42=>.slice p5 t4.length c6) [12] 0 0,.q 45 (fun g42=>.int .i64 i12) [12] 0 0,.q 46 (fun g42=>.pointer (some ⟨b26,o27+Int.toNat i12*35,none⟩)) [12,13,14] 0 0,.q 47 (fun g42=>.pointer (some ⟨b26,o27+Int.toNat i12*35+0,none⟩)) [12,15] 0 0,.q 48 (fun g42=>.pointer (some ⟨b26,o27+Int.toNat i12*35+0+17,none⟩)) [12,16] 0 0,.q 49 (fun g42=>.agg (Cd.cs c_api_Addr (((lget t4 i12).f_Range).f_To)).toArray) [12,17] 0 0,.q 50 (fun g42=>.slice p8 t7.length c9) [12] 0 0,.q 51 (fun g42=>.int .i64 i12) [12] 0 0,.q 52 (fun g42=>.pointer (some ⟨b30,o31+Int.toNat i12*35,none⟩)) [12,19,20] 0 0,.q 53 (fun g42=>.pointer (some ⟨b30,o31+Int.toNat i12*35+17,none⟩)) [12,21] 0 0,.q 54 (fun g42=>.agg (Cd.cs c_api_Addr ((lget t7 i12).f_To)).toArray) [12,22] 0 0,.q 55 (fun g42=>.bool (!decide (((lget t4 i12).f_Range).f_To=(lget t7 i12).f_To))) [12,18,23] 0 0,.q 56 (fun g42=>.bool (!decide (((lget t4 i12).f_Range).f_To=(lget t7 i12).f_To))) [12,24] 0 0,.q 57 (fun g42=>.bool false) [25] 0 0,.q 58 (fun g42=>.slice p5 t4.length c6) [26] 0 0,.q 59 (fun g42=>.int .i64 i12) [26] 0 0,.q 60 (fun g42=>.pointer (some ⟨b36,o37+Int.toNat i12*35,none⟩)) [26,27,28] 0 0,.q 61 (fun g42=>.pointer (some ⟨b36,o37+Int.toNat i12*35+34,none⟩)) [26,29] 0 0,.q 62 (fun g42=>.int .i64 ((lget t4 i12).f_Owner)) [26,30] 0 0,.q 63 (fun g42=>.slice p8 t7.length c9) [26] 0 0,.q 64 (fun g42=>.int .i64 i12) [26] 0 0,.q 65 (fun g42=>.pointer (some ⟨b40,o41+Int.toNat i12*35,none⟩)) [26,32,33] 0 0,.q 66 (fun g42=>.pointer (some ⟨b40,o41+Int.toNat i12*35+34,none⟩)) [26,34] 0 0,.q 67 (fun g42=>.int .i64 ((lget t7 i12).f_Owner)) [26,35] 0 0,.q 68 (fun g42=>.bool ((lget t4 i12).f_Owner != (lget t7 i12).f_Owner)) [26,31,36] 0 0,.q 69 (fun g42=>.bool ((lget t4 i12).f_Owner != (lget t7 i12).f_Owner)) [26,37] 0 0] (fun g42 s=>match s with | _=>(Wd w [rowE c_crawlwayref59_Span 62 p8 c9 t7,rowE c_flat_Span 60 p5 c6 t4,cellsE b1 (Cd.cs c_api_Addr x1) 24])) 0 (by kernel_rfl) (by kernel_rfl) (by kernel_rfl) (by kernel_rfl) (by kernel_rfl) ⟨fun _ _ _=>rfl,fun _ _ _=>rfl,fun _ _ _=>rfl,fun _ _ _=>rfl,fun _ _ _=>rfl,fun _ _ _=>rfl,fun _ _ _=>rfl,fun _ _ _=>rfl,fun _ _ _=>rfl,fun _ _ _=>rfl,fun _ _ _=>rfl,fun _ _ _=>rfl,fun _ _ _=>rfl,fun _ _ _=>rfl,fun _ _ _=>rfl,fun _ _ _=>rfl,fun _ _ _=>rfl,fun _ _ _=>rfl,fun _ _ _=>rfl,fun _ _ _=>rfl,fun _ _ _=>rfl,fun _ _ _=>rfl,fun _ _ _=>rfl,fun _ _ _=>rfl,fun _ _ _=>rfl,fun _ _ _=>rfl,fun _ _ _=>rfl,fun _ _ _=>rfl,fun _ _ _=>rfl,fun _ _ _=>rfl,fun _ _ _=>rfl,fun _ _ _=>rfl,fun _ _ _=>rfl,fun _ _ _=>rfl,fun _ _ _=>rfl,fun _ _ _=>rfl,fun _ _ _=>rfl,fun _ _ _=>rfl,fun _ _ _=>rfl,trivial⟩ (by kernel_rfl) (fun w_ h=>⟨fun _=>g3 0 none 0 none w_,h.drew⟩) ⟨?_,?_,?_,?_,?_,?_,?_,?_,?_,?_,?_,?_,?_,?_,?_,?_,?_,?_,?_,?_,?_,?_,?_,?_,?_,?_,?_,?_,?_,?_,?_,?_,?_,?_,?_,?_,?_,?_,?_,trivial⟩ ?_
    ·intro Lx g42 s K hl hh k
     show At 95 ((0,_)::(3,_)::(5,_)::(6,_)::(7,_)::Lx) _ _
     refine am ?_
     exact at_nil k
    ·intro Lx g42 s K hl hh k
     show At 95 ((0,_)::(3,_)::(5,_)::(6,_)::(7,_)::Lx) _ _
     refine am ?_
     exact at_nil k
    ·intro Lx g42 s K hl hh k
     show At 95 ((31,_)::(32,_)::(0,_)::(3,_)::(5,_)::(6,_)::(7,_)::Lx) _ _
     refine aw (r_idx underlying55 sizeOf60 rfl rfl h14 hp15) ?_
     exact at_nil k
    ·intro Lx g42 s K hl hh k
     show At 95 ((33,_)::(0,_)::(3,_)::(5,_)::(6,_)::(7,_)::Lx) _ _
     refine fa 0 underlying60 rfl sizeOf26 ?_
     exact at_nil k
    ·intro Lx g42 s K hl hh k
     show At 95 ((34,_)::(0,_)::(3,_)::(5,_)::(6,_)::(7,_)::Lx) _ _
     refine fa 0 underlying26 rfl sizeOf24 ?_
     exact at_nil k
    ·intro Lx g42 s K hl hh k
     show At 95 ((35,_)::(0,_)::(3,_)::(5,_)::(6,_)::(7,_)::Lx) _ _
     obtain rfl:s=0:=by omega
     refine aw (r_load_aggc (c:=c_api_Addr) (z:=((lget t4 i12).f_Range).f_From) isAgg24 sizeOf24 rfl (fun w1 hw=>row_lens (y:=((lget t4 i12).f_Range).f_From) (W:=fun w1=>w1=_) (fun w1 h=>by subst h;exact Below.refl _ _) (hw.own (.s .z)).row h14 hp15 (Lens.comp (Lens.comp lw (fun z=>{ (lget t4 i12) with f_Range:=z }) (c_flat_Span_f_Range (lget t4 i12))) (fun z=>{ (lget t4 i12).f_Range with f_From:=z }) (c_aggregate_Range_f_From ((lget t4 i12).f_Range))) _ rfl)) ?_
     exact at_nil k
    ·intro Lx g42 s K hl hh k
     show At 95 ((0,_)::(3,_)::(5,_)::(6,_)::(7,_)::Lx) _ _
     refine am ?_
     exact at_nil k
    ·intro Lx g42 s K hl hh k
     show At 95 ((0,_)::(3,_)::(5,_)::(6,_)::(7,_)::Lx) _ _
     refine am ?_
     exact at_nil k
    ·intro Lx g42 s K hl hh k
     show At 95 ((37,_)::(38,_)::(0,_)::(3,_)::(5,_)::(6,_)::(7,_)::Lx) _ _
     refine aw (r_idx underlying57 sizeOf62 rfl rfl h18 hp19) ?_
     exact at_nil k
    ·intro Lx g42 s K hl hh k
     show At 95 ((39,_)::(0,_)::(3,_)::(5,_)::(6,_)::(7,_)::Lx) _ _
     refine fa 0 underlying62 rfl sizeOf24 ?_
     exact at_nil k
    ·intro Lx g42 s K hl hh k
     show At 95 ((40,_)::(0,_)::(3,_)::(5,_)::(6,_)::(7,_)::Lx) _ _
     obtain rfl:s=0:=by omega
     refine aw (r_load_aggc (c:=c_api_Addr) (z:=(lget t7 i12).f_From) isAgg24 sizeOf24 rfl (fun w1 hw=>row_lens (y:=(lget t7 i12).f_From) (W:=fun w1=>w1=_) (fun w1 h=>by subst h;exact Below.refl _ _) (hw.own .z).row h18 hp19 (Lens.comp lw (fun z=>{ (lget t7 i12) with f_From:=z }) (c_crawlwayref59_Span_f_From (lget t7 i12))) _ rfl)) ?_
     exact at_nil k
    ·intro Lx g42 s K hl hh k
     show At 95 ((36,_)::(41,_)::(0,_)::(3,_)::(5,_)::(6,_)::(7,_)::Lx) _ _
     refine aw (r_eqagg (c:=c_api_Addr) (a:=((lget t4 i12).f_Range).f_From) (b:=(lget t7 i12).f_From) (eq_api_Addr_24) rfl Try.eqGuardType24 rfl rfl (.inr rfl) rfl) ?_
     exact at_nil k
    ·intro Lx g42 s K hl hh k
     show At 95 ((42,_)::(0,_)::(3,_)::(5,_)::(6,_)::(7,_)::Lx) _ _
     refine am ?_
     exact at_nil (at_cast h22 k)
    ·intro Lx g42 s K hl hh k
     show At 95 ((43,_)::(0,_)::(3,_)::(5,_)::(6,_)::(7,_)::Lx) _ _
     refine gy ?_
     refine am ?_
     exact at_nil k
    ·intro Lx g42 s K hl hh k
     show At 95 ((43,_)::(0,_)::(3,_)::(5,_)::(6,_)::(7,_)::Lx) _ _
     refine gy ?_
     refine am ?_
     exact at_nil k
    ·intro Lx g42 s K hl hh k
     show At 95 ((43,_)::(44,_)::(45,_)::(0,_)::(3,_)::(5,_)::(6,_)::(7,_)::Lx) _ _
     refine gy ?_
     refine aw (r_idx underlying55 sizeOf60 rfl rfl h24 hp25) ?_
     exact at_nil k
    ·intro Lx g42 s K hl hh k
     show At 95 ((43,_)::(46,_)::(0,_)::(3,_)::(5,_)::(6,_)::(7,_)::Lx) _ _
     refine gy ?_
     refine fa 0 underlying60 rfl sizeOf26 ?_
     exact at_nil k
    ·intro Lx g42 s K hl hh k
     show At 95 ((43,_)::(47,_)::(0,_)::(3,_)::(5,_)::(6,_)::(7,_)::Lx) _ _
     refine gy ?_
     refine fa 17 underlying26 rfl sizeOf24 ?_
     exact at_nil k
    ·intro Lx g42 s K hl hh k
     show At 95 ((43,_)::(48,_)::(0,_)::(3,_)::(5,_)::(6,_)::(7,_)::Lx) _ _
     refine gy ?_
     obtain rfl:s=0:=by omega
     refine aw (r_load_aggc (c:=c_api_Addr) (z:=((lget t4 i12).f_Range).f_To) isAgg24 sizeOf24 rfl (fun w1 hw=>row_lens (y:=((lget t4 i12).f_Range).f_To) (W:=fun w1=>w1=_) (fun w1 h=>by subst h;exact Below.refl _ _) (hw.own (.s .z)).row h24 hp25 (Lens.comp (Lens.comp lw (fun z=>{ (lget t4 i12) with f_Range:=z }) (c_flat_Span_f_Range (lget t4 i12))) (fun z=>{ (lget t4 i12).f_Range with f_To:=z }) (c_aggregate_Range_f_To ((lget t4 i12).f_Range))) _ rfl)) ?_
     exact at_nil k
    ·intro Lx g42 s K hl hh k
     show At 95 ((43,_)::(0,_)::(3,_)::(5,_)::(6,_)::(7,_)::Lx) _ _
     refine gy ?_
     refine am ?_
     exact at_nil k
    ·intro Lx g42 s K hl hh k
     show At 95 ((43,_)::(0,_)::(3,_)::(5,_)::(6,_)::(7,_)::Lx) _ _
     refine gy ?_
     refine am ?_
     exact at_nil k
    ·intro Lx g42 s K hl hh k
     show At 95 ((43,_)::(50,_)::(51,_)::(0,_)::(3,_)::(5,_)::(6,_)::(7,_)::Lx) _ _
     refine gy ?_
     refine aw (r_idx underlying57 sizeOf62 rfl rfl h28 hp29) ?_
     exact at_nil k
    ·intro Lx g42 s K hl hh k
     show At 95 ((43,_)::(52,_)::(0,_)::(3,_)::(5,_)::(6,_)::(7,_)::Lx) _ _
     refine gy ?_
     refine fa 17 underlying62 rfl sizeOf24 ?_
     exact at_nil k
    ·intro Lx g42 s K hl hh k
     show At 95 ((43,_)::(53,_)::(0,_)::(3,_)::(5,_)::(6,_)::(7,_)::Lx) _ _
     refine gy ?_
     obtain rfl:s=0:=by omega
     refine aw (r_load_aggc (c:=c_api_Addr) (z:=(lget t7 i12).f_To) isAgg24 sizeOf24 rfl (fun w1 hw=>row_lens (y:=(lget t7 i12).f_To) (W:=fun w1=>w1=_) (fun w1 h=>by subst h;exact Below.refl _ _) (hw.own .z).row h28 hp29 (Lens.comp lw (fun z=>{ (lget t7 i12) with f_To:=z }) (c_crawlwayref59_Span_f_To (lget t7 i12))) _ rfl)) ?_
     exact at_nil k
    ·intro Lx g42 s K hl hh k
     show At 95 ((43,_)::(49,_)::(54,_)::(0,_)::(3,_)::(5,_)::(6,_)::(7,_)::Lx) _ _
     refine gy ?_
     refine aw (r_eqagg (c:=c_api_Addr) (a:=((lget t4 i12).f_Range).f_To) (b:=(lget t7 i12).f_To) (eq_api_Addr_24) rfl Try.eqGuardType24 rfl rfl (.inr rfl) rfl) ?_
     exact at_nil k
    ·intro Lx g42 s K hl hh k
     show At 95 ((43,_)::(55,_)::(0,_)::(3,_)::(5,_)::(6,_)::(7,_)::Lx) _ _
     refine aw xp ?_
     exact at_nil k
    ·intro Lx g42 s K hl hh k
     show At 95 ((56,_)::(0,_)::(3,_)::(5,_)::(6,_)::(7,_)::Lx) _ _
     refine am ?_
     exact at_nil (at_cast h32 k)
    ·intro Lx g42 s K hl hh k
     show At 95 ((57,_)::(0,_)::(3,_)::(5,_)::(6,_)::(7,_)::Lx) _ _
     refine gy ?_
     refine am ?_
     exact at_nil k
    ·intro Lx g42 s K hl hh k
     show At 95 ((57,_)::(0,_)::(3,_)::(5,_)::(6,_)::(7,_)::Lx) _ _
     refine gy ?_
     refine am ?_
     exact at_nil k
    ·intro Lx g42 s K hl hh k
     show At 95 ((57,_)::(58,_)::(59,_)::(0,_)::(3,_)::(5,_)::(6,_)::(7,_)::Lx) _ _
     refine gy ?_
     refine aw (r_idx underlying55 sizeOf60 rfl rfl h34 hp35) ?_
     exact at_nil k
    ·intro Lx g42 s K hl hh k
     show At 95 ((57,_)::(60,_)::(0,_)::(3,_)::(5,_)::(6,_)::(7,_)::Lx) _ _
     refine gy ?_
     refine fa 34 underlying60 rfl sizeOf3 ?_
     exact at_nil k
    ·intro Lx g42 s K hl hh k
     show At 95 ((57,_)::(61,_)::(0,_)::(3,_)::(5,_)::(6,_)::(7,_)::Lx) _ _
     refine gy ?_
     obtain rfl:s=0:=by omega
     refine aw (r_load_cell isAgg3 rfl (fun w1 hw=>row_lens0 (y:=(lget t4 i12).f_Owner) (W:=fun w1=>w1=_) (fun w1 h=>by subst h;exact Below.refl _ _) (hw.own (.s .z)).row h34 hp35 (Lens.comp lw (fun z=>{ (lget t4 i12) with f_Owner:=z }) (c_flat_Span_f_Owner (lget t4 i12))) rfl _ rfl)) ?_
     exact at_nil k
    ·intro Lx g42 s K hl hh k
     show At 95 ((57,_)::(0,_)::(3,_)::(5,_)::(6,_)::(7,_)::Lx) _ _
     refine gy ?_
     refine am ?_
     exact at_nil k
    ·intro Lx g42 s K hl hh k
     show At 95 ((57,_)::(0,_)::(3,_)::(5,_)::(6,_)::(7,_)::Lx) _ _
     refine gy ?_
     refine am ?_
     exact at_nil k
    ·intro Lx g42 s K hl hh k
     show At 95 ((57,_)::(63,_)::(64,_)::(0,_)::(3,_)::(5,_)::(6,_)::(7,_)::Lx) _ _
     refine gy ?_
     refine aw (r_idx underlying57 sizeOf62 rfl rfl h38 hp39) ?_
     exact at_nil k
    ·intro Lx g42 s K hl hh k
     show At 95 ((57,_)::(65,_)::(0,_)::(3,_)::(5,_)::(6,_)::(7,_)::Lx) _ _
     refine gy ?_
     refine fa 34 underlying62 rfl sizeOf3 ?_
     exact at_nil k
    ·intro Lx g42 s K hl hh k
     show At 95 ((57,_)::(66,_)::(0,_)::(3,_)::(5,_)::(6,_)::(7,_)::Lx) _ _
     refine gy ?_
     obtain rfl:s=0:=by omega
     refine aw (r_load_cell isAgg3 rfl (fun w1 hw=>row_lens0 (y:=(lget t7 i12).f_Owner) (W:=fun w1=>w1=_) (fun w1 h=>by subst h;exact Below.refl _ _) (hw.own .z).row h38 hp39 (Lens.comp lw (fun z=>{ (lget t7 i12) with f_Owner:=z }) (c_crawlwayref59_Span_f_Owner (lget t7 i12))) rfl _ rfl)) ?_
     exact at_nil k
    ·intro Lx g42 s K hl hh k
     show At 95 ((57,_)::(62,_)::(67,_)::(0,_)::(3,_)::(5,_)::(6,_)::(7,_)::Lx) _ _
     refine gy ?_
     refine aw xn ?_
     exact at_nil k
    ·intro Lx g42 s K hl hh k
     show At 95 ((57,_)::(68,_)::(0,_)::(3,_)::(5,_)::(6,_)::(7,_)::Lx) _ _
     refine aw xp ?_
     exact at_nil k
    intro g42
    show At 95 [(31,_),(32,_),(33,_),(34,_),(35,_),(36,_),(37,_),(38,_),(39,_),(40,_),(41,_),(42,_),(43,_),(44,_),(45,_),(46,_),(47,_),(48,_),(49,_),(50,_),(51,_),(52,_),(53,_),(54,_),(55,_),(56,_),(57,_),(58,_),(59,_),(60,_),(61,_),(62,_),(63,_),(64,_),(65,_),(66,_),(67,_),(68,_),(69,_),(0,_),(3,_),(5,_),(6,_),(7,_)] _ _
    refine wq [69,7,6,5,3,0] ?_
    refine tn ?_
    obtain ⟨h43,hF⟩|⟨h43,hF⟩:=oi hF
    ·refine ct h43 ?_
     refine sr (aa (qn (dz (dz (dz (wq [4] ?_))))))
     refine tn (qt ?_)
     refine br (tr (tr (br (tr ?_))))
     obtain rfl:=os hF
     subst K
     exact r1 wb
    refine cf h43 ?_
    refine at_skip ?_
    refine bm ?_
    refine qr (am (aw xa (aa (nwq [7,6,5,3,0] ?_))))
    exact at_weak_k (ih _ _ hF K) ⟨rfl,rfl,rfl,rfl,rfl,trivial⟩
   refine cf h13 ?_
   refine at_exit ?_
   refine te (te ?_)
   refine dz ?_
   obtain rfl:=os hF
   exact at_weak_k K ⟨rfl,rfl,rfl,trivial⟩
 cases q11 with
 | ret r'=>exact os hF
 | nx sq11 =>
  skip
  refine at_blk_same ?_
  refine tn (sr (am ?_))
  refine aw (r_load_aggc (c:=c_api_Addr) (z:=x1) isAgg24 sizeOf24 rfl (lens_cell (.s .z) lw)) ?_
  obtain ⟨t44,ht44,hF⟩:=bM hF
  refine cB func30 rfl (fun w hw=>flat_Find_ok _ _ _ _ _ ht44 w (hw.own .z).row) ?_
  refine am ?_
  refine aw xe (aw xe (aa (aa (qn (dz (tn (qs (wq [9,8,3,0] ?_))))))))
  refine at_optPush (b:=0) (cs:=(Cd.cs c_api_Entry zv8)) (t:=66) ?_
  obtain ⟨t46,ht46,hF⟩:=bM hF
  obtain ⟨t49,ht49,hF⟩:=bM hF
  refine at_invF [.q 77 (fun g51=>.slice p0_ x0.length c0_) [] 0 0,.al 0 78 (fun g51=>.slice ((g51 0).2.1) t46.length ((g51 0).2.2.1)) [0],.q 79 (fun g51=>.agg (Cd.cs c_api_Addr x1).toArray) [] 0 1,.q 80 (fun g51=>.tuple #[.agg (Cd.cs c_api_Entry t49.1).toArray,.bool t49.2]) [1,2] 1 1,.q 76 (fun g51=>.tuple #[.agg (Cd.cs c_api_Entry t49.1).toArray,.bool t49.2]) [3] 1 1,.q 81 (fun g51=>.agg (Cd.cs c_api_Entry t49.1).toArray) [4] 1 1,.q 82 (fun g51=>.bool t49.2) [4] 1 2,.q 10 (fun g51=>.pointer (some ⟨((g51 9).1),0,none⟩)) [] 0 1,.st 1 none [7,5],.q 11 (fun g51=>.bool t49.2) [6] 2 2] (fun g51 s=>match s with | 0=>(Wd w [optE ((g51 9).2.2.1) ((g51 9).1) (Cd.cs c_api_Entry zv8) 66,cellsE b1 (Cd.cs c_api_Addr x1) 24]) | 1=>(Wd w [rowE c_api_Entry 66 ((g51 0).2.1) ((g51 0).2.2.1) t46,optE ((g51 9).2.2.1) ((g51 9).1) (Cd.cs c_api_Entry zv8) 66,cellsE b1 (Cd.cs c_api_Addr x1) 24]) | _=>(Wd w [rowE c_api_Entry 66 ((g51 0).2.1) ((g51 0).2.2.1) t46,cellsE ((g51 9).1) (Cd.cs c_api_Entry t49.1) 66,cellsE b1 (Cd.cs c_api_Addr x1) 24])) 2 [false,false,false,false,false,false,false,true,false,false] [[],[],[],[],[],[],[],[],[7],[7]] (by kernel_rfl) (by kernel_rfl) (by kernel_rfl) (by kernel_rfl) (by kernel_rfl) ⟨fun _ _ _ _ _=>rfl,fun g51 g2 h h2 _=>by show (.slice ((g51 0).2.1) t46.length ((g51 0).2.2.1):Value)=.slice ((g2 0).2.1) t46.length ((g2 0).2.2.1);rw [h 0 (show 0<1 by decide)],fun _ _ _ _ _=>rfl,fun _ _ _ _ _=>rfl,fun _ _ _ _ _=>rfl,fun _ _ _ _ _=>rfl,fun _ _ _ _ _=>rfl,fun g51 g2 _ _ h3=>by show (.pointer (some ⟨((g51 9).1),0,none⟩):Value)=.pointer (some ⟨((g2 9).1),0,none⟩);rw [h3 rfl],fun _ _ _ _ _=>rfl,fun _ _ _ _ _=>rfl,trivial⟩ (by kernel_rfl) (by kernel_rfl) (fun w_ h=>⟨fun _=>g3 0 none 0 none w_,fun _=>Nat.zero_ne_one,h.drew⟩) ⟨?_,?_,?_,?_,?_,?_,?_,?_,?_,?_,trivial⟩ ?_
  ·intro Lx g51 s K hf_ hl hh k
   show At 95 ((0,_)::(3,_)::(8,_)::(9,_)::Lx) _ _
   refine am ?_
   exact at_nil k
  ·intro Lx g51 K hf_ k
   show At 95 ((77,_)::(0,_)::(3,_)::(8,_)::(9,_)::Lx) _ _
   refine at_callO (c:=c_api_Entry) (e:=66) (ys:=t46) (V:=fun p cap=>.slice p t46.length cap) func32 rfl (by kernel_rfl) rfl rfl (fun w hw=>crawlwayref59_Own_ok _ _ _ _ ht46 w (hr0.below hw.below)) ?_
   intro p47 c48
   exact at_nil (k (g3 0 p47 c48 none w))
  ·intro Lx g51 s K hf_ hl hh k
   show At 95 ((0,_)::(3,_)::(8,_)::(9,_)::Lx) _ _
   rcases (by omega:s=0∨s=1) with rfl | rfl
   ·skip
    refine aw (r_load_aggc (c:=c_api_Addr) (z:=x1) isAgg24 sizeOf24 rfl (lens_cell (.s .z) lw)) ?_
    exact at_nil k
   ·skip
    refine aw (r_load_aggc (c:=c_api_Addr) (z:=x1) isAgg24 sizeOf24 rfl (lens_cell (.s (.s .z)) lw)) ?_
    exact at_nil k
  ·intro Lx g51 s K hf_ hl hh k
   show At 95 ((78,_)::(79,_)::(0,_)::(3,_)::(8,_)::(9,_)::Lx) _ _
   obtain rfl:s=1:=by omega
   refine cB func31 rfl (fun w hw=>crawlwayref25_Find_ok _ _ _ _ _ ht49 w (hw.own .z).row) ?_
   exact at_nil k
  ·intro Lx g51 s K hf_ hl hh k
   show At 95 ((80,_)::(0,_)::(3,_)::(8,_)::(9,_)::Lx) _ _
   refine am ?_
   exact at_nil k
  ·intro Lx g51 s K hf_ hl hh k
   show At 95 ((76,_)::(0,_)::(3,_)::(8,_)::(9,_)::Lx) _ _
   refine aw xe ?_
   exact at_nil k
  ·intro Lx g51 s K hf_ hl hh k
   show At 95 ((76,_)::(0,_)::(3,_)::(8,_)::(9,_)::Lx) _ _
   refine aw xe ?_
   exact at_nil k
  ·intro Lx g51 s K hl hf_ k
   show At 95 ((0,_)::(3,_)::(8,_)::(9,_)::Lx) _ _
   rcases (by omega:s=0∨s=1) with rfl | rfl
   ·skip
    refine al (cs:=Cd.cs c_api_Entry zv8) zeroValue66 ?_
    intro b50
    refine at_optNew (fl':=1) .z hf_ rfl ?_
    exact at_nil (k (g3 b50 none 1 none w) rfl)
   ·skip
    refine al (cs:=Cd.cs c_api_Entry zv8) zeroValue66 ?_
    intro b50
    refine at_optNew (fl':=1) (.s .z) hf_ rfl ?_
    exact at_nil (k (g3 b50 none 1 none w) rfl)
  ·intro Lx g51 K hf_ k
   show At 95 ((10,_)::(81,_)::(0,_)::(3,_)::(8,_)::(9,_)::Lx) _ _
   refine at_optIn (.s .z) (hf_ 7 (by decide)) ?_
   refine at_store (c:=c_api_Entry) (z:=t49.1) (.s .z) lw sizeOf66 rfl rfl rfl ?_
   exact at_nil k
  ·intro Lx g51 s K hf_ hl hh k
   show At 95 ((82,_)::(0,_)::(3,_)::(8,_)::(9,_)::Lx) _ _
   refine aa ?_
   exact at_nil k
  intro g51 hf_
  show At 95 [(77,_),(78,_),(79,_),(80,_),(76,_),(81,_),(82,_),(10,_),(11,_),(0,_),(3,_),(8,_),(9,_)] _ _
  refine dz ?_
  refine at_drop (H:=_) (.s .z) ?_
  refine wq [11,10,9,8] ?_
  refine tn (sr (am (fa 18 underlying66 rfl sizeOf3 ?_)))
  refine aw (r_load_cell isAgg3 rfl (lens_cell0 (c:=(cInt .i64)) (y:=t49.1.f_Owner) .z (Lens.comp lw (fun z=>{ t49.1 with f_Owner:=z }) (c_api_Entry_f_Owner t49.1)) rfl)) ?_
  refine aw xq (am ?_)
  obtain ⟨h52,hF⟩|⟨h52,hF⟩:=oi hF
  ·refine fx 87 h52 ?_
   refine gy ?_
   refine am ?_
   refine gy ?_
   refine am ?_
   refine gy ?_
   refine aw (r_bool underlying4 rfl rfl (.inl rfl) rfl) ?_
   refine aw xp (am ?_)
   obtain ⟨h53,hF⟩|⟨h53,hF⟩:=oi hF
   ·refine fx 92 h53 ?_
    refine gy ?_
    obtain ⟨t54,ht54,hF⟩:=bM hF
    refine cB func27 rfl (fun w hw=>crawlwaylaw59_alive_ok  _ ht54 w) ?_
    refine aw xp (aa (qn (dz (wq [4] ?_))))
    refine tn (qt ?_)
    have K:=os hF
    subst K
    exact r1 wb
   ·refine fx 92 h53 ?_
    refine gn ?_
    refine aw xp (aa (qn (dz (wq [4] ?_))))
    refine tn (qt ?_)
    have K:=os hF
    subst K
    exact r1 wb
  ·refine fx 87 h52 ?_
   refine gn ?_
   refine gn ?_
   refine gn ?_
   refine aw xp (am ?_)
   refine gn ?_
   refine aw xp (aa (qn (dz (wq [4] ?_))))
   refine tn (qt ?_)
   have K:=os hF
   subst K
   exact r1 wb
end Go.Proofs.Ytahlbjmafceoeaa
namespace Go.Proofs.Ytahlbjmafceoeaa.Agg
open E Go.RowKit Adr Cid
theorem get_sR(S:List Sn)(k:Nat)(s:Sn)(h:S[k]? = some s):lget (S.map sR) (k:Int)=sR s:=by
 unfold lget
 rw [Int.toNat_natCast,List.getD_eq_getElem?_getD,List.getElem?_map,h];rfl
theorem cmp_loop(S:List Sn)(hn:S.length≤1000000):∀ (k i:Nat),i+k=S.length→crawlwaylaw59_FlatSpans.l0 (S.map sN) (S.map sR) (i:Int)=some (.nx ())
 | 0,i,h=>by
  rw [crawlwaylaw59_FlatSpans.l0.eq_def,decide_eq_false (by rw [List.length_map];omega),if_neg Bool.false_ne_true]
 | k+1,i,h=>by
  obtain ⟨s,hs⟩:∃ s,S[i]? = some s:=⟨_,List.getElem?_eq_getElem (by omega)⟩
  have hin:(0:Int)≤(i:Int)∧(i:Int)<((S.map sN).length:Int):=by rw [List.length_map];omega
  have hin2:(0:Int)≤(i:Int)∧(i:Int)<((S.map sR).length:Int):=by rw [List.length_map];omega
  have hwi:wr .i64 ((i:Int)+1)=((i+1:Nat):Int):=by rw [wr_i64 (by omega) (by omega)];omega
  have e1:(!decide (((sN s).f_Range).f_From=(sR s).f_From))=false:=by
   rw [decide_eq_true (show ((sN s).f_Range).f_From=(sR s).f_From from rfl)];rfl
  have e2:(!decide (((sN s).f_Range).f_To=(sR s).f_To))=false:=by
   rw [decide_eq_true (show ((sN s).f_Range).f_To=(sR s).f_To from rfl)];rfl
  have e3:((sN s).f_Owner != (sR s).f_Owner)=false:=by show (s.2 != s.2)=false;simp
  rw [crawlwaylaw59_FlatSpans.l0.eq_def,decide_eq_true hin.2,if_pos rfl,if_pos hin,if_pos hin2,get_sN S i s hs,get_sR S i s hs,e1,if_neg Bool.false_ne_true,if_pos hin,if_pos hin2,e2,if_neg Bool.false_ne_true,if_pos hin,if_pos hin2,e3,if_neg Bool.false_ne_true,hwi]
  exact cmp_loop S hn k (i+1) (by omega)
theorem bf_of{S:List Sn}(h:S.Pairwise cn):S.Pairwise bf:=h.imp fun {a b} hab=>by
 unfold cn at hab
 unfold bf;omega
theorem best_no(T:List En):best (fun _=>false) T=none:=best_none.2 fun _ _=>rfl
theorem FlatSpans_pure(xs0:List S_api_Entry)(hw0:∀ x∈xs0,ok_api_Entry x)(a1:S_api_Addr)(w1:ok_api_Addr a1):crawlwaylaw59_FlatSpans xs0 a1=some true:=by
 unfold crawlwaylaw59_FlatSpans
 by_cases h24:(xs0.length:Int)>24
 ·rw [decide_eq_true h24,if_pos rfl];exact alive_then59
 ·rw [decide_eq_false h24,if_neg Bool.false_ne_true]
  obtain ⟨O,hO⟩:=counts xs0 (fun x hx=>(hw0 x hx).1) (by omega)
  obtain ⟨T,hT,rfl,hnd⟩:=allE hO.sorted
  have hTl:T.length≤24:=by have:=hO.len;rw [List.length_map] at this;omega
  obtain ⟨f1,f2,f3⟩:=flatOf_code xs0 T hT (by omega) hO.code
  obtain ⟨s1,s2,s3⟩:=ofM_spec hT hnd hO.sorted.up
  obtain ⟨rv,r1,r2,r3,r4,r5⟩:=refOf_code xs0 T hT hnd (by omega) hO.doc
  have heq:(ofM T).reverse=rv.reverse:=canon_uniq _ _ s2 r3 (fun s hs=>s1 s (List.mem_reverse.1 hs)) (fun s hs=>r2 s (List.mem_reverse.1 hs)) fun W x o=>by rw [s3,r4]
  rw [←heq] at r1
  have hSl:(ofM T).reverse.length≤48:=by rw [List.length_reverse];omega
  have hS:okS (ofM T).reverse:=fun s hs=>s1 s (List.mem_reverse.1 hs)
  generalize hSd:(ofM T).reverse=S at *
  have hlen:(((S.map sN).length:Int) != ((S.map sR).length:Int))=false:=by rw [List.length_map,List.length_map];simp
  have hcmp:crawlwaylaw59_FlatSpans.l0 (S.map sN) (S.map sR) 0=some (.nx ()):=cmp_loop S (by omega) S.length 0 (by omega)
  rw [f1,bindM_some,r1,bindM_some,hlen,if_neg Bool.false_ne_true,hcmp,bindM_some]
  show (flat_Find (S.map sN) a1>>=fun t44=>crawlwayref59_Own xs0>>=fun t46=>crawlwayref25_Find t46 a1>>=fun t49=>if (t44.1==t49.1.f_Owner)=true then (if (t44.2==t49.2)=true then (crawlwaylaw59_alive>>=fun t54=>some t54) else (some false)) else (some false))=some true
  have fin:∀ (p:En→Bool) (o:Int) (is:Bool),(∀ e∈T,crawlwayref11_Has (pf e.1) a1=some (p e))→flat_Find (S.map sN) a1=some (o,is)→o=(outE (best p T)).f_Owner→is=(best p T).isSome →
    (flat_Find (S.map sN) a1>>=fun t44=>crawlwayref59_Own xs0>>=fun t46=>crawlwayref25_Find t46 a1>>=fun t49=>if (t44.1==t49.1.f_Owner)=true then (if (t44.2==t49.2)=true then (crawlwaylaw59_alive>>=fun t54=>some t54) else (some false)) else (some false))=some true:=by
   intro p o is hp hf ho hi
   rw [hf,bindM_some,hO.doc,bindM_some,find_code a1 p T (by omega) hp,bindM_some,ho,hi,if_pos (by simp),if_pos (by simp)]
   exact alive_then59
  obtain ⟨W,k,rfl,hk,_⟩:=exists_mkA a1 w1
  cases hra:rightL W k with
  | false=>exact fin (fun _=>false) 0 false (fun e he=>has_wrong2 (ok_pf (hT e he)) hk hra) (findS_wrong hk hra _) (by rw [best_no];rfl) (by rw [best_no];rfl)
  | true =>
   obtain ⟨hf,x,hx,rfl⟩:=right_is hk hra
   have hp:∀ e∈T,crawlwayref11_Has (pf e.1) (mkA W (bt W x))=some (decide (inP W x e.1)):=fun e he=>has_pf (hT e he) hf x hx
   have own_best:∀ y,best (fun e=>decide (inP W x e.1)) T=some y→OwnL T W x y.2:=fun y hy=>by
    obtain ⟨y1,y2,y3⟩:=best_some hy
    exact ⟨y,y1,of_decide_eq_true y2,rfl,fun m' hm' hx'=>y3 m' hm' (decide_eq_true hx')⟩
   rcases findS_code hf hx S hS (bf_of s2) (by omega) with ⟨s,hs,hin,hr⟩ | ⟨hno,hr⟩
   ·obtain ⟨m,hm,hmx,hmo,hmb⟩:=(s3 W x s.2).1 ⟨s,hs,hin,rfl⟩
    cases hb:best (fun e=>decide (inP W x e.1)) T with
    | none =>
     have:=best_none.1 hb m hm
     rw [decide_eq_true hmx] at this;cases this
    | some y =>
     obtain ⟨y1,y2,y3⟩:=best_some hb
     have k1:=y3 m hm (decide_eq_true hmx)
     have k2:=hmb y y1 (of_decide_eq_true y2)
     have:m=y:=same_of hT hnd hm y1 hmx (of_decide_eq_true y2) (by omega)
     exact fin _ s.2 true hp hr (by rw [hb,←hmo,this];rfl) (by rw [hb];rfl)
   ·cases hb:best (fun e=>decide (inP W x e.1)) T with
    | none=>exact fin _ 0 false hp hr (by rw [hb];rfl) (by rw [hb];rfl)
    | some y =>
     obtain ⟨s,hs,hin,_⟩:=(s3 W x y.2).2 (own_best y hb)
     exact absurd hin (hno s hs)
end Go.Proofs.Ytahlbjmafceoeaa.Agg
