/- Texts of this claim, those in one that belong together; printed by a program of this project. -/
import Derived.Test.YtahlbjmafceoeaaGreatDoorProg
import Derived.Test.YtahlbjmafceoeaaGreatDoorKLintTells4
set_option linter.unusedVariables false
set_option linter.unusedSimpArgs false
set_option maxRecDepth 20000
namespace Go.Proofs.YtahlbjmafceoeaaGreatDoor.Agg
open E Go.RowKit Adr Cid
def wd(V:Int):Nat:=if V=4 then 32 else 128
def wb(V:Int):Nat:=if V=4 then 4 else 16
def fam(V:Int):Prop:=V=4∨V=6
theorem wd_wb(V:Int):wd V=8*wb V:=by unfold wd wb;split<;>rfl
theorem wb_le(V:Int):wb V≤16:=by unfold wb;split<;>omega
theorem wd_le(V:Int):wd V≤128:=by unfold wd;split<;>omega
theorem pow_wb(V:Int):256 ^ wb V=2 ^ wd V:=by rw [wd_wb,Nat.pow_mul]
def bt(V:Int)(N:Nat):List UInt8:=digs (wb V) N++List.replicate (16-wb V) 0
theorem QbL(V:Int)(N:Nat):(bt V N).length=16:=by
 have:=wb_le V
 unfold bt;rw [List.length_append,Qbt,List.length_replicate];omega
def adr(V:Int)(N:Nat):Qh:=mkA V (bt V N)
theorem bg_bt(V:Int)(N i:Nat):bg (bt V N) i=if i<wb V then N/256 ^ (wb V-1-i)%256 else 0:=by
 unfold bg bt
 rw [List.getD_eq_getElem?_getD]
 split
 ·next h =>
  rw [List.getElem?_append_left (by rw [Qbt];exact h),digs_get _ _ _ h,Option.getD_some,UInt8.toNat_ofNat',Nat.mod_mod]
 ·next h =>
  rw [List.getElem?_append_right (by rw [Qbt];omega),List.getElem?_replicate]
  split<;>rfl
theorem bg_ext{l k:List UInt8}(hl:l.length=16)(hk:k.length=16)(h:∀ i,i<16→bg l i=bg k i):l=k:=by
 apply List.ext_getElem?
 intro i
 by_cases hi:i<16
 ·have e:=h i hi
  unfold bg at e
  rw [List.getD_eq_getElem?_getD,List.getD_eq_getElem?_getD,List.getElem?_eq_getElem (by omega),List.getElem?_eq_getElem (by omega)] at e
  rw [List.getElem?_eq_getElem (by omega),List.getElem?_eq_getElem (by omega)]
  exact congrArg some (UInt8.toNat_inj.1 e)
 ·rw [List.getElem?_eq_none (by omega),List.getElem?_eq_none (by omega)]
theorem num_bt{V:Int}{N:Nat}(h:N<2 ^ wd V):num (bt V N)=N*256 ^ (16-wb V):=by
 have hz:∀ m,num (List.replicate m 0)=0:=by
  intro m
  induction m with
  | zero=>rfl
  | succ m ih=>rw [List.replicate_succ,QfW,ih];simp
 unfold bt
 rw [num_append,num_digs _ _ (by rw [pow_wb];exact h),hz,List.length_replicate,Nat.add_zero]
theorem bt_inj{V:Int}{N M:Nat}(hN:N<2 ^ wd V)(hM:M<2 ^ wd V)(h:bt V N=bt V M):N=M:=by
 have:=congrArg num h
 rw [num_bt hN,num_bt hM] at this
 exact Nat.eq_of_mul_eq_mul_right (Nat.pow_pos (by omega)) this
theorem Qe2{V:Int}(hf:fam V)(N:Nat):QbP V (bt V N)=true:=by
 unfold QbP
 rcases hf with rfl | rfl
 ·have:low (bt 4 N)=true:=by
   unfold low bt
   rw [show wb 4=4 from rfl,List.drop_append_of_le_length (by rw [Qbt];exact Nat.le_refl _),List.drop_of_length_le (by rw [Qbt];exact Nat.le_refl _)]
   rfl
  rw [this];rfl
 ·rfl
theorem width_bt{V:Int}(hf:fam V)(N:Nat):Qcc V (bt V N)=wd V:=by
 unfold Qcc wd
 rw [Qe2 hf,if_pos rfl]
theorem right_is{V:Int}{l:List UInt8}(hl:l.length=16)(h:QbP V l=true):fam V∧∃ N,N<2 ^ wd V∧l=bt V N:=by
 rcases Qgs h with rfl | ⟨rfl,hlow⟩
 ·refine ⟨.inr rfl,num l,?_,?_⟩
  ·have:=num_lt l;rw [hl] at this
   rw [←pow_wb];exact this
  ·have:=digs_num l
   rw [hl] at this
   show l=digs 16 (num l)++[]
   rw [List.append_nil,this]
 ·refine ⟨.inl rfl,num (l.take 4),?_,?_⟩
  ·have:=num_lt (l.take 4)
   rw [List.length_take,hl] at this
   rw [←pow_wb];exact this
  ·have h4:=(low_iff hl).1 hlow
   have:=digs_num (l.take 4)
   rw [List.length_take,hl] at this
   show l=digs 4 (num (l.take 4))++List.replicate 12 0
   rw [show digs 4 (num (l.take 4))=l.take 4 from this]
   exact h4
theorem adr_right{V:Int}(hf:fam V)(N:Nat):QbN (adr V N)=some true∧QV (adr V N)=some true:=by
 unfold adr
 rw [right_code (QbL V N),Qdy (QbL V N),Qe2 hf];exact ⟨rfl,rfl⟩
theorem QfP{V:Int}(hf:fam V)(N:Nat):Qcj (adr V N)=some (wd V:Int)∧QaK (adr V N)=some (wd V:Int):=by
 unfold adr
 rw [width_code (QbL V N),width_ref (QbL V N),width_bt hf];exact ⟨rfl,rfl⟩
theorem adr_inj{V W:Int}{N M:Nat}(hN:N<2 ^ wd V)(hM:M<2 ^ wd W):adr V N=adr W M↔V=W∧N=M:=by
 unfold adr
 rw [mkA_inj (QbL V N) (QbL W M)]
 constructor
 ·rintro ⟨rfl,h⟩;exact ⟨rfl,bt_inj hN hM h⟩
 ·rintro ⟨rfl,rfl⟩;exact ⟨rfl,rfl⟩
def ltA(V:Int)(N:Nat)(W:Int)(M:Nat):Bool:=if V=W then decide (N<M) else decide (V<W)
theorem lessL_num(l k:List UInt8)(h:l.length=k.length):lessL l k=decide (num l<num k):=by
 rw [←less_cmp l k h,decide_eq_decide];exact cmp_num l k h
theorem Qdl{V W:Int}{N M:Nat}(hN:N<2 ^ wd V)(hM:M<2 ^ wd W):Qct (adr V N) (adr W M)=some (ltA V N W M)∧Qab (adr V N) (adr W M)=some (ltA V N W M):=by
 have hk:∀ (V:Int) (N:Nat),num (unb (vb (bt V N)).toList)=num (bt V N):=fun V N=>by
  rw [QcJ (QbL V N)]
  congr 1
  unfold unb ob
  rw [List.map_map]
  conv=>rhs;rw [←List.map_id (bt V N)]
  apply List.map_congr_left
  intro b _
  show UInt8.ofNat ((b.toNat:Int).toNat)=b
  rw [Int.toNat_natCast];exact UInt8.ofNat_toNat
 have hn:∀ h:V=W,(num (bt V N)<num (bt W M)↔N<M):=fun h=>by
  subst h
  rw [num_bt hN,num_bt hM]
  exact Nat.mul_lt_mul_right (Nat.pow_pos (by omega))
 constructor
 ·rw [less_key]
  unfold lessK ltA adr mkA
  simp only [hk]
  split
  ·next h=>rw [decide_eq_decide.2 (hn h)]
  ·rfl
 ·unfold adr
  rw [less_ref (QbL V N) (QbL W M)]
  unfold lessA ltA
  rw [lessL_num _ _ (by rw [QbL,QbL])]
  split
  ·next h=>rw [decide_eq_decide.2 (hn h)]
  ·rfl
theorem bit_bt{V:Int}{N i:Nat}(hi:i<wd V):bit (bt V N) i=N/2 ^ (wd V-1-i)%2:=by
 unfold bit
 rw [bg_bt,if_pos (by rw [wd_wb] at hi;omega)]
 have h1:∀ Y t:Nat,t<8→Y%256/2 ^ t%2=Y/2 ^ t%2:=by
  intro Y t ht
  have:t=0∨t=1∨t=2∨t=3∨t=4∨t=5∨t=6∨t=7:=by omega
  rcases this with rfl | rfl | rfl | rfl | rfl | rfl | rfl | rfl<;>omega
 rw [h1 _ _ (by omega),Nat.div_div_eq_div_mul]
 congr 2
 rw [show (256:Nat)=2 ^ 8 from rfl,←Nat.pow_mul,←Nat.pow_add]
 congr 1
 rw [wd_wb] at hi ⊢
 omega
theorem byte_mask(Y t:Nat)(ht:t≤8):(Y/2 ^ t*2 ^ t)%256=Y%256-Y%256%2 ^ t:=by
 have:t=0∨t=1∨t=2∨t=3∨t=4∨t=5∨t=6∨t=7∨t=8:=by omega
 rcases this with rfl | rfl | rfl | rfl | rfl | rfl | rfl | rfl | rfl<;>omega
theorem byte_clear(N c s:Nat):N/2 ^ c*2 ^ c/2 ^ (8*s)%256=N/2 ^ (8*s)%256-N/2 ^ (8*s)%256%2 ^ (min (c-8*s) 8):=by
 by_cases h1:c≤8*s
 ·have e:2 ^ (8*s)=2 ^ c*2 ^ (8*s-c):=by rw [←Nat.pow_add];congr 1;omega
  rw [show min (c-8*s) 8=0 by omega,Nat.pow_zero,Nat.mod_one,Nat.sub_zero,e,←Nat.div_div_eq_div_mul,←Nat.div_div_eq_div_mul,Nat.mul_div_cancel _ (Nat.pow_pos (by omega))]
 ·have e:2 ^ c=2 ^ (8*s)*2 ^ (c-8*s):=by rw [←Nat.pow_add];congr 1;omega
  have e2:N/2 ^ c*2 ^ c/2 ^ (8*s)=N/2 ^ (8*s)/2 ^ (c-8*s)*2 ^ (c-8*s):=by
   rw [Nat.div_div_eq_div_mul,←e]
   generalize N/2 ^ c=A
   rw [e,Nat.mul_comm (2 ^ (8*s)),←Nat.mul_assoc,Nat.mul_div_cancel _ (Nat.pow_pos (by omega))]
  rw [e2]
  generalize N/2 ^ (8*s)=Y
  by_cases h2:c-8*s≤8
  ·rw [Nat.min_eq_left h2];exact byte_mask Y _ h2
  ·rw [Nat.min_eq_right (by omega),show (2:Nat) ^ 8=256 from rfl,Nat.mod_mod,Nat.sub_self]
   have:2 ^ (c-8*s)=256*2 ^ (c-8*s-8):=by rw [show (256:Nat)=2 ^ 8 from rfl,←Nat.pow_add];congr 1;omega
   rw [this,←Nat.mul_assoc,Nat.mul_right_comm]
   exact Nat.mul_mod_left _ _
theorem pow256(s:Nat):256 ^ s=2 ^ (8*s):=by rw [Nat.pow_mul]
theorem mfull_bt{V:Int}{N b:Nat}(hb:b≤wd V):mfull (bt V N) (b:Int)=bt V (N/2 ^ (wd V-b)*2 ^ (wd V-b)):=by
 refine bg_ext (by rw [mfull_len,QbL]) (QbL _ _) fun i hi=>?_
 rw [bg_bt]
 have hx:(bt V N)[i]? = some ((bt V N).getD i 0):=by
  rw [List.getD_eq_getElem?_getD,List.getElem?_eq_getElem (by rw [QbL];exact hi)];rfl
 have hg:=Qez (bt V N) (b:Int) i
 rw [hx,Option.map_some] at hg
 rw [Qfa hg,QeR]
 have hbg:((bt V N).getD i 0).toNat=bg (bt V N) i:=rfl
 rw [hbg,bg_bt]
 split
 ·next h =>
  rw [pow256,byte_clear]
  congr 3
  unfold lft
  rw [wd_wb] at hb ⊢
  omega
 ·simp
theorem mask_adr{V:Int}(hf:fam V){N b:Nat}(hb:b≤wd V):Q4 (adr V N) (b:Int)=some (adr V (N/2 ^ (wd V-b)*2 ^ (wd V-b))):=by
 unfold adr
 rw [mask_ref (QbL V N)]
 unfold maskA
 rw [Qe2 hf,if_pos rfl,mfull_bt hb]
theorem aligned{N c:Nat}(h:2 ^ c ∣ N):N/2 ^ c*2 ^ c=N:=Nat.div_mul_cancel h
def prf(V:Int)(N k:Nat):Qc:=mkP (adr V N) ((wd V-k:Nat):Int)
theorem of_adr{V:Int}(hf:fam V){N k:Nat}(hk:k≤wd V)(h:2 ^ k ∣ N):Qe1 (adr V N) ((wd V-k:Nat):Int)=some (prf V N k,0):=by
 unfold adr
 rw [of_code (QbL V N)]
 unfold ofP
 rw [Qe2 hf,if_pos rfl,if_pos (Qel.2 ⟨Qe2 hf N,by omega,by rw [width_bt hf];omega⟩),mfull_bt (by omega),show wd V-(wd V-k)=k by omega,aligned h]
 rfl
theorem prf_right{V:Int}(hf:fam V){N k:Nat}(hk:k≤wd V)(h:2 ^ k ∣ N):QbM (prf V N k)=some true∧Qad (prf V N k)=some true:=by
 have:QdO V (bt V N) ((wd V-k:Nat):Int)=true:=by
  rw [Qc9]
  refine ⟨⟨Qe2 hf N,by omega,by rw [width_bt hf];omega⟩,?_⟩
  rw [mfull_bt (by omega),show wd V-(wd V-k)=k by omega,aligned h]
 unfold prf adr
 rw [Qdv (QbL V N),Qd2 (QbL V N),this];exact ⟨rfl,rfl⟩
theorem right_prf{V b:Int}{l:List UInt8}(hl:l.length=16)(h:QdO V l b=true):fam V∧∃ N k,N<2 ^ wd V∧k≤wd V∧2 ^ k ∣ N∧mkP (mkA V l) b=prf V N k:=by
 obtain ⟨⟨h1,h2,h3⟩,h4⟩:=Qc9.1 h
 obtain ⟨hf,N,hN,rfl⟩:=right_is hl h1
 rw [width_bt hf] at h3
 obtain ⟨m,rfl⟩:=Int.eq_ofNat_of_zero_le h2
 have hm:m≤wd V:=by omega
 refine ⟨hf,N,wd V-m,hN,by omega,?_,?_⟩
 ·have h5:mfull (bt V N) (m:Int)=bt V N:=h4
  rw [mfull_bt hm] at h5
  have h6:N/2 ^ (wd V-m)*2 ^ (wd V-m)<2 ^ wd V:=Nat.lt_of_le_of_lt (Nat.div_mul_le_self _ _) hN
  exact ⟨N/2 ^ (wd V-m),by rw [Nat.mul_comm];exact (bt_inj h6 hN h5).symm⟩
 ·unfold prf adr
  rw [show wd V-(wd V-m)=m by omega]
end Go.Proofs.YtahlbjmafceoeaaGreatDoor.Agg
namespace Go.Proofs.YtahlbjmafceoeaaGreatDoor.Agg
open E Go.RowKit Adr Cid
def zA:Qh:={ f_V:=(0:Int),f_B:=(Vector.replicate 16 (0:Int):(Vector Int 16)) }
theorem set_mkA{V:Int}{l:List UInt8}(hl:l.length=16)(i:Nat)(c:UInt8):({ mkA V l with f_B:=vset (mkA V l).f_B (i:Int) (c.toNat:Int) }:Qh)=mkA V (l.set i c):=by
 show ({ f_V:=V,f_B:=vset (vb l) (i:Int) (c.toNat:Int) }:Qh)=_
 rw [vset_vb hl];rfl
theorem get_mkA{V:Int}{l:List UInt8}(hl:l.length=16)(i:Nat)(hi:i<16):vget (mkA V l).f_B (i:Int)=(bg l i:Int):=QdK hl i hi
theorem ofNat_toNat{n:Nat}(h:n<256):(UInt8.ofNat n).toNat=n:=by rw [UInt8.toNat_ofNat'];exact Nat.mod_eq_of_lt h
theorem bg_mid(p:List UInt8)(x:UInt8)(t:List UInt8):bg (p++x::t) p.length=x.toNat:=by simp [bg]
theorem set_mid(p:List UInt8)(x y:UInt8)(t:List UInt8):(p++x::t).set p.length y=p++y::t:=by simp
theorem next_loop(V:Int):∀ (i n:Nat) (tl:List UInt8),tl.length=16-i→i≤16→n<256 ^ i →
  Qbc.l0 ((i:Int)-1) (mkA V (digs i n++tl))=some (if n+1<256 ^ i then .ret (mkA V (digs i (n+1)++tl),true) else .nx ()) ∧
  QaP.l0 ((i:Int)-1) (mkA V (digs i n++tl))=some (if n+1<256 ^ i then .ret (mkA V (digs i (n+1)++tl),true) else .nx ())
 | 0,n,tl,ht,hi,hn=>by
  have hd:decide (((0:Nat):Int)-1≥0)=false:=by decide
  rw [Qbc.l0.eq_def,QaP.l0.eq_def,hd,if_neg Bool.false_ne_true,if_neg Bool.false_ne_true,if_neg (by simp)];exact ⟨rfl,rfl⟩
 | i+1,n,tl,ht,hi,hn=>by
  have e1:(((i+1:Nat):Int)-1)=(i:Int):=by omega
  have hd:decide ((i:Int)≥0)=true:=decide_eq_true (by omega)
  have hg:(0:Int)≤(i:Int)∧(i:Int)<16:=by omega
  have hp:digs (i+1) n++tl=digs i (n/256)++UInt8.ofNat (n%256)::tl:=by rw [digs,List.append_assoc];rfl
  have hpl:(digs i (n/256)).length=i:=Qbt _ _
  have hl:(digs i (n/256)++UInt8.ofNat (n%256)::tl).length=16:=by rw [List.length_append,List.length_cons,hpl,ht];omega
  have hx:(UInt8.ofNat (n%256)).toNat=n%256:=ofNat_toNat (Nat.mod_lt _ (by omega))
  have hbg:bg (digs i (n/256)++UInt8.ofNat (n%256)::tl) i=n%256:=by
   have:=bg_mid (digs i (n/256)) (UInt8.ofNat (n%256)) tl
   rw [hpl,hx] at this;exact this
  have hset:∀ y,(digs i (n/256)++UInt8.ofNat (n%256)::tl).set i y=digs i (n/256)++y::tl:=fun y=>by
   have:=set_mid (digs i (n/256)) (UInt8.ofNat (n%256)) y tl
   rw [hpl] at this;exact this
  have hwi:wr .i64 ((i:Int)-1)=(i:Int)-1:=Qam (by omega) (by omega)
  rw [Nat.pow_succ] at hn
  rw [e1,hp,Qbc.l0.eq_def,QaP.l0.eq_def,hd,if_pos rfl,if_pos hg,if_pos hg,if_pos hg,if_pos rfl,if_pos hg,get_mkA hl i (by omega),hbg,hwi]
  by_cases h255:n%256=255
  ·have hw:wr .u8 (((n%256:Nat):Int)+1)=(((0:UInt8).toNat:Nat):Int):=by rw [wr_u8_mod,h255];rfl
   have h0:(0:Int)=(((0:UInt8).toNat:Nat):Int):=rfl
   have hlt:decide (((n%256:Nat):Int)<255)=false:=decide_eq_false (by omega)
   rw [hw,set_mkA hl,hset,hlt,if_neg Bool.false_ne_true,if_pos hg]
   have hl2:(digs i (n/256)++0::tl).length=16:=by rw [List.length_append,List.length_cons,hpl,ht];omega
   have hb0:bg (digs i (n/256)++0::tl) i=0:=by
    have:=bg_mid (digs i (n/256)) 0 tl
    rw [hpl] at this;exact this
   rw [get_mkA hl2 i (by omega),hb0]
   have hne:(((0:Nat):Int) != (0:Int))=false:=rfl
   rw [hne,if_neg Bool.false_ne_true]
   conv=>rhs;lhs;rw [show (0:Int)=(((0:UInt8).toNat:Nat):Int) from rfl]
   rw [set_mkA hl,hset]
   obtain ⟨i1,i2⟩:=next_loop V i (n/256) (0::tl) (by rw [List.length_cons,ht];omega) (by omega) (by omega)
   rw [i1,i2]
   have hd1:digs (i+1) (n+1)++tl=digs i (n/256+1)++0::tl:=by
    rw [digs,show (n+1)/256=n/256+1 by omega,show (n+1)%256=0 by omega,List.append_assoc];rfl
   rw [hd1,Nat.pow_succ]
   have:(n/256+1<256 ^ i)↔(n+1<256 ^ i*256):=by omega
   simp only [this,and_self]
  ·have hb:n%256<255:=by omega
   have hw:wr .u8 (((n%256:Nat):Int)+1)=(((UInt8.ofNat (n%256+1)).toNat:Nat):Int):=by
    rw [wr_u8_mod,ofNat_toNat (by omega)];omega
   have hlt:decide (((n%256:Nat):Int)<255)=true:=decide_eq_true (by omega)
   rw [hw,set_mkA hl,hset,hlt,if_pos rfl,if_pos hg,if_pos hg]
   have hl2:(digs i (n/256)++UInt8.ofNat (n%256+1)::tl).length=16:=by rw [List.length_append,List.length_cons,hpl,ht];omega
   have hb0:bg (digs i (n/256)++UInt8.ofNat (n%256+1)::tl) i=n%256+1:=by
    have:=bg_mid (digs i (n/256)) (UInt8.ofNat (n%256+1)) tl
    rw [hpl,ofNat_toNat (by omega)] at this;exact this
   rw [get_mkA hl2 i (by omega),hb0]
   have hne:(((n%256+1:Nat):Int) != (0:Int))=true:=by rw [bne_iff_ne];omega
   rw [hne,if_pos rfl]
   have hd1:digs (i+1) (n+1)++tl=digs i (n/256)++UInt8.ofNat (n%256+1)::tl:=by
    rw [digs,show (n+1)/256=n/256 by omega,show (n+1)%256=n%256+1 by omega,List.append_assoc];rfl
   rw [hd1,Nat.pow_succ,if_pos (by omega)]
   exact ⟨rfl,rfl⟩
def nx(V:Int)(N:Nat):Qh×Bool:=if N+1<2 ^ wd V then (adr V (N+1),true) else (zA,false)
theorem next_adr{V:Int}(hf:fam V){N:Nat}(hN:N<2 ^ wd V):Qbc (adr V N)=some (nx V N)∧QaP (adr V N)=some (nx V N):=by
 obtain ⟨w1,w2⟩:=QfP hf N
 have hi:wr .i64 ((ishr .i64 (wd V:Int) 3)-1)=(wb V:Int)-1:=by
  have e:=Qej .i64 (wd V) 3 (by decide)
  rw [show ((3:Nat):Int)=3 from rfl] at e
  rw [e,wd_wb,show (8*wb V)/2 ^ 3=wb V by omega]
  exact Qam (by have:=wb_le V;omega) (by have:=wb_le V;omega)
 have hi2:wr .i64 ((wr .i64 (Int.tdiv (wd V:Int) 8))-1)=(wb V:Int)-1:=by
  have e:Int.tdiv (wd V:Int) 8=(wb V:Int):=by rw [wd_wb,Int.tdiv_eq_ediv_of_nonneg (by omega)];omega
  have:=wb_le V
  rw [e,Qam (x:=(wb V:Int)) (by omega) (by omega)]
  exact Qam (by omega) (by omega)
 obtain ⟨l1,l2⟩:=next_loop V (wb V) N (List.replicate (16-wb V) 0) (by rw [List.length_replicate]) (wb_le V) (by rw [pow_wb];exact hN)
 unfold Qbc QaP
 rw [w1,w2,Qf,Qf,hi,hi2]
 unfold adr bt at *
 rw [l1,l2,pow_wb,Qf]
 unfold nx adr bt
 by_cases h:N+1<2 ^ wd V
 ·rw [if_pos h,if_pos h];exact ⟨rfl,rfl⟩
 ·rw [if_neg h,if_neg h];exact ⟨rfl,rfl⟩
theorem byte_ones(c s:Nat):(2 ^ c-1)/2 ^ (8*s)%256=2 ^ (min (c-8*s) 8)-1:=by
 apply Nat.eq_of_testBit_eq
 intro j
 rw [show (256:Nat)=2 ^ 8 from rfl,Nat.testBit_mod_two_pow,Nat.testBit_div_two_pow,Nat.testBit_two_pow_sub_one,Nat.testBit_two_pow_sub_one]
 rw [Bool.eq_iff_iff,Bool.and_eq_true,decide_eq_true_iff,decide_eq_true_iff,decide_eq_true_iff]
 omega
theorem add_or{N c a:Nat}(h:2 ^ c ∣ N)(ha:a<2 ^ c):N+a=N ||| a:=by
 obtain ⟨m,rfl⟩:=h
 exact Nat.two_pow_add_eq_or_of_lt ha m
theorem byte_or(x y s:Nat):(x ||| y)/2 ^ (8*s)%256=x/2 ^ (8*s)%256 ||| y/2 ^ (8*s)%256:=by
 apply Nat.eq_of_testBit_eq
 intro j
 rw [show (256:Nat)=2 ^ 8 from rfl]
 simp only [Nat.testBit_or,Nat.testBit_mod_two_pow,Nat.testBit_div_two_pow]
 cases decide (j<8)<;>simp
theorem get_bt{V:Int}{N i:Nat}(hi:i<wb V):(bt V N)[i]? = some (UInt8.ofNat (N/2 ^ (8*(wb V-1-i))%256)):=by
 unfold bt
 rw [List.getElem?_append_left (by rw [Qbt];exact hi),digs_get _ _ _ hi,pow256]
theorem last_own{V:Int}{k i:Nat}(hk:k≤wd V)(hi:i<wb V) :
  wr .u64 (if 8<(if wr .i64 (((wd V-k:Nat):Int)-(wr .i64 (8*(i:Int))))<0 then 0 else wr .i64 (((wd V-k:Nat):Int)-(wr .i64 (8*(i:Int))))) then 8 else (if wr .i64 (((wd V-k:Nat):Int)-(wr .i64 (8*(i:Int))))<0 then 0 else wr .i64 (((wd V-k:Nat):Int)-(wr .i64 (8*(i:Int))))))=((8-min (k-8*(wb V-1-i)) 8:Nat):Int):=by
 have hw:=wd_le V
 have hb:=wb_le V
 have hwb:=wd_wb V
 rw [Qam (x:=8*(i:Int)) (by omega) (by omega),Qam (by omega) (by omega)]
 have:(if 8<(if ((wd V-k:Nat):Int)-8*(i:Int)<0 then 0 else ((wd V-k:Nat):Int)-8*(i:Int)) then 8 else (if ((wd V-k:Nat):Int)-8*(i:Int)<0 then 0 else ((wd V-k:Nat):Int)-8*(i:Int)))=((8-min (k-8*(wb V-1-i)) 8:Nat):Int):=by
  split
  ·split at *<;>omega
  ·split<;>omega
 rw [this]
 exact Qeg (by omega) (by omega)
theorem last_loop{V:Int}{N k:Nat}(hk:k≤wd V)(h:2 ^ k ∣ N)(b:Int)(hb:b=((wd V-k:Nat):Int))(x:Qc)(hx:x.f_Bits=b):∀ (f i:Nat),i+f=wb V →
  QaO.l0 x (wd V:Int) (i:Int) (mkA V ((bt V (N+2 ^ k-1)).take i++(bt V N).drop i))=some (adr V (N+2 ^ k-1))
 | 0,i,hf=>by
  have e:ishr .i64 (wd V:Int) 3=(wb V:Int):=by
   have e:=Qej .i64 (wd V) 3 (by decide)
   rw [show ((3:Nat):Int)=3 from rfl] at e
   rw [e,wd_wb,show (8*wb V)/2 ^ 3=wb V by omega]
  have hd:decide ((i:Int)<ishr .i64 (wd V:Int) 3)=false:=by rw [e];exact decide_eq_false (by omega)
  rw [QaO.l0.eq_def,hd,if_neg Bool.false_ne_true]
  have hi:i=wb V:=by omega
  subst hi
  have:(bt V (N+2 ^ k-1)).take (wb V)++(bt V N).drop (wb V)=bt V (N+2 ^ k-1):=by
   unfold bt
   rw [List.take_append_of_le_length (by rw [Qbt];exact Nat.le_refl _),List.take_of_length_le (by rw [Qbt];exact Nat.le_refl _),List.drop_append_of_le_length (by rw [Qbt];exact Nat.le_refl _),List.drop_of_length_le (by rw [Qbt];exact Nat.le_refl _)]
   rfl
  rw [this];rfl
 | f+1,i,hf=>by
  have e:ishr .i64 (wd V:Int) 3=(wb V:Int):=by
   have e:=Qej .i64 (wd V) 3 (by decide)
   rw [show ((3:Nat):Int)=3 from rfl] at e
   rw [e,wd_wb,show (8*wb V)/2 ^ 3=wb V by omega]
  have hwb:=wb_le V
  have hd:decide ((i:Int)<ishr .i64 (wd V:Int) 3)=true:=by rw [e];exact decide_eq_true (by omega)
  have hg:(0:Int)≤(i:Int)∧(i:Int)<16:=by omega
  have hib:i<wb V:=by omega
  have hA:(bt V (N+2 ^ k-1)).length=(bt V N).length:=by rw [QbL,QbL]
  have hl:((bt V (N+2 ^ k-1)).take i++(bt V N).drop i).length=16:=by rw [List.length_append,List.length_take,List.length_drop,QbL,QbL];omega
  have hbg:bg ((bt V (N+2 ^ k-1)).take i++(bt V N).drop i) i=N/2 ^ (8*(wb V-1-i))%256:=by
   unfold bg
   rw [List.getD_eq_getElem?_getD,List.getElem?_append_right (by rw [List.length_take,QbL];omega),List.length_take,QbL,List.getElem?_drop,show i+(i-min i 16)=i by omega,get_bt hib,Option.getD_some,UInt8.toNat_ofNat',Nat.mod_mod]
  rw [QaO.l0.eq_def,hd,if_pos rfl,if_pos hg,hx,hb,last_own hk hib,if_pos (by omega),if_pos hg,get_mkA hl i (by omega),hbg]
  have hsh:ishr .u8 255 ((8-min (k-8*(wb V-1-i)) 8:Nat):Int)=((2 ^ (min (k-8*(wb V-1-i)) 8)-1:Nat):Int):=by
   have e2:=Qej .u8 255 (8-min (k-8*(wb V-1-i)) 8) (by show _≤8;omega)
   rw [show ((255:Nat):Int)=255 from rfl] at e2
   rw [e2]
   congr 1
   generalize hm:min (k-8*(wb V-1-i)) 8=m
   have:m=0∨m=1∨m=2∨m=3∨m=4∨m=5∨m=6∨m=7∨m=8:=by omega
   rcases this with rfl | rfl | rfl | rfl | rfl | rfl | rfl | rfl | rfl<;>rfl
  have hor:ior .u8 ((N/2 ^ (8*(wb V-1-i))%256:Nat):Int) ((2 ^ (min (k-8*(wb V-1-i)) 8)-1:Nat):Int)=(((UInt8.ofNat ((N+2 ^ k-1)/2 ^ (8*(wb V-1-i))%256)).toNat:Nat):Int):=by
   have hp:2 ^ (min (k-8*(wb V-1-i)) 8)≤2 ^ 8:=Nat.pow_le_pow_right (by omega) (by omega)
   rw [ior_nat .u8 rfl _ _ (by show _<256;omega) (by show _<256;omega),ofNat_toNat (Nat.mod_lt _ (by omega))]
   congr 1
   have hpos:0<2 ^ k:=Nat.pow_pos (by omega)
   rw [←byte_ones,←byte_or,←add_or h (by omega)]
   congr 2
   omega
  rw [hsh,hor,set_mkA hl,set_step _ _ i _ hA (get_bt hib)]
  have hwi:wr .i64 ((i:Int)+1)=((i+1:Nat):Int):=by rw [Qam (by omega) (by omega)];omega
  rw [hwi]
  exact last_loop hk h b hb x hx f (i+1) (by omega)
theorem last_prf{V:Int}(hf:fam V){N k:Nat}(hk:k≤wd V)(h:2 ^ k ∣ N):QaO (prf V N k)=some (adr V (N+2 ^ k-1)):=by
 unfold QaO
 show (Qcj (adr V N)>>=fun t4=>QaO.l0 (prf V N k) t4 0 (adr V N)>>=fun q5=>some q5)=_
 rw [(QfP hf N).1,Qf]
 have:=last_loop hk h _ rfl (prf V N k) rfl (wb V) 0 (by omega)
 rw [List.take_zero,List.drop_zero,List.nil_append] at this
 show (QaO.l0 (prf V N k) (wd V:Int) ((0:Nat):Int) (mkA V (bt V N))>>=_)=_
 rw [this];rfl
end Go.Proofs.YtahlbjmafceoeaaGreatDoor.Agg
namespace Go.Proofs.YtahlbjmafceoeaaGreatDoor.Agg
open E Go.RowKit Adr Cid
theorem refl1_loop(i:Nat)(hi:i≤1000):∀ (f j n:Nat),j+f=i%8→n<256→QM.l1 (i:Int) (n:Int) (j:Int)=some ((n/2 ^ f:Nat):Int)
 | 0,j,n,hf,hn=>by
  have e:Int.tmod (i:Int) 8=((i%8:Nat):Int):=by rw [Int.tmod_eq_emod_of_nonneg (by omega)];omega
  rw [QM.l1.eq_def,e,decide_eq_false (by omega),if_neg Bool.false_ne_true,Nat.pow_zero,Nat.div_one]
 | f+1,j,n,hf,hn=>by
  have e:Int.tmod (i:Int) 8=((i%8:Nat):Int):=by rw [Int.tmod_eq_emod_of_nonneg (by omega)];omega
  have e2:wr .i64 (Int.tdiv (n:Int) 2)=((n/2:Nat):Int):=by
   rw [Int.tdiv_eq_ediv_of_nonneg (by omega),Qam (by omega) (by omega)];omega
  have e3:wr .i64 ((j:Int)+1)=((j+1:Nat):Int):=by rw [Qam (by omega) (by omega)];omega
  rw [QM.l1.eq_def,e,decide_eq_true (by omega),if_pos rfl,e2,e3,refl1_loop i hi f (j+1) (n/2) (by omega) (by omega),Nat.div_div_eq_div_mul,Nat.pow_succ,Nat.mul_comm 2]
theorem byte_at(e s:Nat):2 ^ e/2 ^ (8*s)%256=if 8*s≤e∧e<8*s+8 then 2 ^ (e-8*s) else 0:=by
 apply Nat.eq_of_testBit_eq
 intro j
 rw [show (256:Nat)=2 ^ 8 from rfl,Nat.testBit_mod_two_pow,Nat.testBit_div_two_pow,Nat.testBit_two_pow]
 split
 ·rw [Nat.testBit_two_pow,Bool.eq_iff_iff,Bool.and_eq_true,decide_eq_true_iff,decide_eq_true_iff,decide_eq_true_iff];omega
 ·rw [Nat.zero_testBit,Bool.eq_iff_iff,Bool.and_eq_true,decide_eq_true_iff,decide_eq_true_iff]
  constructor
  ·rintro ⟨_,_⟩;omega
  ·intro h;cases h
theorem bg_add{V:Int}{X e i:Nat}(hX:2 ^ (e+1) ∣ X)(hi:i<wb V) :
  bg (bt V (X+2 ^ e)) i=if 8*(wb V-1-i)≤e∧e<8*(wb V-1-i)+8 then bg (bt V X) i+2 ^ (e-8*(wb V-1-i)) else bg (bt V X) i:=by
 rw [bg_bt,bg_bt,if_pos hi,if_pos hi,pow256,add_or (c:=e+1) hX (Nat.pow_lt_pow_right (by omega) (by omega)),byte_or,byte_at]
 generalize wb V-1-i=s
 split
 ·next h =>
  have h1:2 ^ (e-8*s+1) ∣ X/2 ^ (8*s)%256:=by
   have h2:2 ^ (e-8*s+1) ∣ X/2 ^ (8*s):=by
    refine (Nat.dvd_div_iff_mul_dvd ?_).2 ?_
    ·exact Nat.dvd_trans (Nat.pow_dvd_pow 2 (by omega)) hX
    ·rw [←Nat.pow_add,show 8*s+(e-8*s+1)=e+1 by omega];exact hX
   refine (Nat.dvd_mod_iff ?_).2 h2
   exact Nat.pow_dvd_pow 2 (show e-8*s+1≤8 by omega)
  exact (add_or h1 (Nat.pow_lt_pow_right (by omega) (by omega))).symm
 ·rw [Nat.or_zero]
theorem reflast_loop{V:Int}{N k:Nat}(hk:k≤wd V)(h:2 ^ k ∣ N):∀ (f i:Nat),i+f=wd V→wd V-k≤i →
  QM.l0 (wd V:Int) (i:Int) (adr V (N+2 ^ k-2 ^ (wd V-i)))=some (adr V (N+2 ^ k-1))
 | 0,i,hf,hi=>by
  have hw:=wd_le V
  rw [QM.l0.eq_def,decide_eq_false (by omega),if_neg Bool.false_ne_true,show wd V-i=0 by omega,Nat.pow_zero]
 | f+1,i,hf,hi=>by
  have hw:=wd_le V
  have hwb:=wd_wb V
  have hb:=wb_le V
  have hd:decide ((i:Int)<(wd V:Int))=true:=decide_eq_true (by omega)
  have e8:wr .i64 (Int.tdiv (i:Int) 8)=((i/8:Nat):Int):=by rw [Int.tdiv_eq_ediv_of_nonneg (by omega),Qam (by omega) (by omega)];omega
  have hg:(0:Int)≤((i/8:Nat):Int)∧((i/8:Nat):Int)<16:=by omega
  have hl1:=refl1_loop i (by omega) (i%8) 0 128 (by omega) (by omega)
  have hl1':QM.l1 (i:Int) 128 0=some ((128/2 ^ (i%8):Nat):Int):=hl1
  obtain ⟨e,he⟩:∃ e,e=wd V-1-i:=⟨_,rfl⟩
  have hpe:2 ^ (wd V-i)=2 ^ e+2 ^ e:=by rw [show wd V-i=e+1 by omega,Nat.pow_succ];omega
  have hle:2 ^ (wd V-i)≤2 ^ k:=Nat.pow_le_pow_right (by omega) (by omega)
  have hX:2 ^ (e+1) ∣ N+2 ^ k-2 ^ (wd V-i):=by
   rw [show e+1=wd V-i by omega]
   refine Nat.dvd_sub ?_ (Nat.dvd_refl _)
   exact Nat.dvd_add (Nat.dvd_trans (Nat.pow_dvd_pow 2 (by omega)) h) (Nat.pow_dvd_pow 2 (by omega))
  have hnext:N+2 ^ k-2 ^ (wd V-(i+1))=N+2 ^ k-2 ^ (wd V-i)+2 ^ e:=by
   rw [hpe,show wd V-(i+1)=e by omega];omega
  rw [QM.l0.eq_def,hd,if_pos rfl,hl1',Qf,e8,if_pos hg,if_pos hg]
  generalize hXX:N+2 ^ k-2 ^ (wd V-i)=X at hX hnext
  have hq:i/8<wb V:=by omega
  have hs:8*(wb V-1-i/8)≤e∧e<8*(wb V-1-i/8)+8:=by omega
  have hbit:=bg_add (V:=V) hX hq
  rw [if_pos hs,show e-8*(wb V-1-i/8)=7-i%8 by omega] at hbit
  have h128:128/2 ^ (i%8)=2 ^ (7-i%8):=by
   have:i%8=0∨i%8=1∨i%8=2∨i%8=3∨i%8=4∨i%8=5∨i%8=6∨i%8=7:=by omega
   rcases this with h | h | h | h | h | h | h | h<;>rw [h]<;>rfl
  have hsmall:2 ^ (7-i%8)≤2 ^ 7:=Nat.pow_le_pow_right (by omega) (by omega)
  have hlt:=bg_lt (bt V (X+2 ^ e)) (i/8)
  have hset:({ adr V X with f_B:=vset (adr V X).f_B ((i/8:Nat):Int) (wr .u8 ((vget (adr V X).f_B ((i/8:Nat):Int))+(wr .u8 ((128/2 ^ (i%8):Nat):Int)))) }:Qh)=adr V (X+2 ^ e):=by
   have hw1:wr .u8 ((128/2 ^ (i%8):Nat):Int)=((2 ^ (7-i%8):Nat):Int):=by rw [h128];clear h128;exact wr_u8 (Int.natCast_nonneg _) (by omega)
   have hgx:vget (adr V X).f_B ((i/8:Nat):Int)=(bg (bt V X) (i/8):Int):=get_mkA (QbL V X) _ (by omega)
   rw [hw1,hgx]
   have hw2:wr .u8 ((bg (bt V X) (i/8):Int)+((2 ^ (7-i%8):Nat):Int))=(((UInt8.ofNat (bg (bt V (X+2 ^ e)) (i/8))).toNat:Nat):Int):=by
    rw [ofNat_toNat hlt,hbit]
    clear hw1 h128 hl1 hl1'
    generalize 2 ^ (7-i%8)=t at hbit hsmall ⊢
    rw [wr_u8 (by omega) (by omega)];omega
   rw [hw2]
   show ({ mkA V (bt V X) with f_B:=vset (mkA V (bt V X)).f_B ((i/8:Nat):Int) _ }:Qh)=_
   rw [set_mkA (QbL V X)]
   unfold adr
   congr 1
   refine bg_ext (by rw [List.length_set,QbL]) (QbL _ _) fun j hj=>?_
   by_cases hji:i/8=j
   ·subst hji
    unfold bg
    rw [List.getD_eq_getElem?_getD,List.getElem?_set_self (by rw [QbL];omega),Option.getD_some]
    exact ofNat_toNat hlt
   ·have:bg ((bt V X).set (i/8) (UInt8.ofNat (bg (bt V (X+2 ^ e)) (i/8)))) j=bg (bt V X) j:=by
     unfold bg
     rw [List.getD_eq_getElem?_getD,List.getElem?_set_ne hji,←List.getD_eq_getElem?_getD]
    rw [this]
    by_cases hjb:j<wb V
    ·rw [bg_add hX hjb,if_neg (by omega)]
    ·rw [bg_bt,bg_bt,if_neg hjb,if_neg hjb]
  rw [hset]
  have hwi:wr .i64 ((i:Int)+1)=((i+1:Nat):Int):=by rw [Qam (by omega) (by omega)];omega
  rw [hwi,←hnext]
  exact reflast_loop hk h f (i+1) (by omega) (by omega)
theorem QeM{V:Int}(hf:fam V){N k:Nat}(hk:k≤wd V)(h:2 ^ k ∣ N):QM (prf V N k)=some (adr V (N+2 ^ k-1)):=by
 unfold QM
 show (QaK (adr V N)>>=fun t4=>QM.l0 t4 ((wd V-k:Nat):Int) (adr V N)>>=fun q5=>some q5)=_
 rw [(QfP hf N).2,Qf]
 have:=reflast_loop hk h k (wd V-k) (by omega) (Nat.le_refl _)
 rw [show wd V-(wd V-k)=k by omega,Nat.add_sub_cancel] at this
 rw [this];rfl
structure IsG (w N M k:Nat):Prop where
 le:k≤w
 dvd:2 ^ k ∣ N
 fit:N+2 ^ k≤M+1
 top:∀ j,j≤w→2 ^ j ∣ N→N+2 ^ j≤M+1→j≤k
theorem low_loop{V:Int}(hf:fam V){N:Nat}:∀ (f n:Nat),n+f=wd V→2 ^ n ∣ N→∃ z:Nat,Qbr.l0 (adr V N) (n:Int) (((wd V:Nat):Int)-1-(n:Int))=some (z:Int)∧z≤wd V∧2 ^ z ∣ N∧(z<wd V→¬ 2 ^ (z+1) ∣ N)
 | 0,n,hn,hd=>by
  refine ⟨n,?_,by omega,hd,by omega⟩
  rw [Qbr.l0.eq_def,decide_eq_false (by omega),if_neg Bool.false_ne_true]
 | f+1,n,hn,hd=>by
  have hw:=wd_le V
  have hi:(((wd V:Nat):Int)-1-(n:Int))=((wd V-1-n:Nat):Int):=by omega
  have hbit:Qf7 (adr V N) ((wd V-1-n:Nat):Int)=some ((N/2 ^ n%2:Nat):Int):=by
   unfold adr
   rw [bit_code (QbL V N) (by omega),width_bt hf,if_pos (by omega),Int.toNat_natCast,bit_bt (by omega),show wd V-1-(wd V-1-n)=n by omega]
  rw [Qbr.l0.eq_def,hi,decide_eq_true (by omega),if_pos rfl,hbit,Qf]
  have h2:N/2 ^ n%2=0↔2 ^ (n+1) ∣ N:=by
   obtain ⟨m,rfl⟩:=hd
   rw [Nat.mul_div_cancel_left _ (Nat.pow_pos (by omega)),Nat.pow_succ]
   constructor
   ·intro h;exact Nat.mul_dvd_mul_left _ (Nat.dvd_of_mod_eq_zero h)
   ·intro h;exact Nat.mod_eq_zero_of_dvd (Nat.dvd_of_mul_dvd_mul_left (Nat.pow_pos (by omega)) h)
  by_cases h0:N/2 ^ n%2=0
  ·have hq:(((N/2 ^ n%2:Nat):Int)==0)=true:=by rw [h0];rfl
   have e1:wr .i64 ((n:Int)+1)=((n+1:Nat):Int):=by rw [Qam (by omega) (by omega)];omega
   have e2:wr .i64 (((wd V-1-n:Nat):Int)-1)=((wd V:Nat):Int)-1-((n+1:Nat):Int):=by rw [Qam (by omega) (by omega)];omega
   rw [hq,if_pos rfl,e1,e2]
   exact low_loop hf f (n+1) (by omega) (h2.1 h0)
  ·have hq:(((N/2 ^ n%2:Nat):Int)==0)=false:=by rw [beq_eq_false_iff_ne];omega
   rw [hq,if_neg Bool.false_ne_true]
   exact ⟨n,rfl,by omega,hd,fun _=>fun h=>h0 (h2.2 h)⟩
theorem great_loop{V:Int}(hf:fam V){N M:Nat}(hM:M<2 ^ wd V)(hNM:N≤M):∀ (j:Nat),j≤wd V→2 ^ j ∣ N→(∀ i,i≤wd V→2 ^ i ∣ N→N+2 ^ i≤M+1→i≤j) →
  ∃ k,IsG (wd V) N M k∧Qa2.l0 (adr V N) (adr V M) ((wd V-j:Nat):Int) (prf V N j)=some (prf V N k)
 | j,hj,hd,ht=>by
  have hw:=wd_le V
  have hpj:0<2 ^ j:=Nat.pow_pos (by omega)
  rw [Qa2.l0.eq_def,last_prf hf hj hd,Qf]
  have hend:N+2 ^ j-1<2 ^ wd V:=by
   have hN:N<2 ^ wd V:=by omega
   obtain ⟨m,rfl⟩:=hd
   have e:2 ^ wd V=2 ^ j*2 ^ (wd V-j):=by rw [←Nat.pow_add];congr 1;omega
   rw [e] at hN ⊢
   have:=Nat.lt_of_mul_lt_mul_left hN
   have h3:2 ^ j*(m+1)≤2 ^ j*2 ^ (wd V-j):=Nat.mul_le_mul_left _ this
   rw [Nat.mul_add,Nat.mul_one] at h3
   omega
  rw [(Qdl hM hend).1,Qf]
  unfold ltA
  rw [if_pos rfl]
  by_cases h:M<N+2 ^ j-1
  ·rw [decide_eq_true h,if_pos rfl]
   cases j with
   | zero=>simp at h;omega
   | succ j =>
    have e1:wr .i64 (((wd V-(j+1):Nat):Int)+1)=((wd V-j:Nat):Int):=by rw [Qam (by omega) (by omega)];omega
    have hd':2 ^ j ∣ N:=Nat.dvd_trans (Nat.pow_dvd_pow 2 (by omega)) hd
    rw [e1,of_adr hf (by omega) hd',Qf]
    refine great_loop hf hM hNM j (by omega) hd' fun i hi h1 h2=>?_
    have:=ht i hi h1 h2
    have hne:i≠j+1:=fun e=>by subst e;omega
    omega
  ·rw [decide_eq_false h,if_neg Bool.false_ne_true]
   exact ⟨j,⟨hj,hd,by omega,ht⟩,rfl⟩
theorem great_code{V:Int}(hf:fam V){N M:Nat}(hM:M<2 ^ wd V)(hNM:N≤M):∃ k,IsG (wd V) N M k∧Qa2 (adr V N) (adr V M)=some (prf V N k):=by
 have hw:=wd_le V
 obtain ⟨z,hz,hz1,hz2,hz3⟩:=low_loop hf (N:=N) (wd V) 0 (by omega) (by simp)
 have hlow:Qbr (adr V N)=some (z:Int):=by
  unfold Qbr
  rw [(QfP hf N).1,Qf,Qam (by omega) (by omega)]
  have:(((wd V:Nat):Int)-1-((0:Nat):Int))=((wd V:Nat):Int)-1:=by omega
  rw [this] at hz
  show (Qbr.l0 (adr V N) ((0:Nat):Int) _>>=_)=_
  rw [hz];rfl
 have e1:wr .i64 ((wd V:Int)-(z:Int))=((wd V-z:Nat):Int):=by rw [Qam (by omega) (by omega)];omega
 obtain ⟨k,hk,hg⟩:=great_loop hf hM hNM z hz1 hz2 fun i hi h1 _=>by
  rcases Nat.lt_or_ge z i with h | h
  ·exact absurd (Nat.dvd_trans (Nat.pow_dvd_pow 2 h) h1) (hz3 (by omega))
  ·exact h
 refine ⟨k,hk,?_⟩
 unfold Qa2
 rw [(QfP hf N).1,Qf,hlow,Qf,e1,of_adr hf hz1 hz2,Qf]
 show (Qa2.l0 (adr V N) (adr V M) ((wd V-z:Nat):Int) (prf V N z)>>=fun q8=>some q8)=_
 rw [hg];rfl
theorem IsG.uniq{w N M k k':Nat}(h:IsG w N M k)(h':IsG w N M k'):k=k':=Nat.le_antisymm (h'.top k h.le h.dvd h.fit) (h.top k' h'.le h'.dvd h'.fit)
theorem refg_loop{V:Int}(hf:fam V){N M k:Nat}(hM:M<2 ^ wd V)(hg:IsG (wd V) N M k):∀ (f b:Nat),b+f=wd V-k →
  Q0.l1 (adr V M) (adr V N) (b:Int)=some ((wd V-k:Nat):Int)
 | f,b,hb=>by
  have hw:=wd_le V
  have hk:=hg.le
  have hN:N<2 ^ wd V:=by have:=hg.fit;have:0<2 ^ k:=Nat.pow_pos (by omega);omega
  have hj:wd V-(wd V-b)=b:=by omega
  have hz:({ { ({ f_A:=({ f_V:=(0:Int),f_B:=(Vector.replicate 16 (0:Int):(Vector Int 16)) }:Qh),f_Bits:=(0:Int) }:Qc) with f_A:=adr V N } with f_Bits:=(b:Int) }:Qc)=prf V N (wd V-b):=by
   unfold prf mkP;rw [hj]
  have hwi:wr .i64 ((b:Int)+1)=((b+1:Nat):Int):=by rw [Qam (by omega) (by omega)];omega
  rw [Q0.l1.eq_def,mask_adr hf (by omega),Qf,hz,hwi]
  have hMl:N/2 ^ (wd V-b)*2 ^ (wd V-b)<2 ^ wd V:=Nat.lt_of_le_of_lt (Nat.div_mul_le_self _ _) hN
  by_cases hd:2 ^ (wd V-b) ∣ N
  ·have he:decide (adr V (N/2 ^ (wd V-b)*2 ^ (wd V-b))=adr V N)=true:=decide_eq_true (by rw [aligned hd])
   have hpj:0<2 ^ (wd V-b):=Nat.pow_pos (by omega)
   have hend:N+2 ^ (wd V-b)-1<2 ^ wd V:=by
    obtain ⟨m,rfl⟩:=hd
    have e:2 ^ wd V=2 ^ (wd V-b)*2 ^ b:=by rw [←Nat.pow_add];congr 1;omega
    rw [e] at hN ⊢
    have:=Nat.lt_of_mul_lt_mul_left hN
    have h3:2 ^ (wd V-b)*(m+1)≤2 ^ (wd V-b)*2 ^ b:=Nat.mul_le_mul_left _ this
    rw [Nat.mul_add,Nat.mul_one] at h3
    omega
   rw [he,if_neg (by decide),QeM hf (by omega) hd,Qf,(Qdl hM hend).2,Qf]
   unfold ltA
   rw [if_pos rfl]
   by_cases hlt:M<N+2 ^ (wd V-b)-1
   ·rw [decide_eq_true hlt,if_pos rfl]
    cases f with
    | zero =>
     have:wd V-b=k:=by omega
     rw [this] at hlt
     have:=hg.fit;omega
    | succ f=>exact refg_loop hf hM hg f (b+1) (by omega)
   ·rw [decide_eq_false hlt,if_neg Bool.false_ne_true]
    have:=hg.top (wd V-b) (by omega) hd (by omega)
    rw [show wd V-k=b by omega]
  ·have he:decide (adr V (N/2 ^ (wd V-b)*2 ^ (wd V-b))=adr V N)=false:=by
    refine decide_eq_false fun e=>hd ?_
    have e2:=((adr_inj hMl hN).1 e).2
    exact ⟨N/2 ^ (wd V-b),by rw [Nat.mul_comm];exact e2.symm⟩
   rw [he,if_pos (by decide)]
   cases f with
   | zero =>
    have:wd V-b=k:=by omega
    rw [this] at hd
    exact absurd hg.dvd hd
   | succ f=>exact refg_loop hf hM hg f (b+1) (by omega)
end Go.Proofs.YtahlbjmafceoeaaGreatDoor.Agg
namespace Go.Proofs.YtahlbjmafceoeaaGreatDoor.Agg
open E Go.RowKit Adr Cid
inductive Cov (w M:Nat):Nat→List (Nat×Nat)→Prop
 | last {N k:Nat} (h:IsG w N M k) (e:M<N+2 ^ k):Cov w M N [(N,k)]
 | step {N k:Nat} {L:List (Nat×Nat)} (h:IsG w N M k) (e:N+2 ^ k≤M) (t:Cov w M (N+2 ^ k) L):Cov w M N ((N,k)::L)
theorem max_ex(p:Nat→Prop)(h0:p 0):∀ w,∃ k,k≤w∧p k∧∀ j,j≤w→p j→j≤k
 | 0=>⟨0,Nat.le_refl _,h0,fun j hj _=>hj⟩
 | w+1=>by
  by_cases h:p (w+1)
  ·exact ⟨w+1,Nat.le_refl _,h,fun j hj _=>hj⟩
  ·obtain ⟨k,h1,h2,h3⟩:=max_ex p h0 w
   refine ⟨k,by omega,h2,fun j hj hp=>h3 j ?_ hp⟩
   have:j≠w+1:=fun e=>h (e▸hp)
   omega
theorem isG_ex(w:Nat){N M:Nat}(h:N≤M):∃ k,IsG w N M k:=by
 obtain ⟨k,h1,h2,h3⟩:=max_ex (fun j=>2 ^ j ∣ N∧N+2 ^ j≤M+1) ⟨by simp,by simpa using h⟩ w
 exact ⟨k,h1,h2.1,h2.2,fun j hj a b=>h3 j hj ⟨a,b⟩⟩
theorem covB{w M:Nat}:∀ (j N:Nat),j≤w→2 ^ j ∣ N→N≤M→M+1<N+2 ^ j→∃ L,Cov w M N L∧L.length≤j:=by
 intro j
 induction j using Nat.strongRecOn with
 | ind j ih =>
  intro N hj hd hN hr
  obtain ⟨k,hk⟩:=isG_ex w hN
  have hkj:k<j:=by
   rcases Nat.lt_or_ge k j with h | h
   ·exact h
   ·have:=Nat.pow_le_pow_right (show 0<2 by omega) h
    have:=hk.fit;omega
  by_cases e:M<N+2 ^ k
  ·exact ⟨_,.last hk e,by simp;omega⟩
  ·have hd':2 ^ (k+1) ∣ N:=Nat.dvd_trans (Nat.pow_dvd_pow 2 hkj) hd
   have hnf:¬ N+2 ^ (k+1)≤M+1:=fun h=>by have:=hk.top (k+1) (by omega) hd' h;omega
   rw [Nat.pow_succ] at hnf
   obtain ⟨L,h1,h2⟩:=ih k hkj (N+2 ^ k) (by omega) (Nat.dvd_add hk.dvd (Nat.dvd_refl _)) (by omega) (by omega)
   exact ⟨(N,k)::L,.step hk (show N+2 ^ k≤M by omega) h1,by rw [List.length_cons];omega⟩
theorem covA{w M:Nat}(hM:M<2 ^ w):∀ (f j N:Nat),j+f=w→2 ^ j ∣ N→N≤M→∃ L,Cov w M N L∧L.length≤f+w+1:=by
 intro f
 induction f using Nat.strongRecOn with
 | ind f ih =>
  intro j N hf hd hN
  obtain ⟨k,hk⟩:=isG_ex w hN
  by_cases hs:M+1<N+2 ^ j
  ·obtain ⟨L,h1,h2⟩:=covB (w:=w) (M:=M) j N (by omega) hd hN hs
   exact ⟨L,h1,by omega⟩
  ·have hjk:=hk.top j (by omega) hd (by omega)
   by_cases e:M<N+2 ^ k
   ·exact ⟨_,.last hk e,by simp⟩
   ·have hkw:k<w:=by
     rcases Nat.lt_or_ge k w with h | h
     ·exact h
     ·have:=Nat.pow_le_pow_right (show 0<2 by omega) h;omega
    by_cases h2:2 ^ (k+1) ∣ N
    ·have hnf:¬ N+2 ^ (k+1)≤M+1:=fun h=>by have:=hk.top (k+1) (by omega) h2 h;omega
     rw [Nat.pow_succ] at hnf
     obtain ⟨L,h3,h4⟩:=covB (w:=w) (M:=M) k (N+2 ^ k) (by omega) (Nat.dvd_add hk.dvd (Nat.dvd_refl _)) (by omega) (by omega)
     exact ⟨(N,k)::L,.step hk (show N+2 ^ k≤M by omega) h3,by rw [List.length_cons];omega⟩
    ·have h3:2 ^ (k+1) ∣ N+2 ^ k:=by
      obtain ⟨m,hm⟩:=hk.dvd
      have hodd:m%2=1:=by
       rcases Nat.mod_two_eq_zero_or_one m with h | h
       ·exfalso;apply h2
        rw [hm,Nat.pow_succ]
        exact Nat.mul_dvd_mul_left _ (Nat.dvd_of_mod_eq_zero h)
       ·exact h
      rw [hm,Nat.pow_succ,show 2 ^ k*m+2 ^ k=2 ^ k*(m+1) by rw [Nat.mul_add,Nat.mul_one]]
      exact Nat.mul_dvd_mul_left _ (Nat.dvd_of_mod_eq_zero (by omega))
     obtain ⟨L,h4,h5⟩:=ih (w-(k+1)) (by omega) (k+1) (N+2 ^ k) (by omega) h3 (by omega)
     exact ⟨(N,k)::L,.step hk (show N+2 ^ k≤M by omega) h4,by rw [List.length_cons];omega⟩
theorem cov_ex{w M N:Nat}(hM:M<2 ^ w)(hN:N≤M):∃ L,Cov w M N L∧L.length≤w+w+1:=covA hM w 0 N (by omega) (by simp) hN
theorem Cov.uniq{w M N:Nat}{L L':List (Nat×Nat)}(h:Cov w M N L):Cov w M N L'→L=L':=by
 induction h generalizing L' with
 | last h e =>
  intro h'
  cases h' with
  | last h2 e2=>rw [h.uniq h2]
  | step h2 e2 t2=>have:=h.uniq h2;subst this;omega
 | step h e t ih =>
  intro h'
  cases h' with
  | last h2 e2=>have:=h.uniq h2;subst this;omega
  | step h2 e2 t2=>have:=h.uniq h2;subst this;rw [ih t2]
def toP(V:Int)(L:List (Nat×Nat)):List Qc:=L.map fun p=>prf V p.1 p.2
theorem toP_cons(V:Int)(N k:Nat)(L:List (Nat×Nat)):toP V ((N,k)::L)=prf V N k::toP V L:=rfl
theorem prf_lit(V:Int)(N k:Nat):({ { ({ f_A:=({ f_V:=(0:Int),f_B:=(Vector.replicate 16 (0:Int):(Vector Int 16)) }:Qh),f_Bits:=(0:Int) }:Qc) with f_A:=adr V N } with f_Bits:=((wd V-k:Nat):Int) }:Qc)=prf V N k:=rfl
theorem pref_loop{V:Int}(hf:fam V){M:Nat}(hM:M<2 ^ wd V)(x:QF)(hx:x.f_To=adr V M){N:Nat}{L:List (Nat×Nat)}(h:Cov (wd V) M N L):∀ (out:List Qc),out.length+L.length≤1000000 →
  QaR.l0 x out (adr V N)=some (out++toP V L)∧Q0.l0 (adr V M) out (adr V N)=some (out++toP V L):=by
 induction h with
 | @last N k h e =>
  intro out ho
  have hk:=h.le
  have hp:0<2 ^ k:=Nat.pow_pos (by omega)
  have hfit:=h.fit
  obtain ⟨k',h',hg⟩:=great_code hf hM (show N≤M by omega)
  have:=h.uniq h';subst this
  have hr:=refg_loop hf hM h (wd V-k) 0 (by omega)
  have hend:N+2 ^ k-1=M:=by omega
  obtain ⟨n1,n2⟩:=next_adr hf hM
  have hlen:out.length+1≤1000000:=by simpa using ho
  rw [QaR.l0.eq_def,Q0.l0.eq_def,hx,hg,Qf,show (0:Int)=((0:Nat):Int) from rfl,hr,Qf,if_pos (by omega),if_pos (by omega),last_prf hf hk h.dvd,Qf,prf_lit,QeM hf hk h.dvd,Qf,hend,n1,n2,Qf,Qf]
  unfold nx
  by_cases hl:M+1<2 ^ wd V
  ·rw [if_pos hl,if_neg (by simp),if_neg (by simp)]
   obtain ⟨l1,l2⟩:=Qdl hM (W:=V) hl
   rw [l1,l2,Qf,Qf]
   unfold ltA
   rw [if_pos rfl,decide_eq_true (by omega),if_pos rfl,if_pos rfl]
   exact ⟨rfl,rfl⟩
  ·rw [if_neg hl,if_pos (by simp),if_pos (by simp)]
   exact ⟨rfl,rfl⟩
 | @step N k L h e t ih =>
  intro out ho
  have hk:=h.le
  have hp:0<2 ^ k:=Nat.pow_pos (by omega)
  have hfit:=h.fit
  obtain ⟨k',h',hg⟩:=great_code hf hM (show N≤M by omega)
  have:=h.uniq h';subst this
  have hr:=refg_loop hf hM h (wd V-k) 0 (by omega)
  have hN1:N+2 ^ k-1<2 ^ wd V:=by omega
  have hN2:N+2 ^ k-1+1=N+2 ^ k:=by omega
  have hN3:N+2 ^ k<2 ^ wd V:=by omega
  obtain ⟨n1,n2⟩:=next_adr hf hN1
  have hlen:out.length+(L.length+1)≤1000000:=by simpa using ho
  rw [QaR.l0.eq_def,Q0.l0.eq_def,hx,hg,Qf,show (0:Int)=((0:Nat):Int) from rfl,hr,Qf,if_pos (by omega),if_pos (by omega),last_prf hf hk h.dvd,Qf,prf_lit,QeM hf hk h.dvd,Qf,n1,n2,Qf,Qf]
  unfold nx
  rw [hN2,if_pos hN3,if_neg (by simp),if_neg (by simp)]
  obtain ⟨l1,l2⟩:=Qdl hM (W:=V) hN3
  rw [l1,l2,Qf,Qf]
  unfold ltA
  rw [if_pos rfl,decide_eq_false (by omega),if_neg (by decide),if_neg (by decide)]
  obtain ⟨i1,i2⟩:=ih (out++[prf V N k]) (by simp;omega)
  rw [i1,i2,toP_cons,List.append_assoc]
  exact ⟨rfl,rfl⟩
def rng(V:Int)(N M:Nat):QF:=⟨adr V N,adr V M⟩
theorem rright{V W:Int}(hf:fam V)(hg:fam W){N M:Nat}(hN:N<2 ^ wd V)(hM:M<2 ^ wd W):QcT ⟨adr V N,adr W M⟩=some (decide (V=W)&&!ltA W M V N)∧Qcf (adr V N) (adr W M)=some (decide (V=W)&&!ltA W M V N):=by
 obtain ⟨a1,a2⟩:=adr_right hf N
 obtain ⟨b1,b2⟩:=adr_right hg M
 obtain ⟨l1,l2⟩:=Qdl hM hN
 unfold QcT Qcf
 show (QbN (adr V N)>>=fun t2=>if t2=true then (QbN (adr W M)>>=fun t4=>if t4=true then (if (V==W)=true then (Qct (adr W M) (adr V N)>>=fun t7=>some (!t7)) else (some false)) else (some false)) else (some false))=_∧(QV (adr V N)>>=fun t3=>if t3=true then (QV (adr W M)>>=fun t5=>if t5=true then (if (V==W)=true then (Qab (adr W M) (adr V N)>>=fun t8=>some (!t8)) else (some false)) else (some false)) else (some false))=_
 rw [a1,a2,b1,b2,Qf,Qf,if_pos rfl,Qf,if_pos rfl,if_pos rfl,Qf,if_pos rfl,l1,l2]
 by_cases h:V=W
 ·subst h
  simp [Qf]
 ·have:(V==W)=false:=by simpa using h
  rw [this,decide_eq_false h]
  exact ⟨rfl,rfl⟩
theorem prefixes_code{V:Int}(hf:fam V){N M:Nat}(hM:M<2 ^ wd V)(hN:N≤M):∃ L,Cov (wd V) M N L∧L.length≤257∧QaR (rng V N M)=some (toP V L)∧Q0 (adr V N) (adr V M)=some (toP V L):=by
 have hw:=wd_le V
 obtain ⟨L,h1,h2⟩:=cov_ex hM hN
 refine ⟨L,h1,by omega,?_⟩
 obtain ⟨r1,r2⟩:=rright hf hf (show N<2 ^ wd V by omega) hM
 obtain ⟨p1,p2⟩:=pref_loop hf hM (rng V N M) rfl h1 [] (by simp;omega)
 unfold QaR Q0 rng at *
 have hr:(decide (V=V)&&!ltA V M V N)=true:=by
  unfold ltA
  rw [if_pos rfl,decide_eq_true rfl,decide_eq_false (by omega)];rfl
 rw [r1,r2,Qf,Qf,hr,if_neg (by decide),if_neg (by decide)]
 rw [List.nil_append] at p1 p2
 rw [p1,p2]
 exact ⟨rfl,rfl⟩
end Go.Proofs.YtahlbjmafceoeaaGreatDoor.Agg
namespace Go.Proofs.YtahlbjmafceoeaaGreatDoor.Agg
open E Go.RowKit Adr Cid
theorem Qcg{α:Type}[Inhabited α](A:List α)(x:α)(B:List α):lget (A++x::B) (A.length:Int)=x:=by simp [lget]
theorem in_mid{α:Type}(A:List α)(x:α)(B:List α):(0:Int)≤(A.length:Int)∧(A.length:Int)<((A++x::B).length:Int):=by simp;omega
theorem Qes{α:Type}(A:List α)(x:α)(h:A.length≤1000000):wr .i64 ((A.length:Int)+1)=((A++[x]).length:Int):=by rw [Qam (by omega) (by omega)];simp
theorem not_lt_end{α:Type}(A:List α):decide ((A.length:Int)<((A++[]).length:Int))=false:=by simp
def rgt(x:Qc):Bool:=(QbM x).getD false
theorem idx_loop(p:Qc→Bool):∀ (B A:List Qc),(∀ x∈A++B,Qbl x=some (!p x))→(A++B).length≤1000000 →
  (∃ (C:List Qc) (y:Qc) (D:List Qc),B=C++y::D∧(∀ x∈C,p x=true)∧p y=false∧Qz.l0 (A++B) (A.length:Int)=some (.ret ((A++C).length:Int))) ∨
  ((∀ x∈B,p x=true)∧Qz.l0 (A++B) (A.length:Int)=some (.nx ()))
 | [],A,hp,hn=>by
  right
  refine ⟨fun x hx=>(by cases hx),?_⟩
  rw [Qz.l0.eq_def,not_lt_end,if_neg Bool.false_ne_true]
 | b::B,A,hp,hn=>by
  rw [Qz.l0.eq_def,decide_eq_true (in_mid A b B).2,if_pos rfl,if_pos (in_mid A b B),Qcg,hp b (by simp),Qf]
  cases h:p b with
  | false =>
   left
   refine ⟨[],b,B,rfl,fun x hx=>(by cases hx),h,?_⟩
   rw [if_pos (show (!false)=true from rfl),List.append_nil]
  | true =>
   rw [if_neg (by decide),Qes A b (by simp at hn;omega)]
   have e:A++b::B=(A++[b])++B:=by simp
   rw [e]
   rcases idx_loop p B (A++[b]) (by rw [←e];exact hp) (by rw [←e];exact hn) with ⟨C,y,D,h1,h2,h3,h4⟩ | ⟨h1,h2⟩
   ·left
    refine ⟨b::C,y,D,by rw [h1];rfl,fun x hx=>?_,h3,by rw [h4];simp⟩
    rcases List.mem_cons.1 hx with rfl | hx
    ·exact h
    ·exact h2 x hx
   ·right
    refine ⟨fun x hx=>?_,h2⟩
    rcases List.mem_cons.1 hx with rfl | hx
    ·exact h
    ·exact h1 x hx
theorem del_loop(p:Qc→Bool):∀ (B W G:List Qc),(∀ x∈B,Qbl x=some (!p x))→(W++(G++B)).length≤1000000→0<G.length →
  ∃ R:List Qc,Qy.l0 (W++(G++B)) (W.length:Int) ((W.length+G.length:Nat):Int)=some (W++(B.filter p)++R,((W++B.filter p).length:Int))∧(W++B.filter p++R).length=(W++(G++B)).length
 | [],W,G,hp,hn,hg=>by
  refine ⟨G,?_,by simp⟩
  rw [Qy.l0.eq_def,decide_eq_false (by simp),if_neg Bool.false_ne_true]
  simp
 | b::B,W,G,hp,hn,hg=>by
  obtain ⟨g,G,rfl⟩:∃ g G',G=g::G':=by
   cases G with
   | nil=>cases hg
   | cons g G=>exact ⟨g,G,rfl⟩
  have e1:W++(g::G++b::B)=(W++g::G)++b::B:=by simp
  have e2:((W.length+(g::G).length:Nat):Int)=((W++g::G).length:Int):=by simp
  have hl:(W++g::G).length≤1000000:=by simp at hn ⊢;omega
  have hwi:wr .i64 (((W++g::G).length:Int)+1)=((W.length+(g::G).length+1:Nat):Int):=by rw [Qam (by omega) (by omega)];simp
  rw [Qy.l0.eq_def,e2,e1,decide_eq_true (in_mid _ b B).2,if_pos rfl,if_pos (in_mid _ b B),Qcg,hp b (by simp),Qf,hwi]
  have hpB:∀ x∈B,Qbl x=some (!p x):=fun x hx=>hp x (List.mem_cons_of_mem _ hx)
  cases h:p b with
  | false =>
   rw [if_neg (by decide)]
   obtain ⟨R,h1,h2⟩:=del_loop p B W (g::G++[b]) hpB (by simp at hn ⊢;omega) (by simp)
   refine ⟨R,?_,?_⟩
   ·rw [List.filter_cons_of_neg (by rw [h];decide)]
    rw [←h1]
    have e4:W++g::G++b::B=W++(g::G++[b]++B):=by simp
    have e5:W.length+(g::G).length+1=W.length+(g::G++[b]).length:=by simp;omega
    rw [e4,e5]
   ·rw [List.filter_cons_of_neg (by rw [h];decide),h2];simp
  | true =>
   have hw1:(0:Int)≤(W.length:Int)∧(W.length:Int)<((W++g::G++b::B).length:Int):=by simp;omega
   have hset:lset (W++g::G++b::B) (W.length:Int) b=(W++[b])++((G++[b])++B):=by simp [lset]
   have hw2:wr .i64 ((W.length:Int)+1)=((W++[b]).length:Int):=by rw [Qam (by simp at hn;omega) (by simp at hn;omega)];simp
   rw [if_pos (by decide),if_pos hw1,hset,hw2]
   obtain ⟨R,h1,h2⟩:=del_loop p B (W++[b]) (G++[b]) hpB (by simp at hn ⊢;omega) (by simp)
   refine ⟨R,?_,?_⟩
   ·rw [List.filter_cons_of_pos h]
    have e3:((W.length+(g::G).length+1:Nat):Int)=(((W++[b]).length+(G++[b]).length:Nat):Int):=by simp;omega
    rw [e3,h1];simp
   ·rw [List.filter_cons_of_pos h]
    simp at h2 ⊢;omega
theorem del_code(p:Qc→Bool)(xs:List Qc)(hp:∀ x∈xs,Qbl x=some (!p x))(hn:xs.length≤1000000):Qy xs=some (xs.filter p):=by
 unfold Qy Qz
 rcases idx_loop p xs [] hp hn with ⟨C,y,D,h1,h2,h3,h4⟩ | ⟨h1,h2⟩
 ·rw [List.nil_append,List.nil_append] at h4
  have h4':Qz.l0 xs 0=some (.ret (C.length:Int)):=h4
  rw [h4',Qf,Qf]
  have hne:((C.length:Int) == -1)=false:=by rw [beq_eq_false_iff_ne];omega
  have hCl:C.length<xs.length:=by rw [h1];simp
  have hwi:wr .i64 ((C.length:Int)+1)=((C.length+[y].length:Nat):Int):=by rw [Qam (by omega) (by omega)];simp
  obtain ⟨R,h5,h6⟩:=del_loop p D C [y] (fun x hx=>hp x (by rw [h1];simp [hx])) (by rw [h1] at hn;simpa using hn) (by simp)
  have hfil:xs.filter p=C++D.filter p:=by
   rw [h1,List.filter_append,List.filter_cons_of_neg (by rw [h3];decide),List.filter_eq_self.2 h2]
  show (if ((C.length:Int) == -1)=true then _ else _)=_
  have e:xs=C++([y]++D):=by rw [h1];rfl
  rw [hne,if_neg Bool.false_ne_true,hwi]
  conv=>lhs;lhs;rw [e]
  rw [h5,Qf]
  have hq:(C++D.filter p).length≤(C++D.filter p++R).length:=by simp
  have htk:List.take (C++D.filter p).length (C++D.filter p++R)=C++D.filter p:=List.take_left ..
  show (if (0:Int)≤((C++D.filter p).length:Int)∧((C++D.filter p).length:Int)≤((C++D.filter p++R).length:Int)∧_ then _ else none)=_
  rw [if_pos ⟨by omega,by omega,Int.le_refl _⟩]
  show (if (0:Int)≤((C++D.filter p).length:Int)∧((C++D.filter p).length:Int)≤((List.take (Int.toNat ((C++D.filter p).length:Int)) (C++D.filter p++R)++_).length:Int) then some (List.take (Int.toNat ((C++D.filter p).length:Int)) (List.take (Int.toNat ((C++D.filter p).length:Int)) (C++D.filter p++R)++_)) else none)=_
  rw [Int.toNat_natCast,htk,if_pos ⟨by omega,by simp;omega⟩,List.take_left,hfil]
 ·have h2':Qz.l0 xs 0=some (.nx ()):=h2
  rw [h2',Qf]
  show some xs=_
  rw [List.filter_eq_self.2 h1]
theorem lessP_prf{V W:Int}{N M k j:Nat}(hN:N<2 ^ wd V)(hM:M<2 ^ wd W):lessP (prf V N k) (prf W M j)=if V=W∧N=M then decide (((wd V-k:Nat):Int)<((wd W-j:Nat):Int)) else ltA V N W M:=by
 have h1:=(Qdl hN hM).1
 rw [less_key] at h1
 unfold lessP
 show (if adr V N=adr W M then decide (((wd V-k:Nat):Int)<((wd W-j:Nat):Int)) else lessK (adr V N) (adr W M))=_
 simp only [adr_inj hN hM]
 split
 ·rfl
 ·exact Option.some.inj h1
theorem less11{V W:Int}{N M k j:Nat}(hN:N<2 ^ wd V)(hM:M<2 ^ wd W):Qa1 (prf V N k) (prf W M j)=some (lessP (prf V N k) (prf W M j)):=by
 rw [lessP_prf hN hM]
 unfold Qa1
 show (if (!decide (adr V N=adr W M))=true then (Qab (adr V N) (adr W M)>>=fun t4=>some t4) else (some (decide (((wd V-k:Nat):Int)<((wd W-j:Nat):Int)))))=_
 rw [(Qdl hN hM).2,Qf]
 by_cases h:V=W∧N=M
 ·rw [if_pos h,decide_eq_true ((adr_inj hN hM).2 h),if_neg (by decide)]
 ·rw [if_neg h,decide_eq_false (mt (adr_inj hN hM).1 h),if_pos (by decide)]
structure Good (t:Int×Nat×Nat):Prop where
 fam:fam t.1
 lt:t.2.1<2 ^ wd t.1
 le:t.2.2≤wd t.1
 dvd:2 ^ t.2.2 ∣ t.2.1
def pf(t:Int×Nat×Nat):Qc:=prf t.1 t.2.1 t.2.2
theorem okb_vb{l:List UInt8}(hl:l.length=16):okb (vb l)=true:=by
 unfold okb
 rw [QcJ hl]
 unfold ob
 rw [List.all_map]
 refine List.all_eq_true.2 fun b _=>?_
 have:=b.toNat_lt
 simp;omega
theorem ok_prf(V:Int)(N k:Nat):okP (prf V N k):=okb_vb (QbL V N)
theorem right_rows(xs:List Qc)(hx:∀ x∈xs,Qah x):∃ p:Qc→Bool,(∀ x∈xs,QbM x=some (p x)∧Qad x=some (p x))∧∃ T:List (Int×Nat×Nat),(∀ t∈T,Good t)∧xs.filter p=T.map pf:=by
 refine ⟨rgt,fun x h=>?_,?_⟩
 ·obtain ⟨V,l,b,rfl,hl,_⟩:=Qf0 x (hx x h)
  unfold rgt
  rw [Qdv hl,Qd2 hl];exact ⟨rfl,rfl⟩
 ·have hall:∀ x∈xs.filter rgt,∃ t,Good t∧x=pf t:=fun x h=>by
   obtain ⟨h1,h2⟩:=List.mem_filter.1 h
   obtain ⟨V,l,b,rfl,hl,_⟩:=Qf0 x (hx x h1)
   unfold rgt at h2
   rw [Qdv hl] at h2
   obtain ⟨hf,N,k,a1,a2,a3,a4⟩:=right_prf hl h2
   exact ⟨(V,N,k),⟨hf,a1,a2,a3⟩,a4⟩
  generalize xs.filter rgt=ys at hall
  induction ys with
  | nil=>exact ⟨[],fun t h=>(by cases h),rfl⟩
  | cons y ys ih =>
   obtain ⟨t,h1,h2⟩:=hall y (List.mem_cons_self ..)
   obtain ⟨T,h3,h4⟩:=ih fun x hx=>hall x (List.mem_cons_of_mem _ hx)
   refine ⟨t::T,fun u hu=>?_,by rw [List.map_cons,←h2,←h4]⟩
   rcases List.mem_cons.1 hu with rfl | hu
   ·exact h1
   ·exact h3 u hu
theorem ins_at{α:Type}{lt:α→α→Bool}{x:α}:∀ (A B:List α),(∀ y∈A,lt x y=false)→(∀ y∈B,lt x y=true)→ins lt x (A++B)=A++x::B
 | [],B,_,hb=>by
  cases B with
  | nil=>rfl
  | cons b B=>show (if lt x b=true then x::b::B else b::ins lt x B)=_;rw [if_pos (hb b (List.mem_cons_self ..))];rfl
 | a::A,B,ha,hb=>by
  show (if lt x a=true then x::a::(A++B) else a::ins lt x (A++B))=_
  rw [if_neg (by rw [ha a (List.mem_cons_self ..)];decide),ins_at A B (fun y hy=>ha y (List.mem_cons_of_mem _ hy)) hb];rfl
theorem pos_loop(xs:List Qc)(i:Nat)(x:Qc)(hi:(0:Int)≤(i:Int)∧(i:Int)<(xs.length:Int))(hx:lget xs (i:Int)=x)(kx:okP x)(out:List Qc)(hout:∀ y∈out,okP y∧Qa1 x y=some (lessP x y))(hup:Up lessP out)(hn:out.length≤1000000) :
  ∀ (A B:List Qc),out=A++B→(∀ y∈B,lessP x y=true)→∃ A' B',out=A'++B'∧Q2.l1 xs out (i:Int) (A.length:Int)=some (A'.length:Int)∧ins lessP x out=A'++x::B':=by
 intro A
 induction hA:A.length generalizing A with
 | zero =>
  intro B h1 h2
  have:A=[]:=List.eq_nil_of_length_eq_zero hA
  subst this
  refine ⟨[],B,h1,?_,?_⟩
  ·rw [Q2.l1.eq_def,decide_eq_false (by simp),if_neg Bool.false_ne_true];rfl
  ·rw [h1];exact ins_at [] B (fun y hy=>by cases hy) h2
 | succ n ih =>
  intro B h1 h2
  obtain ⟨A',a,rfl⟩:∃ A' a,A=A'++[a]:=⟨A.dropLast,A.getLast (by intro e;subst e;cases hA),(List.dropLast_concat_getLast _).symm⟩
  have hA':A'.length=n:=by simpa using hA
  have e1:out=A'++a::B:=by rw [h1];simp
  have hn2:A'.length+1≤1000000:=by rw [e1] at hn;simp at hn;omega
  have hwi:wr .i64 (((n+1:Nat):Int)-1)=(A'.length:Int):=by rw [Qam (by omega) (by omega)];omega
  have hin:(0:Int)≤(A'.length:Int)∧(A'.length:Int)<(out.length:Int):=by rw [e1];exact in_mid A' a B
  have hga:lget out (A'.length:Int)=a:=by rw [e1];exact Qcg A' a B
  have ha:=hout a (by rw [e1];simp)
  rw [Q2.l1.eq_def,decide_eq_true (by omega),if_pos rfl,if_pos hi,hwi,if_pos hin,hx,hga,ha.2,Qf]
  cases hl:lessP x a with
  | true =>
   rw [if_pos rfl,hA']
   exact ih A' hA' (a::B) e1 fun y hy=>by
    rcases List.mem_cons.1 hy with rfl | hy
    ·exact hl
    ·exact h2 y hy
  | false =>
   rw [if_neg Bool.false_ne_true]
   refine ⟨A'++[a],B,h1,by simp [hA'],?_⟩
   rw [h1]
   refine ins_at (A'++[a]) B (fun y hy=>?_) h2
   rcases List.mem_append.1 hy with hy | hy
   ·have hya:lessP a y=false:=by
     have h3:Up lessP (A'++a::B):=e1▸hup
     exact (List.pairwise_append.1 h3).2.2 y hy a (List.mem_cons_self ..)
    exact Qd8.ntrans x a y kx ha.1 (hout y (by rw [e1];simp [hy])).1 hl hya
   ·rw [List.mem_singleton.1 hy];exact hl
def IsPf(x:Qc):Prop:=∃ t,Good t∧x=pf t
theorem IsPf.ok{x:Qc}(h:IsPf x):okP x:=by obtain ⟨t,_,rfl⟩:=h;exact ok_prf _ _ _
theorem IsPf.less{x y:Qc}(hx:IsPf x)(hy:IsPf y):Qa1 x y=some (lessP x y):=by
 obtain ⟨t,ht,rfl⟩:=hx
 obtain ⟨u,hu,rfl⟩:=hy
 exact less11 ht.lt hu.lt
theorem ins_mem{α:Type}{lt:α→α→Bool}{x y:α}{l:List α}(h:y∈ins lt x l):y=x∨y∈l:=List.mem_cons.1 ((QdU lt x l).mem_iff.1 h)
theorem Qgp(p:Qc→Bool)(xs:List Qc)(hn:xs.length≤100000):∀ (B A out:List Qc),xs=A++B→(∀ x∈B,Qad x=some (p x))→(∀ x∈B,p x=true→IsPf x)→(∀ y∈out,IsPf y)→Up lessP out→out.length≤A.length →
  Q2.l0 xs out (A.length:Int)=some ((B.filter p).foldl (fun o x=>ins lessP x o) out)
 | [],A,out,hx,hp,hk,ho,hu,hlen=>by
  rw [hx,Q2.l0.eq_def,not_lt_end,if_neg Bool.false_ne_true];rfl
 | b::B,A,out,hx,hp,hk,ho,hu,hlen=>by
  have hxl:A.length<xs.length:=by rw [hx];simp
  have hin:(0:Int)≤(A.length:Int)∧(A.length:Int)<(xs.length:Int):=by omega
  have hg:lget xs (A.length:Int)=b:=by rw [hx];exact Qcg A b B
  have hwi:wr .i64 ((A.length:Int)+1)=((A++[b]).length:Int):=Qes A b (by omega)
  have hpB:=fun x hx=>hp x (List.mem_cons_of_mem b hx)
  have hkB:=fun x hx=>hk x (List.mem_cons_of_mem b hx)
  have hxB:xs=(A++[b])++B:=by rw [hx];simp
  have hAl:(A++[b]).length=A.length+1:=by simp
  rw [Q2.l0.eq_def,decide_eq_true hin.2,if_pos rfl,if_pos hin,hg,hp b (List.mem_cons_self ..),Qf]
  cases h:p b with
  | false =>
   rw [if_pos (by decide),hwi,List.filter_cons_of_neg (by rw [h];decide)]
   exact Qgp p xs hn B (A++[b]) out hxB hpB hkB ho hu (by omega)
  | true =>
   have hb:=hk b (List.mem_cons_self ..) h
   obtain ⟨A',B',e1,e2,e3⟩:=pos_loop xs A.length b hin hg hb.ok out (fun y hy=>⟨(ho y hy).ok,hb.less (ho y hy)⟩) hu (by omega) out [] (by simp) (fun y hy=>(by cases hy))
   have hl1:A'.length≤out.length:=by rw [e1];simp
   have hs1:lsub out 0 (A'.length:Int)=A':=by
    unfold lsub
    rw [Int.toNat_natCast,Int.toNat_zero,List.drop_zero,e1,List.take_left]
   have hs2:lsub out (A'.length:Int) (out.length:Int)=B':=by
    unfold lsub
    rw [Int.toNat_natCast,Int.toNat_natCast,List.take_length,e1,List.drop_left]
   have hBl:A'.length+B'.length=out.length:=by rw [e1];simp
   rw [if_neg (by decide),e2,Qf,if_pos ⟨Int.le_refl _,by omega,by omega⟩,hs1,if_pos (by simp;omega),if_pos hin,if_pos (by simp;omega),if_pos ⟨by omega,by omega,Int.le_refl _⟩,hs2,if_pos (by simp;omega),hwi]
   have e4:([]:List Qc)++A'++[b]++B'=ins lessP b out:=by rw [e3];simp
   rw [e4,List.filter_cons_of_pos h,List.foldl_cons]
   refine Qgp p xs hn B (A++[b]) (ins lessP b out) hxB hpB hkB (fun y hy=>?_) (ins_up Qd8 hb.ok (fun y hy=>(ho y hy).ok) hu) ?_
   ·rcases ins_mem hy with rfl | hy
    ·exact hb
    ·exact ho y hy
   ·have:=(QdU lessP b out).length_eq
    rw [List.length_cons] at this;omega
theorem sorted_ref(p:Qc→Bool)(xs:List Qc)(hn:xs.length≤100000)(hp:∀ x∈xs,Qad x=some (p x))(hk:∀ x∈xs,p x=true→IsPf x):Q2 xs=some (isort lessP (xs.filter p)):=by
 unfold Q2 isort
 have:=Qgp p xs hn xs [] [] rfl hp hk (fun y hy=>(by cases hy)) List.Pairwise.nil (Nat.le_refl _)
 show (Q2.l0 xs [] (([]:List Qc).length:Int)>>=_)=_
 rw [this];rfl
theorem sorted_code(p:Qc→Bool)(xs:List Qc)(hn:xs.length≤100000)(hp:∀ x∈xs,QbM x=some (p x))(hk:∀ x∈xs,p x=true→IsPf x) :
  (QbJ xs>>=fun t1=>Qy t1>>=fun t4=>Qc4 t4)=some (isort lessP (xs.filter p)):=by
 unfold QbJ
 rw [if_pos (by omega),Qf,del_code p xs (fun x hx=>by unfold Qbl;rw [hp x hx];rfl) (by omega),Qf]
 unfold Qc4
 have hl:(xs.filter p).length≤xs.length:=List.length_filter_le ..
 have hall:((xs.filter p).all fun x=>okb x.f_A.f_B)=true:=List.all_eq_true.2 fun x hx=>by
  obtain ⟨h1,h2⟩:=List.mem_filter.1 hx
  exact (hk x h1 h2).ok
 rw [if_pos ⟨hall,by omega⟩]
end Go.Proofs.YtahlbjmafceoeaaGreatDoor.Agg
namespace Go.Proofs.YtahlbjmafceoeaaGreatDoor.Agg
open E Go.RowKit Adr Cid
theorem allPf{l:List Qc}(h:∀ x∈l,IsPf x):∃ T:List (Int×Nat×Nat),(∀ t∈T,Good t)∧l=T.map pf:=by
 induction l with
 | nil=>exact ⟨[],fun t h=>(by cases h),rfl⟩
 | cons y ys ih =>
  obtain ⟨t,h1,h2⟩:=h y (List.mem_cons_self ..)
  obtain ⟨T,h3,h4⟩:=ih fun x hx=>h x (List.mem_cons_of_mem _ hx)
  refine ⟨t::T,fun u hu=>?_,by rw [List.map_cons,←h2,←h4]⟩
  rcases List.mem_cons.1 hu with rfl | hu
  ·exact h1
  ·exact h3 u hu
abbrev Rg:=Int×Nat×Nat
structure GoodR (r:Rg):Prop where
 fam:fam r.1
 le:r.2.1≤r.2.2
 lt:r.2.2<2 ^ wd r.1
def toR(r:Rg):QF:=rng r.1 r.2.1 r.2.2
def toV(r:Rg):Vector Qh 2:=vset (vset (Vector.replicate 2 zA:Vector Qh 2) 0 (adr r.1 r.2.1)) 1 (adr r.1 r.2.2)
theorem toV0(r:Rg):vget (toV r) 0=adr r.1 r.2.1:=rfl
theorem toV1(r:Rg):vget (toV r) 1=adr r.1 r.2.2:=rfl
theorem vset_toV(r:Rg)(m:Nat):vset (toV r) 1 (adr r.1 m)=toV (r.1,r.2.1,m):=by
 apply Vector.toList_inj.1
 unfold toV
 simp [Qdq]
def endT(t:Int×Nat×Nat):Nat:=t.2.1+2 ^ t.2.2-1
theorem Good.end_lt{t:Int×Nat×Nat}(h:Good t):endT t<2 ^ wd t.1:=by
 obtain ⟨V,N,k⟩:=t
 obtain ⟨hf,hN,hk,hd⟩:=h
 simp only at hf hN hk hd
 unfold endT
 simp only
 obtain ⟨m,rfl⟩:=hd
 have hp:0<2 ^ k:=Nat.pow_pos (by omega)
 have e:2 ^ wd V=2 ^ k*2 ^ (wd V-k):=by rw [←Nat.pow_add];congr 1;omega
 rw [e] at hN ⊢
 have h1:=Nat.lt_of_mul_lt_mul_left hN
 have h3:2 ^ k*(m+1)≤2 ^ k*2 ^ (wd V-k):=Nat.mul_le_mul_left _ h1
 rw [Nat.mul_add,Nat.mul_one] at h3
 omega
theorem le_endT(t:Int×Nat×Nat):t.2.1≤endT t:=by
 have hp:0<2 ^ t.2.2:=Nat.pow_pos (by omega)
 unfold endT;omega
def stepR:List Rg→Int×Nat×Nat→List Rg
 | [],t=>[(t.1,t.2.1,endT t)]
 | r::rest,t=>if r.1=t.1∧t.2.1≤r.2.2+1 then (r.1,r.2.1,max r.2.2 (endT t))::rest else (t.1,t.2.1,endT t)::r::rest
theorem QfT(r:Rg)(rest:List Rg)(t:Int×Nat×Nat):stepR (r::rest) t=if r.1=t.1∧t.2.1≤r.2.2+1 then (r.1,r.2.1,max r.2.2 (endT t))::rest else (t.1,t.2.1,endT t)::r::rest:=rfl
theorem stepR_good{rv:List Rg}{t:Int×Nat×Nat}(h:∀ r∈rv,GoodR r)(ht:Good t):∀ r∈stepR rv t,GoodR r:=by
 have hn:GoodR (t.1,t.2.1,endT t):=⟨ht.fam,le_endT t,ht.end_lt⟩
 cases rv with
 | nil=>intro r hr;rw [List.mem_singleton.1 hr];exact hn
 | cons r rest =>
  intro x hx
  rw [QfT] at hx
  have hr:=h r (List.mem_cons_self ..)
  split at hx
  ·next hc =>
   rcases List.mem_cons.1 hx with rfl | hx
   ·refine ⟨hr.fam,Nat.le_trans hr.le (Nat.le_max_left ..),Nat.max_lt.2 ⟨hr.lt,?_⟩⟩
    show endT t<2 ^ wd r.1
    rw [hc.1];exact ht.end_lt
   ·exact h x (List.mem_cons_of_mem _ hx)
  ·rcases List.mem_cons.1 hx with rfl | hx
   ·exact hn
   ·exact h x hx
theorem stepR_len(rv:List Rg)(t:Int×Nat×Nat):(stepR rv t).length≤rv.length+1:=by
 cases rv with
 | nil=>simp [stepR]
 | cons r rest=>rw [QfT];split<;>simp
theorem last_pf{t:Int×Nat×Nat}(h:Good t):QaO (pf t)=some (adr t.1 (endT t))∧QM (pf t)=some (adr t.1 (endT t)):=⟨last_prf h.fam h.le h.dvd,QeM h.fam h.le h.dvd⟩
theorem nx_pair{V:Int}{N:Nat}:(nx V N).2=decide (N+1<2 ^ wd V)∧(N+1<2 ^ wd V→(nx V N).1=adr V (N+1)):=by
 unfold nx
 split
 ·next h=>exact ⟨(decide_eq_true h).symm,fun _=>rfl⟩
 ·next h=>exact ⟨(decide_eq_false h).symm,fun h'=>absurd h' h⟩
theorem joins_code{r:Rg}{t:Int×Nat×Nat}(hr:GoodR r)(ht:Good t):QcS (toR r) (pf t)=some (decide (r.1=t.1∧t.2.1≤r.2.2+1)):=by
 unfold QcS
 show (if (r.1 != t.1)=true then some false else (Qbc (adr r.1 r.2.2)>>=fun t4=>if (!t4.2)=true then (some true) else (Qct t4.1 (adr t.1 t.2.1)>>=fun t7=>some (!t7))))=_
 by_cases h:r.1=t.1
 ·have:(r.1 != t.1)=false:=by simpa using h
  rw [this,if_neg Bool.false_ne_true,(next_adr hr.fam hr.lt).1,Qf,nx_pair.1]
  have htl:=ht.lt
  by_cases hl:r.2.2+1<2 ^ wd r.1
  ·rw [decide_eq_true hl,if_neg (by decide),nx_pair.2 hl,(Qdl hl ht.lt).1,Qf]
   unfold ltA
   rw [if_pos h]
   congr 1
   rw [Bool.eq_iff_iff];simp [h]
  ·rw [decide_eq_false hl,if_pos (by decide)]
   rw [←h] at htl
   congr 1
   exact (decide_eq_true ⟨h,by omega⟩).symm
 ·have:(r.1 != t.1)=true:=by simpa using h
  rw [this,if_pos rfl,decide_eq_false (fun e=>h e.1)]
theorem pf_A(t:Int×Nat×Nat):(pf t).f_A=adr t.1 t.2.1:=rfl
theorem rng_lit(V:Int)(N M:Nat):({ { ({ f_From:=({ f_V:=(0:Int),f_B:=(Vector.replicate 16 (0:Int):(Vector Int 16)) }:Qh),f_To:=({ f_V:=(0:Int),f_B:=(Vector.replicate 16 (0:Int):(Vector Int 16)) }:Qh) }:QF) with f_From:=adr V N } with f_To:=adr V M }:QF)=rng V N M:=rfl
theorem toR_To(r:Rg):(toR r).f_To=adr r.1 r.2.2:=rfl
theorem ranges_loop(S:List (Int×Nat×Nat))(hS:S.length≤100000):∀ (B A:List (Int×Nat×Nat)) (rv:List Rg),S=A++B→(∀ t∈B,Good t)→(∀ r∈rv,GoodR r)→rv.length≤A.length →
  Qak.l0 (S.map pf) (rv.reverse.map toR) (A.length:Int)=some ((B.foldl stepR rv).reverse.map toR)∧QZ.l0 (S.map pf) (rv.reverse.map toV) (A.length:Int)=some ((B.foldl stepR rv).reverse.map toV)
 | [],A,rv,hx,hb,hr,hl=>by
  have hd:decide ((A.length:Int)<((S.map pf).length:Int))=false:=decide_eq_false (by rw [hx];simp)
  rw [Qak.l0.eq_def,QZ.l0.eq_def,hd,if_neg Bool.false_ne_true,if_neg Bool.false_ne_true];exact ⟨rfl,rfl⟩
 | t::B,A,rv,hx,hb,hr,hl=>by
  have ht:=hb t (List.mem_cons_self ..)
  have hSl:S.length=A.length+(B.length+1):=by rw [hx];simp
  have hin:(0:Int)≤(A.length:Int)∧(A.length:Int)<((S.map pf).length:Int):=by rw [List.length_map];omega
  have hg:lget (S.map pf) (A.length:Int)=pf t:=by
   rw [hx,List.map_append,List.map_cons]
   have:=Qcg (A.map pf) (pf t) (B.map pf)
   rwa [List.length_map] at this
  have hwi:wr .i64 ((A.length:Int)+1)=((A++[t]).length:Int):=Qes A t (by omega)
  have hxB:S=(A++[t])++B:=by rw [hx];simp
  have hAl:(A++[t]).length=A.length+1:=by simp
  obtain ⟨la,lr⟩:=last_pf ht
  obtain ⟨i1,i2⟩:=ranges_loop S hS B (A++[t]) (stepR rv t) hxB (fun u hu=>hb u (List.mem_cons_of_mem _ hu)) (stepR_good hr ht) (by have:=stepR_len rv t;omega)
  rw [List.foldl_cons,←i1,←i2]
  rw [Qak.l0.eq_def,QZ.l0.eq_def,decide_eq_true hin.2,if_pos rfl,if_pos rfl,if_pos hin,hg,hwi]
  have hV2:∀ (V:Int) (N M:Nat),vset (vset (Vector.replicate 2 ({ f_V:=(0:Int),f_B:=(Vector.replicate 16 (0:Int):(Vector Int 16)) }:Qh):(Vector Qh 2)) 0 (adr V N)) 1 (adr V M)=toV (V,N,M):=fun _ _ _=>rfl
  cases rv with
  | nil =>
   have h0:((([]:List Rg).reverse.map toR).length:Int)=0:=rfl
   have h0':((([]:List Rg).reverse.map toV).length:Int)=0:=rfl
   rw [h0,h0',if_pos (by rfl),if_neg (by decide),if_pos hin,if_pos hin,la,lr,Qf,Qf,if_pos (by decide),if_pos (by decide),pf_A,rng_lit,hV2]
   exact ⟨rfl,rfl⟩
  | cons r rest =>
   have hrg:=hr r (List.mem_cons_self ..)
   have e1:(r::rest).reverse.map toR=rest.reverse.map toR++[toR r]:=by simp
   have e2:(r::rest).reverse.map toV=rest.reverse.map toV++[toV r]:=by simp
   have hL:(rest.reverse.map toR).length=rest.length:=by simp
   have hL2:(rest.reverse.map toV).length=rest.length:=by simp
   have hrl:rest.length+1≤A.length:=by simpa using hl
   have l1:((rest.reverse.map toR++[toR r]).length:Int)=((rest.length+1:Nat):Int):=by simp
   have l2:((rest.reverse.map toV++[toV r]).length:Int)=((rest.length+1:Nat):Int):=by simp
   have hw:wr .i64 (((rest.length+1:Nat):Int)-1)=(rest.length:Int):=by rw [Qam (by omega) (by omega)];omega
   have hi:(0:Int)≤(rest.length:Int)∧(rest.length:Int)<((rest.length+1:Nat):Int):=by omega
   have g1:lget (rest.reverse.map toR++[toR r]) (rest.length:Int)=toR r:=by rw [←hL];exact Qcg _ _ []
   have g2:lget (rest.reverse.map toV++[toV r]) (rest.length:Int)=toV r:=by rw [←hL2];exact Qcg _ _ []
   have s1:∀ y,lset (rest.reverse.map toR++[toR r]) (rest.length:Int) y=rest.reverse.map toR++[y]:=fun y=>by rw [←hL];simp [lset]
   have s2:∀ y,lset (rest.reverse.map toV++[toV r]) (rest.length:Int) y=rest.reverse.map toV++[y]:=fun y=>by rw [←hL2];simp [lset]
   have hz:(((rest.length+1:Nat):Int)==0)=false:=by rw [beq_eq_false_iff_ne];omega
   have hz2:decide (((rest.length+1:Nat):Int)>0)=true:=decide_eq_true (by omega)
   have hn1:(rest.reverse.map toR++[toR r]).length+1≤100001:=by simp;omega
   have hn2:(rest.reverse.map toV++[toV r]).length+1≤100001:=by simp;omega
   have hV:(adr r.1 r.2.1).f_V=r.1:=rfl
   have hV3:(adr t.1 t.2.1).f_V=t.1:=rfl
   have hnew1:∀ (V:Int) (N M:Nat),(rest.reverse.map toR++[toR r])++[rng V N M]=((V,N,M)::r::rest).reverse.map toR:=fun V N M=>by simp [toR]
   have hnew2:∀ (V:Int) (N M:Nat),(rest.reverse.map toV++[toV r])++[toV (V,N,M)]=((V,N,M)::r::rest).reverse.map toV:=fun V N M=>by simp
   obtain ⟨n1,n2⟩:=next_adr hrg.fam hrg.lt
   rw [e1,e2,l1,l2,hz,if_neg Bool.false_ne_true,hw,if_pos hi,g1,joins_code hrg ht,Qf,hz2,if_pos rfl,if_pos hi,g2,toV1,n2,Qf,if_pos hi,if_pos hin,toV0,hV,pf_A,hV3]
   by_cases hj:r.1=t.1∧t.2.1≤r.2.2+1
   ·have hq:(r.1==t.1)=true:=by simpa using hj.1
    have hend:endT t<2 ^ wd r.1:=by rw [hj.1];exact ht.end_lt
    have hle1:=(Qdl hrg.lt (W:=t.1) ht.end_lt)
    have hlt:ltA r.1 r.2.2 t.1 (endT t)=decide (r.2.2<endT t):=by unfold ltA;rw [if_pos hj.1]
    have hst:stepR (r::rest) t=(r.1,r.2.1,max r.2.2 (endT t))::rest:=by rw [QfT,if_pos hj]
    have hadr:adr t.1 (endT t)=adr r.1 (endT t):=by rw [hj.1]
    rw [decide_eq_true hj,if_neg (by decide),la,Qf,if_pos hi,toR_To,hle1.1,Qf,hlt,hq,if_pos rfl,nx_pair.1,hst]
    have hfin1:(if decide (r.2.2<endT t)=true then (if (0:Int)≤(rest.length:Int)∧(rest.length:Int)<((rest.length+1:Nat):Int) then Qak.l0 (S.map pf) (lset (rest.reverse.map toR++[toR r]) (rest.length:Int) { toR r with f_To:=adr t.1 (endT t) }) ((A++[t]).length:Int) else none) else Qak.l0 (S.map pf) (rest.reverse.map toR++[toR r]) ((A++[t]).length:Int))=Qak.l0 (S.map pf) (((r.1,r.2.1,max r.2.2 (endT t))::rest).reverse.map toR) ((A++[t]).length:Int):=by
     by_cases hc:r.2.2<endT t
     ·rw [decide_eq_true hc,if_pos rfl,if_pos hi,s1,hadr,Nat.max_eq_right (by omega)]
      congr 1
      simp [toR,rng]
     ·rw [decide_eq_false hc,if_neg Bool.false_ne_true,Nat.max_eq_left (by omega)]
      congr 1
      simp
    have hfin2:(if decide (r.2.2<endT t)=true then (if (0:Int)≤(A.length:Int)∧(A.length:Int)<((S.map pf).length:Int) then QM (pf t)>>=fun t50=>if (0:Int)≤(rest.length:Int)∧(rest.length:Int)<((rest.length+1:Nat):Int) then QZ.l0 (S.map pf) (lset (rest.reverse.map toV++[toV r]) (rest.length:Int) (vset (toV r) 1 t50)) ((A++[t]).length:Int) else none else none) else QZ.l0 (S.map pf) (rest.reverse.map toV++[toV r]) ((A++[t]).length:Int))=QZ.l0 (S.map pf) (((r.1,r.2.1,max r.2.2 (endT t))::rest).reverse.map toV) ((A++[t]).length:Int):=by
     by_cases hc:r.2.2<endT t
     ·rw [decide_eq_true hc,if_pos rfl,if_pos hin,lr,Qf,if_pos hi,hadr,vset_toV,s2,Nat.max_eq_right (by omega)]
      congr 1
      simp
     ·rw [decide_eq_false hc,if_neg Bool.false_ne_true,Nat.max_eq_left (by omega)]
      congr 1
      simp
    refine ⟨hfin1,?_⟩
    by_cases hl:r.2.2+1<2 ^ wd r.1
    ·have htl:=ht.lt
     rw [decide_eq_true hl,if_neg (by decide),if_pos hin,nx_pair.2 hl,(Qdl hl ht.lt).2,Qf]
     have:ltA r.1 (r.2.2+1) t.1 t.2.1=false:=by unfold ltA;rw [if_pos hj.1,decide_eq_false (by omega)]
     rw [this,if_pos (by decide),if_pos hi,if_pos hin,lr,Qf,hle1.2,Qf,hlt]
     rw [lr] at hfin2;exact hfin2
    ·rw [decide_eq_false hl,if_pos (by decide),if_pos hi,if_pos hin,lr,Qf,hle1.2,Qf,hlt]
     rw [lr] at hfin2;exact hfin2
   ·have hst:stepR (r::rest) t=(t.1,t.2.1,endT t)::r::rest:=by rw [QfT,if_neg hj]
    rw [decide_eq_false hj,if_pos (by decide),la,Qf,if_pos (by omega),rng_lit,hnew1,hst]
    refine ⟨rfl,?_⟩
    by_cases hq:r.1=t.1
    ·have hq':(r.1==t.1)=true:=by simpa using hq
     have htl:=ht.lt
     have hl:r.2.2+1<2 ^ wd r.1:=by
      rw [hq]
      have:¬ t.2.1≤r.2.2+1:=fun h=>hj ⟨hq,h⟩
      omega
     rw [hq',if_pos rfl,nx_pair.1,decide_eq_true hl,if_neg (by decide),if_pos hin,nx_pair.2 hl,(Qdl hl ht.lt).2,Qf]
     have:ltA r.1 (r.2.2+1) t.1 t.2.1=true:=by unfold ltA;rw [if_pos hq];exact decide_eq_true (by have:¬ t.2.1≤r.2.2+1:=fun h=>hj ⟨hq,h⟩;omega)
     rw [this,if_neg (by decide),if_pos hin,if_pos hin,lr,Qf,if_pos (by omega),hV2,hnew2]
    ·have hq':(r.1==t.1)=false:=by simpa using hq
     rw [hq',if_neg Bool.false_ne_true,if_pos hin,if_pos hin,lr,Qf,if_pos (by omega),hV2,hnew2]
noncomputable def pcs(r:Rg):List (Nat×Nat):=if h:r.2.2<2 ^ wd r.1∧r.2.1≤r.2.2 then Classical.choose (cov_ex (w:=wd r.1) h.1 h.2) else []
theorem pcs_cov{r:Rg}(h:GoodR r):Cov (wd r.1) r.2.2 r.2.1 (pcs r)∧(pcs r).length≤257:=by
 have hw:=wd_le r.1
 unfold pcs
 rw [dif_pos ⟨h.lt,h.le⟩]
 have:=Classical.choose_spec (cov_ex (w:=wd r.1) h.lt h.le)
 exact ⟨this.1,by omega⟩
theorem pcs_code{r:Rg}(h:GoodR r):QaR (toR r)=some (toP r.1 (pcs r))∧Q0 (adr r.1 r.2.1) (adr r.1 r.2.2)=some (toP r.1 (pcs r)):=by
 obtain ⟨L,h1,_,h3,h4⟩:=prefixes_code h.fam h.lt h.le
 rw [h1.uniq (pcs_cov h).1] at h3 h4
 exact ⟨h3,h4⟩
noncomputable def covR(rs:List Rg):List Qc:=rs.flatMap fun r=>toP r.1 (pcs r)
theorem covR_len:∀ {rs:List Rg},(∀ r∈rs,GoodR r)→(covR rs).length≤257*rs.length
 | [],_=>by simp [covR]
 | r::rs,h=>by
  have h1:=(pcs_cov (h r (List.mem_cons_self ..))).2
  have h2:=covR_len (rs:=rs) fun x hx=>h x (List.mem_cons_of_mem _ hx)
  unfold covR at h2 ⊢
  have h3:(toP r.1 (pcs r)).length=(pcs r).length:=by unfold toP;rw [List.length_map]
  rw [List.flatMap_cons,List.length_append,List.length_cons,h3]
  omega
theorem cover_loop(rs:List Rg)(hS:rs.length≤10000)(hr:∀ r∈rs,GoodR r):∀ (B A:List Rg),rs=A++B →
  QaW.l0 (rs.map toR) (covR A) (A.length:Int)=some (covR rs)∧QaA.l0 (rs.map toV) (covR A) (A.length:Int)=some (covR rs)
 | [],A,hx=>by
  have hd:decide ((A.length:Int)<((rs.map toR).length:Int))=false:=decide_eq_false (by rw [hx];simp)
  have hd2:decide ((A.length:Int)<((rs.map toV).length:Int))=false:=decide_eq_false (by rw [hx];simp)
  rw [QaW.l0.eq_def,QaA.l0.eq_def,hd,hd2,if_neg Bool.false_ne_true,if_neg Bool.false_ne_true]
  rw [List.append_nil] at hx
  rw [hx];exact ⟨rfl,rfl⟩
 | r::B,A,hx=>by
  have hrg:=hr r (by rw [hx];simp)
  have hSl:rs.length=A.length+(B.length+1):=by rw [hx];simp
  have hin:(0:Int)≤(A.length:Int)∧(A.length:Int)<((rs.map toR).length:Int):=by rw [List.length_map];omega
  have hin2:(0:Int)≤(A.length:Int)∧(A.length:Int)<((rs.map toV).length:Int):=by rw [List.length_map];omega
  have hg:lget (rs.map toR) (A.length:Int)=toR r:=by
   rw [hx,List.map_append,List.map_cons]
   have:=Qcg (A.map toR) (toR r) (B.map toR)
   rwa [List.length_map] at this
  have hg2:lget (rs.map toV) (A.length:Int)=toV r:=by
   rw [hx,List.map_append,List.map_cons]
   have:=Qcg (A.map toV) (toV r) (B.map toV)
   rwa [List.length_map] at this
  have hwi:wr .i64 ((A.length:Int)+1)=((A++[r]).length:Int):=Qes A r (by omega)
  obtain ⟨c1,c2⟩:=pcs_code hrg
  have hA:=covR_len (rs:=A) fun x h=>hr x (by rw [hx];simp [h])
  have hp:(toP r.1 (pcs r)).length≤257:=by unfold toP;rw [List.length_map];exact (pcs_cov hrg).2
  have hc:covR A++toP r.1 (pcs r)=covR (A++[r]):=by unfold covR;rw [List.flatMap_append];simp
  obtain ⟨i1,i2⟩:=cover_loop rs hS hr B (A++[r]) (by rw [hx];simp)
  rw [QaW.l0.eq_def,QaA.l0.eq_def,decide_eq_true hin.2,decide_eq_true hin2.2,if_pos rfl,if_pos rfl,if_pos hin,if_pos hin2,if_pos hin2,hg,hg2,toV0,toV1,c1,c2,Qf,Qf,if_pos (by omega),if_pos (by omega),hc,hwi]
  exact ⟨i1,i2⟩
structure Res (xs:List Qc) (S:List (Int×Nat×Nat)):Prop where
 good:∀ t∈S,Good t
 up:Up lessP (S.map pf)
 len:S.length≤xs.length
 mem:∀ x,x∈S.map pf↔x∈xs∧Qad x=some true
 perm:(∀ x∈xs,Qad x=some true)→(S.map pf).Perm xs
 srt:Q2 xs=some (S.map pf)
 rs:Qak xs=some ((S.foldl stepR []).reverse.map toR)
 rr:QZ xs=some ((S.foldl stepR []).reverse.map toV)
 cs:QaW xs=some (covR (S.foldl stepR []).reverse)
 cr:QaA xs=some (covR (S.foldl stepR []).reverse)
theorem fold_good:∀ (S:List (Int×Nat×Nat)) (rv:List Rg),(∀ t∈S,Good t)→(∀ r∈rv,GoodR r)→(∀ r∈S.foldl stepR rv,GoodR r)∧(S.foldl stepR rv).length≤rv.length+S.length
 | [],rv,_,hr=>⟨hr,by simp⟩
 | t::S,rv,hs,hr=>by
  obtain ⟨h1,h2⟩:=fold_good S (stepR rv t) (fun u hu=>hs u (List.mem_cons_of_mem _ hu)) (stepR_good hr (hs t (List.mem_cons_self ..)))
  have:=stepR_len rv t
  rw [List.foldl_cons]
  exact ⟨h1,by simp;omega⟩
theorem res_of(xs:List Qc)(hx:∀ x∈xs,Qah x)(hn:xs.length≤10000):∃ S,Res xs S:=by
 obtain ⟨p,hp,T,hT,hfT⟩:=right_rows xs hx
 have hk:∀ x∈xs,p x=true→IsPf x:=fun x h1 h2=>by
  have:x∈T.map pf:=hfT▸List.mem_filter.2 ⟨h1,h2⟩
  obtain ⟨t,ht,rfl⟩:=List.mem_map.1 this
  exact ⟨t,hT t ht,rfl⟩
 have hmem:∀ x,x∈isort lessP (xs.filter p)↔x∈xs∧p x=true:=fun x=>by rw [(Qdu _ _).mem_iff,List.mem_filter]
 obtain ⟨S,hS,hSe⟩:=allPf (l:=isort lessP (xs.filter p)) fun x h=>hk x ((hmem x).1 h).1 ((hmem x).1 h).2
 have hup:Up lessP (S.map pf):=by
  rw [←hSe]
  exact isort_up Qd8 _ fun y hy=>by
   obtain ⟨h1,h2⟩:=List.mem_filter.1 hy
   exact (hk y h1 h2).ok
 have hl:S.length≤xs.length:=by
  have h1:=congrArg List.length hSe
  rw [Qdz,List.length_map] at h1
  rw [←h1];exact List.length_filter_le ..
 have hsr:=sorted_ref p xs (by omega) (fun x h=>(hp x h).2) hk
 have hsc:=sorted_code p xs (by omega) (fun x h=>(hp x h).1) hk
 rw [hSe] at hsr hsc
 obtain ⟨r1,r2⟩:=ranges_loop S (by omega) S [] [] rfl hS (fun r h=>(by cases h)) (Nat.le_refl _)
 have hR:Qak xs=some ((S.foldl stepR []).reverse.map toR):=by
  unfold Qak
  obtain ⟨a,ha,h1⟩:=of_bindM hsc
  obtain ⟨b,hb,h2⟩:=of_bindM h1
  rw [ha,Qf,hb,Qf,h2,Qf]
  show (Qak.l0 (S.map pf) (([]:List Rg).reverse.map toR) (([]:List (Int×Nat×Nat)).length:Int)>>=_)=_
  rw [r1];rfl
 have hR2:QZ xs=some ((S.foldl stepR []).reverse.map toV):=by
  unfold QZ
  rw [hsr,Qf]
  show (QZ.l0 (S.map pf) (([]:List Rg).reverse.map toV) (([]:List (Int×Nat×Nat)).length:Int)>>=_)=_
  rw [r2];rfl
 obtain ⟨g1,g2⟩:=fold_good S [] hS fun r h=>(by cases h)
 have g3:(S.foldl stepR []).reverse.length≤10000:=by rw [List.length_reverse];simp at g2;omega
 obtain ⟨c1,c2⟩:=cover_loop (S.foldl stepR []).reverse g3 (fun r h=>g1 r (List.mem_reverse.1 h)) (S.foldl stepR []).reverse [] rfl
 refine ⟨S,hS,hup,hl,fun x=>?_,fun h=>?_,hsr,hR,hR2,?_,?_⟩
 ·rw [←hSe,hmem]
  constructor
  ·rintro ⟨h1,h2⟩;exact ⟨h1,by rw [(hp x h1).2,h2]⟩
  ·rintro ⟨h1,h2⟩;exact ⟨h1,by rw [(hp x h1).2] at h2;exact Option.some.inj h2⟩
 ·rw [←hSe]
  refine (Qdu _ _).trans ?_
  rw [List.filter_eq_self.2 fun x hx=>Option.some.inj ((hp x hx).2.symm.trans (h x hx))]
 ·unfold QaW
  rw [hR,Qf]
  show (QaW.l0 _ (covR []) (([]:List Rg).length:Int)>>=_)=_
  rw [c1];rfl
 ·unfold QaA
  rw [hR2,Qf]
  show (QaA.l0 _ (covR []) (([]:List Rg).length:Int)>>=_)=_
  rw [c2];rfl
end Go.Proofs.YtahlbjmafceoeaaGreatDoor.Agg
namespace Go.Proofs.YtahlbjmafceoeaaGreatDoor.Agg
open E Go.RowKit Adr Cid
theorem pf_inj{t u:Int×Nat×Nat}(ht:Good t)(hu:Good u)(h:pf t=pf u):t=u:=by
 obtain ⟨V,N,k⟩:=t
 obtain ⟨W,M,j⟩:=u
 have h1:adr V N=adr W M:=congrArg Qc.f_A h
 have h2:((wd V-k:Nat):Int)=((wd W-j:Nat):Int):=congrArg Qc.f_Bits h
 obtain ⟨rfl,rfl⟩:=(adr_inj ht.lt hu.lt).1 h1
 have h3:k≤wd V:=ht.le
 have h4:j≤wd V:=hu.le
 simp only at h2
 have:k=j:=by omega
 rw [this]
theorem ok_pf{t:Int×Nat×Nat}(h:Good t):Qah (pf t):=by
 obtain ⟨V,N,k⟩:=t
 have hw:=wd_le V
 refine ⟨⟨?_,?_⟩,?_⟩
 ·rcases h.fam with e | e
  ·show (Lit.int .i64 V).wf=true
   have e:V=4:=e
   rw [e];rfl
  ·show (Lit.int .i64 V).wf=true
   have e:V=6:=e
   rw [e];rfl
 ·intro x hx
  have hx:x∈(vb (bt V N)).toList:=hx
  rw [QcJ (QbL V N)] at hx
  obtain ⟨b,_,rfl⟩:=List.mem_map.1 hx
  have:=b.toNat_lt
  simp [Lit.wf,IntKind.min,IntKind.max,IntKind.signed,IntKind.bits]
  omega
 ·show (Lit.int .i64 ((wd V-k:Nat):Int)).wf=true
  simp [Lit.wf,IntKind.min,IntKind.max,IntKind.signed,IntKind.bits]
  omega
end Go.Proofs.YtahlbjmafceoeaaGreatDoor.Agg
namespace Go.Proofs.YtahlbjmafceoeaaGreatDoor.Agg
open E Go.RowKit Adr Cid
def LeT(t u:Int×Nat×Nat):Prop:=t.1≤u.1∧(t.1=u.1→t.2.1≤u.2.1)
theorem leT_of{t u:Int×Nat×Nat}(ht:Good t)(hu:Good u)(h:lessP (pf u) (pf t)=false):LeT t u:=by
 unfold pf at h
 rw [lessP_prf hu.lt ht.lt] at h
 by_cases e:u.1=t.1∧u.2.1=t.2.1
 ·exact ⟨by omega,fun _=>by omega⟩
 ·rw [if_neg e] at h
  unfold ltA at h
  by_cases e1:u.1=t.1
  ·rw [if_pos e1] at h
   have:=of_decide_eq_false h
   exact ⟨by omega,fun _=>by omega⟩
  ·rw [if_neg e1] at h
   have:=of_decide_eq_false h
   exact ⟨by omega,fun e2=>by omega⟩
def sp(r q:Rg):Prop:=r.1<q.1∨(r.1=q.1∧r.2.2+1<q.2.1)
theorem lessP_anti{t u:Int×Nat×Nat}(ht:Good t)(hu:Good u)(h1:lessP (pf t) (pf u)=false)(h2:lessP (pf u) (pf t)=false):t=u:=by
 have a:=leT_of ht hu h2
 have b:=leT_of hu ht h1
 unfold LeT at a b
 obtain ⟨V,N,k⟩:=t
 obtain ⟨W,M,j⟩:=u
 simp only at a b
 have e1:V=W:=by omega
 subst e1
 have e2:N=M:=by omega
 subst e2
 unfold pf at h1 h2
 rw [lessP_prf ht.lt hu.lt,if_pos ⟨rfl,rfl⟩] at h1
 rw [lessP_prf hu.lt ht.lt,if_pos ⟨rfl,rfl⟩] at h2
 have h3:=of_decide_eq_false h1
 have h4:=of_decide_eq_false h2
 have h5:k≤wd V:=ht.le
 have h6:j≤wd V:=hu.le
 simp only at h3 h4
 have:k=j:=by omega
 rw [this]
theorem has_pf{t:Int×Nat×Nat}(h:Good t){W:Int}(hW:fam W)(x:Nat)(hx:x<2 ^ wd W):Qbq (pf t) (adr W x)=some (decide (W=t.1∧t.2.1≤x∧x≤endT t)):=by
 obtain ⟨V,N,k⟩:=t
 have hr:=(prf_right h.fam h.le h.dvd).2
 unfold pf prf adr at hr ⊢
 rw [Qd2 (QbL _ _)] at hr
 rw [has_ref (QbL _ _) (QbL _ _)]
 unfold hasP
 rw [Option.some.inj hr,Qe2 hW,Bool.true_and,Bool.true_and]
 simp only
 congr 1
 by_cases e:W=V
 ·subst e
  have hk:k≤wd W:=h.le
  have hN:N<2 ^ wd W:=h.lt
  have hd:2 ^ k ∣ N:=h.dvd
  have hp:0<2 ^ k:=Nat.pow_pos (by omega)
  rw [mfull_bt (by omega),show wd W-(wd W-k)=k by omega,decide_eq_true rfl,Bool.true_and,decide_eq_decide]
  have hlt:x/2 ^ k*2 ^ k<2 ^ wd W:=Nat.lt_of_le_of_lt (Nat.div_mul_le_self _ _) hx
  have hdm:=Nat.div_add_mod x (2 ^ k)
  have hm:=Nat.mod_lt x hp
  rw [Nat.mul_comm] at hdm
  unfold endT
  simp only
  constructor
  ·intro e
   have e2:=bt_inj hlt hN e
   exact ⟨trivial,by omega,by omega⟩
  ·rintro ⟨_,h1,h2⟩
   obtain ⟨m,rfl⟩:=hd
   have:x/2 ^ k=m:=by
    apply Nat.div_eq_of_lt_le
    ·rw [Nat.mul_comm];exact h1
    ·rw [Nat.add_mul,Nat.one_mul,Nat.mul_comm];omega
   rw [this,Nat.mul_comm]
 ·rw [decide_eq_false e,Bool.false_and]
  exact (decide_eq_false fun h=>e h.1).symm
end Go.Proofs.YtahlbjmafceoeaaGreatDoor.Agg
namespace Go.Proofs.YtahlbjmafceoeaaGreatDoor.Agg
open E Go.RowKit Adr Cid
theorem has_code{V b W:Int}{l k:List UInt8}(hl:l.length=16)(hk:k.length=16):Qf5 (mkP (mkA V l) b) (mkA W k)=some (hasP V l b W k):=by
 unfold Qf5 hasP
 rw [Qdv hl,Qf]
 cases hp:QdO V l b with
 | false=>rfl
 | true =>
  obtain ⟨⟨hrl,h0,h1⟩,hm⟩:=Qc9.1 hp
  have hw:=QdR (V:=V) (l:=l)
  rw [if_pos rfl,right_code hk,Qf,Bool.true_and]
  cases hr:QbP W k with
  | false=>rfl
  | true =>
   rw [if_pos rfl,Bool.true_and]
   show (if (W==V)=true then (Qb7 (mkA W k) b>>=fun t8=>some (decide (t8=mkA V l))) else some false)=_
   by_cases hV:W=V
   ·subst hV
    rw [if_pos (beq_self_eq_true _),mask_code hk (by omega),Qf,decide_eq_true rfl,Bool.true_and]
    unfold maskA
    rw [if_pos hr]
    refine congrArg some ?_
    rw [decide_eq_decide,mkA_inj (mlen hk b) hl]
    exact ⟨fun h=>h.2,fun h=>⟨rfl,h⟩⟩
   ·rw [if_neg (by rw [beq_iff_eq];exact hV),decide_eq_false hV];rfl
abbrev Tr:=Int×Nat×Nat
def cont(t u:Tr):Prop:=u.1=t.1∧u.2.2≤t.2.2∧t.2.1≤u.2.1∧u.2.1≤endT t
instance contDec (t u:Tr):Decidable (cont t u):=inferInstanceAs (Decidable (_∧_))
theorem has_pf2{t:Tr}(h:Good t){W:Int}(hW:fam W)(x:Nat)(hx:x<2 ^ wd W):Qf5 (pf t) (adr W x)=some (decide (W=t.1∧t.2.1≤x∧x≤endT t)):=by
 have e:=has_pf h hW x hx
 unfold pf prf adr at e ⊢
 rw [has_ref (QbL _ _) (QbL _ _)] at e
 rw [has_code (QbL _ _) (QbL _ _)]
 exact e
theorem bits_le{t u:Tr}(ht:Good t)(hu:Good u)(h:u.1=t.1):(pf t).f_Bits≤(pf u).f_Bits↔u.2.2≤t.2.2:=by
 obtain ⟨V,N,k⟩:=t
 obtain ⟨W,M,j⟩:=u
 simp only at h
 subst h
 have h1:k≤wd W:=ht.le
 have h2:j≤wd W:=hu.le
 show ((wd W-k:Nat):Int)≤((wd W-j:Nat):Int)↔j≤k
 omega
theorem cov_pf{t u:Tr}(ht:Good t)(hu:Good u):Qco (pf t) (pf u)=some (decide (cont t u))∧Qbg (pf t) (pf u)=some (decide (cont t u)):=by
 have r1:=(prf_right hu.fam hu.le hu.dvd)
 have h1:=has_pf2 ht hu.fam u.2.1 hu.lt
 have h2:=has_pf ht hu.fam u.2.1 hu.lt
 have hb:=bits_le ht hu
 unfold Qco Qbg
 have hA:(pf u).f_A=adr u.1 u.2.1:=rfl
 have hr1:QbM (pf u)=some true:=r1.1
 have hr2:Qad (pf u)=some true:=r1.2
 rw [hr1,hr2,Qf,Qf,if_pos rfl,if_pos rfl,hA,h1,h2,Qf,Qf]
 by_cases hV:u.1=t.1
 ·by_cases hk:u.2.2≤t.2.2
  ·rw [decide_eq_true ((hb hV).2 hk),if_pos rfl]
   have e:(u.1=t.1∧t.2.1≤u.2.1∧u.2.1≤endT t)↔cont t u:=by unfold cont;constructor<;>intro h<;>simp_all
   rw [decide_eq_decide.2 e]
   cases hc:decide (cont t u)
   ·exact ⟨rfl,rfl⟩
   ·exact ⟨rfl,rfl⟩
  ·rw [decide_eq_false (mt (hb hV).1 hk),if_neg Bool.false_ne_true,decide_eq_false (show ¬ cont t u from fun h=>hk h.2.1)]
   refine ⟨rfl,?_⟩
   split<;>rfl
 ·rw [decide_eq_false (show ¬ (u.1=t.1∧t.2.1≤u.2.1∧u.2.1≤endT t) from fun h=>hV h.1),decide_eq_false (show ¬ cont t u from fun h=>hV h.1),if_neg Bool.false_ne_true]
  refine ⟨?_,rfl⟩
  split<;>rfl
def others(e:Qd)(B:List Qd):List Qd:=B.filter fun x=>!decide (x.f_P=e.f_P)
theorem others_pos{e x:Qd}{B:List Qd}(h:x.f_P≠e.f_P):others e (x::B)=x::others e B:=List.filter_cons_of_pos (by simpa using h)
theorem others_neg{e x:Qd}{B:List Qd}(h:x.f_P=e.f_P):others e (x::B)=others e B:=List.filter_cons_of_neg (by simpa using h)
theorem put_loop(xs:List Qd)(e:Qd)(hn:xs.length≤100000)(hl:∀ x∈xs,Qa1 e.f_P x.f_P=some (lessE e x)):∀ (B A out:List Qd) (b:Bool),xs=A++B→out.length≤A.length+(if b=true then 1 else 0) →
  ∃ (o:List Qd) (c:Bool),QaC.l0 xs e out b (A.length:Int)=some (o,c)∧o.length≤xs.length+(if c=true then 1 else 0) ∧
   (if c=true then o else o++[e])=out++(if b=true then others e B else ins lessE e (others e B))
 | [],A,out,b,hx,ho=>by
  have hd:decide ((A.length:Int)<(xs.length:Int))=false:=decide_eq_false (by rw [hx];simp)
  refine ⟨out,b,?_,?_,?_⟩
  ·rw [QaC.l0.eq_def,hd,if_neg Bool.false_ne_true]
  ·rw [hx,List.append_nil];exact ho
  ·cases b
   ·rfl
   ·show out=out++[];rw [List.append_nil]
 | x::B,A,out,b,hx,ho=>by
  have hin:(0:Int)≤(A.length:Int)∧(A.length:Int)<(xs.length:Int):=by rw [hx];exact in_mid A x B
  have hg:lget xs (A.length:Int)=x:=by rw [hx];exact Qcg A x B
  have hAl:A.length+1≤xs.length:=by rw [hx];simp
  have hwi:wr .i64 ((A.length:Int)+1)=((A++[x]).length:Int):=Qes A x (by omega)
  have hx2:xs=(A++[x])++B:=by rw [hx];simp
  have hA2:(A++[x]).length=A.length+1:=by simp
  have hlx:=hl x (by rw [hx];simp)
  have ho1:out.length≤A.length+1:=by split at ho<;>omega
  rw [QaC.l0.eq_def,decide_eq_true hin.2,if_pos rfl,if_pos hin,hg,hwi]
  by_cases hp:x.f_P=e.f_P
  ·rw [decide_eq_true hp,if_pos rfl,others_neg hp]
   exact put_loop xs e hn hl B (A++[x]) out b hx2 (by omega)
  ·rw [decide_eq_false hp,if_neg Bool.false_ne_true,others_pos hp,if_pos hin,if_pos hin,hlx,Qf,if_pos hin]
   cases b with
   | true =>
    rw [if_neg (by decide),if_pos (by omega)]
    obtain ⟨o,c,h1,h2,h3⟩:=put_loop xs e hn hl B (A++[x]) (out++[x]) true hx2 (by rw [if_pos rfl] at ho ⊢;simp;omega)
    refine ⟨o,c,h1,h2,?_⟩
    rw [h3,if_pos rfl,if_pos rfl,List.append_assoc];rfl
   | false =>
    rw [if_pos (show (!false)=true from rfl)]
    have ho:out.length≤A.length:=ho
    show ∃ (o:List Qd) (c:Bool),_∧_∧(if c=true then o else o++[e])=out++ins lessE e (x::others e B)
    have hins:ins lessE e (x::others e B)=if lessE e x=true then e::x::others e B else x::ins lessE e (others e B):=rfl
    rw [hins]
    cases hlt:lessE e x with
    | true =>
     rw [if_pos rfl,if_pos rfl,if_pos (by omega),if_pos (by simp;omega)]
     obtain ⟨o,c,h1,h2,h3⟩:=put_loop xs e hn hl B (A++[x]) ((out++[e])++[x]) true hx2 (by rw [if_pos rfl];simp;omega)
     refine ⟨o,c,h1,h2,?_⟩
     rw [h3,if_pos rfl];simp
    | false =>
     rw [if_neg Bool.false_ne_true,if_neg Bool.false_ne_true,if_pos (by omega)]
     obtain ⟨o,c,h1,h2,h3⟩:=put_loop xs e hn hl B (A++[x]) (out++[x]) false hx2 (by rw [if_neg (by decide)];simp;omega)
     refine ⟨o,c,h1,h2,?_⟩
     rw [h3,if_neg (by decide),List.append_assoc];rfl
def putE(O:List Qd)(e:Qd):List Qd:=ins lessE e (others e O)
theorem others_len(e:Qd)(O:List Qd):(others e O).length≤O.length:=List.length_filter_le ..
theorem putE_len(O:List Qd)(e:Qd):(putE O e).length≤O.length+1:=by
 have h1:=(QdU lessE e (others e O)).length_eq
 have h2:=others_len e O
 unfold putE
 rw [h1,List.length_cons];omega
theorem put_code(xs:List Qd)(e:Qd)(hn:xs.length≤100000)(hl:∀ x∈xs,Qa1 e.f_P x.f_P=some (lessE e x)):QaC xs e=some (putE xs e):=by
 obtain ⟨o,c,h1,h2,h3⟩:=put_loop xs e hn hl xs [] [] false rfl (by simp)
 unfold QaC
 show (QaC.l0 xs e [] false (([]:List Qd).length:Int)>>=_)=_
 rw [h1,Qf]
 have h3:(if c=true then o else o++[e])=ins lessE e (others e xs):=h3
 unfold putE
 rw [←h3]
 cases c with
 | true=>rfl
 | false =>
  have h2:o.length≤xs.length:=h2
  show (if (!false)=true then (if (o.length+1)*40≤140737488355328 then some (o++[e]) else none) else some o)=_
  rw [if_pos (by decide),if_pos (by omega)];rfl
def LastIn:List Qd→Qd→Prop
 | [],_=>False
 | e::r,x=>(x=e∧∀ y∈r,y.f_P≠e.f_P)∨LastIn r x
theorem mem_others{e x:Qd}{O:List Qd}:x∈others e O↔x∈O∧x.f_P≠e.f_P:=by
 unfold others;rw [List.mem_filter];simp
theorem mem_putE{e x:Qd}{O:List Qd}:x∈putE O e↔x=e∨(x∈O∧x.f_P≠e.f_P):=by
 unfold putE
 rw [(QdU lessE e (others e O)).mem_iff,List.mem_cons,mem_others]
theorem mem_fold:∀ (r O:List Qd) (x:Qd),x∈r.foldl putE O↔LastIn r x∨(x∈O∧∀ y∈r,y.f_P≠x.f_P)
 | [],O,x=>by simp [LastIn]
 | e::r,O,x=>by
  rw [List.foldl_cons,mem_fold r,mem_putE]
  show _↔((x=e∧∀ y∈r,y.f_P≠e.f_P)∨LastIn r x)∨_
  constructor
  ·rintro (h | ⟨rfl | ⟨h1,h2⟩,h3⟩)
   ·exact .inl (.inr h)
   ·exact .inl (.inl ⟨rfl,h3⟩)
   ·refine .inr ⟨h1,fun y hy=>?_⟩
    rcases List.mem_cons.1 hy with rfl | hy
    ·exact fun e=>h2 e.symm
    ·exact h3 y hy
  ·rintro ((⟨rfl,h⟩ | h) | ⟨h1,h2⟩)
   ·exact .inr ⟨.inl rfl,h⟩
   ·exact .inl h
   ·exact .inr ⟨.inr ⟨h1,fun e'=>h2 e (List.mem_cons_self ..) e'.symm⟩,fun y hy=>h2 y (List.mem_cons_of_mem _ hy)⟩
def IsE(x:Qd):Prop:=IsPf x.f_P
theorem IsE.ok{x:Qd}(h:IsE x):okE x:=IsPf.ok h
structure QdH (O:List Qd):Prop where
 is:∀ x∈O,IsE x
 up:Up lessE O
 nd:(O.map Qd.f_P).Nodup
theorem nodup_perm{A B:List Qc}(h:A.Perm B):A.Nodup↔B.Nodup:=h.nodup_iff
theorem QdH.put{O:List Qd}(h:QdH O){e:Qd}(he:IsE e):QdH (putE O e):=by
 have hsub:(others e O).Sublist O:=List.filter_sublist
 have his:∀ x∈others e O,IsE x:=fun x hx=>h.is x (mem_others.1 hx).1
 refine ⟨fun x hx=>?_,?_,?_⟩
 ·rcases mem_putE.1 hx with rfl | hx
  ·exact he
  ·exact h.is x hx.1
 ·exact ins_up lessE_swo he.ok (fun x hx=>(his x hx).ok) (h.up.sublist hsub)
 ·unfold putE
  rw [nodup_perm ((QdU lessE e (others e O)).map Qd.f_P),List.map_cons]
  refine List.nodup_cons.2 ⟨fun hm=>?_,h.nd.sublist (hsub.map _)⟩
  obtain ⟨x,hx,ex⟩:=List.mem_map.1 hm
  exact (mem_others.1 hx).2 ex
theorem QdH.fold:∀ (r:List Qd) {O:List Qd},QdH O→(∀ x∈r,IsE x)→QdH (r.foldl putE O)∧(r.foldl putE O).length≤O.length+r.length
 | [],O,h,_=>⟨h,by simp⟩
 | e::r,O,h,hr=>by
  obtain ⟨h1,h2⟩:=QdH.fold r (h.put (hr e (List.mem_cons_self ..))) fun x hx=>hr x (List.mem_cons_of_mem _ hx)
  have:=putE_len O e
  rw [List.foldl_cons]
  exact ⟨h1,by simp;omega⟩
theorem map_nodup{O:List Qd}(h:(O.map Qd.f_P).Nodup):O.Nodup:=by
 induction O with
 | nil=>exact List.nodup_nil
 | cons x O ih =>
  rw [List.map_cons] at h
  obtain ⟨h1,h2⟩:=List.nodup_cons.1 h
  exact List.nodup_cons.2 ⟨fun hx=>h1 (List.mem_map.2 ⟨x,hx,rfl⟩),ih h2⟩
theorem QdH.ext{A B:List Qd}(hA:QdH A)(hB:QdH B)(h:∀ x,x∈A↔x∈B):A=B :=
 up_unique ((List.perm_ext_iff_of_nodup (map_nodup hA.nd) (map_nodup hB.nd)).2 h) hA.up hB.up fun x hx y hy h1 h2 =>
  nodup_on hA.nd x hx y hy (Go.Proofs.YtahlbjmafceoeaaGreatDoor.lessP_anti (hA.is x hx).ok (hA.is y hy).ok h1 h2)
end Go.Proofs.YtahlbjmafceoeaaGreatDoor.Agg
namespace Go.Proofs.YtahlbjmafceoeaaGreatDoor.Agg
open E Go.RowKit Adr Cid
theorem QdS(x:Qc)(h:Qah x):QbM x=some (rgt x)∧Qad x=some (rgt x)∧(rgt x=true→IsPf x):=by
 obtain ⟨V,l,b,rfl,hl,_⟩:=Qf0 x h
 unfold rgt
 rw [Qdv hl,Qd2 hl]
 refine ⟨rfl,rfl,fun h2=>?_⟩
 obtain ⟨hf,N,k,a1,a2,a3,a4⟩:=right_prf hl h2
 exact ⟨(V,N,k),⟨hf,a1,a2,a3⟩,a4⟩
def pE(x:Qd):Bool:=rgt x.f_P
def okL(l:List Qd):Prop:=∀ x∈l,Qah x.f_P
theorem Qgt(xs:List Qd)(hok:okL xs)(hn:xs.length≤10000):∀ (B A out:List Qd),xs=A++B→QdH out→out.length≤A.length →
  QaB.l0 xs out (A.length:Int)=some ((B.filter pE).foldl putE out)
 | [],A,out,hx,ho,hl=>by
  have hd:decide ((A.length:Int)<(xs.length:Int))=false:=decide_eq_false (by rw [hx];simp)
  rw [QaB.l0.eq_def,hd,if_neg Bool.false_ne_true];rfl
 | x::B,A,out,hx,ho,hl=>by
  have hin:(0:Int)≤(A.length:Int)∧(A.length:Int)<(xs.length:Int):=by rw [hx];exact in_mid A x B
  have hg:lget xs (A.length:Int)=x:=by rw [hx];exact Qcg A x B
  have hAl:A.length+1≤xs.length:=by rw [hx];simp
  have hwi:wr .i64 ((A.length:Int)+1)=((A++[x]).length:Int):=Qes A x (by omega)
  have hx2:xs=(A++[x])++B:=by rw [hx];simp
  obtain ⟨_,r2,r3⟩:=QdS x.f_P (hok x (by rw [hx];simp))
  rw [QaB.l0.eq_def,decide_eq_true hin.2,if_pos rfl,if_pos hin,hg,hwi,r2,Qf]
  cases hp:rgt x.f_P with
  | false =>
   rw [if_neg Bool.false_ne_true,List.filter_cons_of_neg (by unfold pE;rw [hp];decide)]
   exact Qgt xs hok hn B (A++[x]) out hx2 ho (by simp;omega)
  | true =>
   have he:IsE x:=r3 hp
   rw [if_pos rfl,if_pos hin,put_code out x (by omega) (fun y hy=>IsPf.less he (ho.is y hy)),Qf,List.filter_cons_of_pos (by unfold pE;exact hp),List.foldl_cons]
   have:=putE_len out x
   exact Qgt xs hok hn B (A++[x]) (putE out x) hx2 (ho.put he) (by simp;omega)
theorem QdH.nil:QdH []:=⟨fun x h=>(by cases h),List.Pairwise.nil,List.nodup_nil⟩
theorem refOwn_code(xs:List Qd)(hok:okL xs)(hn:xs.length≤10000):QaB xs=some ((xs.filter pE).foldl putE []):=by
 unfold QaB
 have:=Qgt xs hok hn xs [] [] rfl .nil (Nat.le_refl _)
 show (QaB.l0 xs [] (([]:List Qd).length:Int)>>=_)=_
 rw [this];rfl
theorem idxE_loop(e:Qd)(xs:List Qd)(hn:xs.length≤100000):∀ (B A:List Qd),xs=A++B→(∀ y∈A,y.f_P≠e.f_P) →
  ∃ i:Int,(QP.l0 xs e (A.length:Int)>>=fun q1=>match q1 with | .ret r'=>some r' | .nx sq1=>(some (-1)))=some i∧(decide (i≥0)=B.any fun y=>decide (y.f_P=e.f_P))
 | [],A,hx,hA=>by
  have hd:decide ((A.length:Int)<(xs.length:Int))=false:=decide_eq_false (by rw [hx];simp)
  refine ⟨-1,?_,rfl⟩
  rw [QP.l0.eq_def,hd,if_neg Bool.false_ne_true];rfl
 | x::B,A,hx,hA=>by
  have hin:(0:Int)≤(A.length:Int)∧(A.length:Int)<(xs.length:Int):=by rw [hx];exact in_mid A x B
  have hg:lget xs (A.length:Int)=x:=by rw [hx];exact Qcg A x B
  have hAl:A.length+1≤xs.length:=by rw [hx];simp
  have hwi:wr .i64 ((A.length:Int)+1)=((A++[x]).length:Int):=Qes A x (by omega)
  rw [QP.l0.eq_def,decide_eq_true hin.2,if_pos rfl,if_pos hin,hg,hwi]
  unfold QfZ
  rw [Qf]
  by_cases hp:x.f_P=e.f_P
  ·refine ⟨(A.length:Int),?_,?_⟩
   ·rw [decide_eq_true hp,if_pos rfl];rfl
   ·rw [List.any_cons,decide_eq_true hp,decide_eq_true (by omega)];rfl
  ·rw [decide_eq_false hp,if_neg Bool.false_ne_true]
   obtain ⟨i,h1,h2⟩:=idxE_loop e xs hn B (A++[x]) (by rw [hx];simp) (fun y hy=>by
    rcases List.mem_append.1 hy with hy | hy
    ·exact hA y hy
    ·rw [List.mem_singleton.1 hy];exact hp)
   refine ⟨i,h1,?_⟩
   rw [List.any_cons,decide_eq_false hp,Bool.false_or];exact h2
theorem contains_code(xs:List Qd)(e:Qd)(hn:xs.length≤100000):QaG xs e=some (xs.any fun y=>decide (y.f_P=e.f_P)):=by
 obtain ⟨i,h1,h2⟩:=idxE_loop e xs hn xs [] rfl (fun y hy=>by cases hy)
 have h3:QP xs e=some i:=by
  unfold QP
  exact h1
 unfold QaG
 rw [h3,Qf,h2]
def keepL:List Qd→List Qd
 | []=>[]
 | e::r=>if (pE e&&!(r.any fun y=>decide (y.f_P=e.f_P)))=true then e::keepL r else keepL r
theorem lsub_tail{α:Type}(A:List α)(x:α)(B:List α):lsub (A++x::B) ((A++[x]).length:Int) ((A++x::B).length:Int)=B:=by
 unfold lsub
 rw [Int.toNat_natCast,Int.toNat_natCast,List.take_length]
 have:A++x::B=(A++[x])++B:=by simp
 rw [this,List.drop_left]
theorem flatOwn_loop(xs:List Qd)(hok:okL xs)(hn:xs.length≤10000):∀ (B A out:List Qd),xs=A++B→out.length≤A.length →
  Qb9.l0 xs out (A.length:Int)=some (out++keepL B)
 | [],A,out,hx,hl=>by
  have hd:decide ((A.length:Int)<(xs.length:Int))=false:=decide_eq_false (by rw [hx];simp)
  rw [Qb9.l0.eq_def,hd,if_neg Bool.false_ne_true]
  show some out=some (out++[])
  rw [List.append_nil]
 | x::B,A,out,hx,hl=>by
  have hin:(0:Int)≤(A.length:Int)∧(A.length:Int)<(xs.length:Int):=by rw [hx];exact in_mid A x B
  have hg:lget xs (A.length:Int)=x:=by rw [hx];exact Qcg A x B
  have hAl:A.length+1≤xs.length:=by rw [hx];simp
  have hBl:B.length≤xs.length:=by rw [hx];simp;omega
  have hA1:(A++[x]).length=A.length+1:=by simp
  have hwi:wr .i64 ((A.length:Int)+1)=((A++[x]).length:Int):=Qes A x (by omega)
  have hx2:xs=(A++[x])++B:=by rw [hx];simp
  have hb:(0:Int)≤((A++[x]).length:Int)∧((A++[x]).length:Int)≤(xs.length:Int)∧(xs.length:Int)≤(xs.length:Int):=by omega
  have hsub:lsub xs ((A++[x]).length:Int) (xs.length:Int)=B:=by rw [hx];exact lsub_tail A x B
  obtain ⟨r1,_,r3⟩:=QdS x.f_P (hok x (by rw [hx];simp))
  have ih:=fun o (h:o.length≤A.length+1)=>flatOwn_loop xs hok hn B (A++[x]) o hx2 (by omega)
  rw [Qb9.l0.eq_def,decide_eq_true hin.2,if_pos rfl,if_pos hin,hg,hwi,if_pos hb,hsub,contains_code B x (by omega),Qf,r1,Qf]
  show _=some (out++(if (pE x&&!(B.any fun y=>decide (y.f_P=x.f_P)))=true then x::keepL B else keepL B))
  unfold pE
  cases rgt x.f_P with
  | false=>rw [if_neg Bool.false_ne_true,ih out (by omega)];rfl
  | true =>
   rw [if_pos rfl]
   cases B.any fun y=>decide (y.f_P=x.f_P) with
   | true=>rw [if_neg (by decide),ih out (by omega)];rfl
   | false =>
    rw [if_pos (by decide),if_pos (by omega),ih (out++[x]) (by simp;omega),List.append_assoc];rfl
theorem mem_keep:∀ (r:List Qd) (x:Qd),x∈keepL r↔LastIn (r.filter pE) x
 | [],x=>by simp [keepL,LastIn]
 | e::r,x=>by
  have hany:pE e=true→((r.any fun y=>decide (y.f_P=e.f_P))=false↔∀ y∈r.filter pE,y.f_P≠e.f_P):=fun he=>by
   rw [List.any_eq_false]
   constructor
   ·intro h y hy ey
    exact h y (List.mem_filter.1 hy).1 (decide_eq_true ey)
   ·intro h y hy ey
    have ey:=of_decide_eq_true ey
    refine h y (List.mem_filter.2 ⟨hy,?_⟩) ey
    unfold pE at he ⊢
    rw [ey];exact he
  show x∈(if (pE e&&!(r.any fun y=>decide (y.f_P=e.f_P)))=true then e::keepL r else keepL r)↔_
  cases he:pE e with
  | false =>
   rw [List.filter_cons_of_neg (by rw [he];decide),Bool.false_and,if_neg Bool.false_ne_true]
   exact mem_keep r x
  | true =>
   rw [List.filter_cons_of_pos he,Bool.true_and]
   show _↔(x=e∧∀ y∈r.filter pE,y.f_P≠e.f_P)∨LastIn (r.filter pE) x
   rw [←hany he]
   cases hb:r.any fun y=>decide (y.f_P=e.f_P) with
   | true =>
    rw [if_neg (by decide),mem_keep r x]
    exact ⟨.inr,fun h=>h.elim (fun h=>(by cases h.2)) id⟩
   | false =>
    rw [if_pos (by decide),List.mem_cons,mem_keep r x]
    exact ⟨fun h=>h.elim (fun h=>.inl ⟨h,rfl⟩) .inr,fun h=>h.elim (fun h=>.inl h.1) .inr⟩
theorem QfX:∀ (r:List Qd),(keepL r).Sublist (r.filter pE)
 | []=>List.Sublist.refl _
 | e::r=>by
  show (if (pE e&&!(r.any fun y=>decide (y.f_P=e.f_P)))=true then e::keepL r else keepL r).Sublist _
  cases he:pE e with
  | false=>rw [List.filter_cons_of_neg (by rw [he];decide)];exact QfX r
  | true =>
   rw [List.filter_cons_of_pos he]
   split
   ·exact (QfX r).cons_cons e
   ·exact (QfX r).cons e
theorem keep_nd:∀ (r:List Qd),((keepL r).map Qd.f_P).Nodup
 | []=>List.nodup_nil
 | e::r=>by
  show ((if (pE e&&!(r.any fun y=>decide (y.f_P=e.f_P)))=true then e::keepL r else keepL r).map Qd.f_P).Nodup
  split
  ·next h =>
   rw [List.map_cons]
   refine List.nodup_cons.2 ⟨fun hm=>?_,keep_nd r⟩
   obtain ⟨y,hy,ey⟩:=List.mem_map.1 hm
   rw [Bool.and_eq_true,Bool.not_eq_true'] at h
   have h2:=List.any_eq_false.1 h.2 y (List.mem_filter.1 ((QfX r).subset hy)).1
   exact h2 (decide_eq_true ey)
  ·exact keep_nd r
theorem isE_of{x:Qd}{l:List Qd}(hok:okL l)(h:x∈l.filter pE):IsE x:=by
 obtain ⟨h1,h2⟩:=List.mem_filter.1 h
 exact (QdS x.f_P (hok x h1)).2.2 h2
structure Counts (l O:List Qd):Prop where
 sorted:QdH O
 len:O.length≤l.length
 mem:∀ x,x∈O↔LastIn (l.filter pE) x
 code:Qb9 l=some O
 doc:QaB l=some O
theorem counts(l:List Qd)(hok:okL l)(hn:l.length≤10000):∃ O,Counts l O:=by
 have hK:∀ x∈keepL l,IsE x:=fun x hx=>isE_of hok ((QfX l).subset hx)
 have hs:QdH (isort lessE (keepL l)):=by
  refine ⟨fun x hx=>hK x ((Qdu lessE _).mem_iff.1 hx),isort_up lessE_swo _ fun x hx=>(hK x hx).ok,?_⟩
  rw [nodup_perm ((Qdu lessE (keepL l)).map Qd.f_P)]
  exact keep_nd l
 have hr:=(QdH.fold (l.filter pE) .nil fun x hx=>isE_of hok hx).1
 have hmem:∀ x,x∈isort lessE (keepL l)↔LastIn (l.filter pE) x:=fun x=>by rw [(Qdu lessE _).mem_iff,mem_keep]
 have heq:isort lessE (keepL l)=(l.filter pE).foldl putE []:=hs.ext hr fun x=>by
  rw [hmem,mem_fold]
  simp
 have hlen:(keepL l).length≤l.length:=Nat.le_trans (QfX l).length_le (List.length_filter_le ..)
 refine ⟨_,hs,by rw [Qdz];exact hlen,hmem,?_,by rw [heq];exact refOwn_code l hok hn⟩
 unfold Qb9
 have:=flatOwn_loop l hok hn l [] [] rfl (Nat.le_refl _)
 show (Qb9.l0 l [] (([]:List Qd).length:Int)>>=_)=_
 rw [this,Qf,List.nil_append]
 unfold Qd1
 rw [if_pos ⟨List.all_eq_true.2 fun x hx=>(hK x hx).ok,keep_nd l,by omega⟩];rfl
end Go.Proofs.YtahlbjmafceoeaaGreatDoor.Agg
namespace Go.Proofs.YtahlbjmafceoeaaGreatDoor.Agg
open E Go.RowKit Adr Cid
abbrev En:=Tr×Int
def en(e:En):Qd:={ f_P:=pf e.1,f_Owner:=e.2 }
theorem allE{O:List Qd}(h:QdH O):∃ T:List En,(∀ e∈T,Good e.1)∧O=T.map en∧(T.map Prod.fst).Nodup:=by
 have key:∀ O:List Qd,(∀ x∈O,IsE x)→∃ T:List En,(∀ e∈T,Good e.1)∧O=T.map en:=by
  intro O h
  induction O with
  | nil=>exact ⟨[],fun e h=>(by cases h),rfl⟩
  | cons x O ih =>
   obtain ⟨t,ht,e⟩:=h x (List.mem_cons_self ..)
   obtain ⟨T,h1,h2⟩:=ih fun y hy=>h y (List.mem_cons_of_mem _ hy)
   refine ⟨(t,x.f_Owner)::T,fun u hu=>?_,?_⟩
   ·rcases List.mem_cons.1 hu with rfl | hu
    ·exact ht
    ·exact h1 u hu
   ·rw [List.map_cons,←h2]
    congr 1
    unfold en
    rw [←e]
 obtain ⟨T,h1,h2⟩:=key O h.is
 refine ⟨T,h1,h2,?_⟩
 have hn:=h.nd
 rw [h2,List.map_map] at hn
 have e:Qd.f_P∘en=pf∘Prod.fst:=rfl
 rw [e,←List.map_map] at hn
 have inj:∀ L:List Tr,(L.map pf).Nodup→L.Nodup:=by
  intro L hL
  induction L with
  | nil=>exact List.nodup_nil
  | cons t L ih =>
   rw [List.map_cons] at hL
   obtain ⟨a,b⟩:=List.nodup_cons.1 hL
   exact List.nodup_cons.2 ⟨fun ht=>a (List.mem_map.2 ⟨t,ht,rfl⟩),ih b⟩
 exact inj _ hn
def Qc1(e:En):Nat:=wd e.1.1-e.1.2.2
def better(x:En):Option En→Bool
 | none=>true
 | some y=>decide (Qc1 x>Qc1 y)
def stepB(p:En→Bool)(b:Option En)(x:En):Option En:=if p x=true then (if better x b=true then some x else b) else b
def best(p:En→Bool)(T:List En):Option En:=T.foldl (stepB p) none
theorem stepB_no{p:En→Bool}{b:Option En}{x:En}(h:p x=false):stepB p b x=b:=by unfold stepB;rw [h];rfl
theorem stepB_none{p:En→Bool}{x:En}(h:p x=true):stepB p none x=some x:=by unfold stepB;rw [h];rfl
theorem stepB_gt{p:En→Bool}{x y:En}(h:p x=true)(hb:Qc1 x>Qc1 y):stepB p (some y) x=some x:=by
 unfold stepB
 rw [h,if_pos rfl]
 show (if decide (Qc1 x>Qc1 y)=true then some x else some y)=_
 rw [decide_eq_true hb,if_pos rfl]
theorem stepB_le{p:En→Bool}{x y:En}(h:p x=true)(hb:¬ Qc1 x>Qc1 y):stepB p (some y) x=some y:=by
 unfold stepB
 rw [h,if_pos rfl]
 show (if decide (Qc1 x>Qc1 y)=true then some x else some y)=_
 rw [decide_eq_false hb,if_neg Bool.false_ne_true]
def zE:Qd:={ f_P:={ f_A:={ f_V:=(0:Int),f_B:=(Vector.replicate 16 (0:Int):(Vector Int 16)) },f_Bits:=(0:Int) },f_Owner:=(0:Int) }
def outE(b:Option En):Qd:=match b with | none=>zE | some x=>en x
theorem bits_gt(x y:En):decide ((en x).f_P.f_Bits>(en y).f_P.f_Bits)=decide (Qc1 x>Qc1 y):=by
 rw [decide_eq_decide]
 show ((wd x.1.1-x.1.2.2:Nat):Int)>((wd y.1.1-y.1.2.2:Nat):Int)↔Qc1 x>Qc1 y
 unfold Qc1;omega
theorem find_loop(a:Qh)(p:En→Bool)(T:List En)(hn:T.length≤100000)(hp:∀ e∈T,Qbq (pf e.1) a=some (p e)):∀ (B A:List En) (b:Option En),T=A++B →
  Qbi.l0 (T.map en) a b.isSome (A.length:Int) (outE b)=some ((B.foldl (stepB p) b).isSome,outE (B.foldl (stepB p) b))
 | [],A,b,hx=>by
  have hd:decide ((A.length:Int)<((T.map en).length:Int))=false:=decide_eq_false (by rw [hx];simp)
  rw [Qbi.l0.eq_def,hd,if_neg Bool.false_ne_true];rfl
 | x::B,A,b,hx=>by
  have hTl:T.length=A.length+(B.length+1):=by rw [hx];simp
  have hin:(0:Int)≤(A.length:Int)∧(A.length:Int)<((T.map en).length:Int):=by rw [List.length_map];omega
  have hg:lget (T.map en) (A.length:Int)=en x:=by
   rw [hx,List.map_append,List.map_cons]
   have:=Qcg (A.map en) (en x) (B.map en)
   rwa [List.length_map] at this
  have hwi:wr .i64 ((A.length:Int)+1)=((A++[x]).length:Int):=Qes A x (by omega)
  have ih:=fun c=>find_loop a p T hn hp B (A++[x]) c (by rw [hx];simp)
  have hpx:Qbq (en x).f_P a=some (p x):=hp x (by rw [hx];simp)
  rw [Qbi.l0.eq_def,decide_eq_true hin.2,if_pos rfl]
  simp only [if_pos hin,hg,hwi,hpx,Qf]
  rw [List.foldl_cons]
  cases hpp:p x with
  | false=>rw [if_neg Bool.false_ne_true,stepB_no hpp];exact ih b
  | true =>
   rw [if_pos rfl]
   cases b with
   | none=>rw [stepB_none hpp];exact ih (some x)
   | some y =>
    show (if (!true)=true then _ else (if decide ((en x).f_P.f_Bits>(en y).f_P.f_Bits)=true then _ else _))=_
    rw [if_neg (by decide),bits_gt]
    by_cases hd:Qc1 x>Qc1 y
    ·rw [decide_eq_true hd,if_pos rfl,stepB_gt hpp hd];exact ih (some x)
    ·rw [decide_eq_false hd,if_neg Bool.false_ne_true,stepB_le hpp hd];exact ih (some y)
def pa(x e:En):Bool:=!decide (e.1=x.1)&&decide (cont e.1 x.1)
theorem pf_eq{x e:En}(hx:Good x.1)(he:Good e.1):decide ((en e).f_P=(en x).f_P)=decide (e.1=x.1):=by
 rw [decide_eq_decide]
 exact ⟨fun h=>pf_inj he hx h,fun h=>congrArg pf h⟩
theorem above_loop(x:En)(hx0:Good x.1)(T:List En)(hn:T.length≤100000)(hT:∀ e∈T,Good e.1):∀ (B A:List En) (b:Option En),T=A++B →
  QbD.l0 (T.map en) (en x) b.isSome (A.length:Int) (outE b)=some ((B.foldl (stepB (pa x)) b).isSome,outE (B.foldl (stepB (pa x)) b))
 | [],A,b,hx=>by
  have hd:decide ((A.length:Int)<((T.map en).length:Int))=false:=decide_eq_false (by rw [hx];simp)
  rw [QbD.l0.eq_def,hd,if_neg Bool.false_ne_true];rfl
 | e::B,A,b,hx=>by
  have hTl:T.length=A.length+(B.length+1):=by rw [hx];simp
  have hin:(0:Int)≤(A.length:Int)∧(A.length:Int)<((T.map en).length:Int):=by rw [List.length_map];omega
  have hg:lget (T.map en) (A.length:Int)=en e:=by
   rw [hx,List.map_append,List.map_cons]
   have:=Qcg (A.map en) (en e) (B.map en)
   rwa [List.length_map] at this
  have hwi:wr .i64 ((A.length:Int)+1)=((A++[e]).length:Int):=Qes A e (by omega)
  have ih:=fun c=>above_loop x hx0 T hn hT B (A++[e]) c (by rw [hx];simp)
  have he:=hT e (by rw [hx];simp)
  have hc:Qco (en e).f_P (en x).f_P=some (decide (cont e.1 x.1)):=(cov_pf he hx0).1
  rw [QbD.l0.eq_def,decide_eq_true hin.2,if_pos rfl]
  simp only [if_pos hin,hg,hwi,hc,Qf,pf_eq hx0 he]
  rw [List.foldl_cons]
  have hpa:pa x e=(!decide (e.1=x.1)&&decide (cont e.1 x.1)):=rfl
  cases h1:decide (e.1=x.1) with
  | true =>
   rw [h1,Bool.not_true,Bool.false_and] at hpa
   rw [if_neg (by decide),stepB_no hpa];exact ih b
  | false =>
   rw [h1,Bool.not_false,Bool.true_and] at hpa
   rw [if_pos (by decide)]
   cases h2:decide (cont e.1 x.1) with
   | false=>rw [h2] at hpa;rw [if_neg Bool.false_ne_true,stepB_no hpa];exact ih b
   | true =>
    rw [h2] at hpa
    rw [if_pos rfl]
    cases b with
    | none=>rw [stepB_none hpa];exact ih (some e)
    | some y =>
     show (if (!true)=true then _ else (if decide ((en e).f_P.f_Bits>(en y).f_P.f_Bits)=true then _ else _))=_
     rw [if_neg (by decide),bits_gt]
     by_cases hd:Qc1 e>Qc1 y
     ·rw [decide_eq_true hd,if_pos rfl,stepB_gt hpa hd];exact ih (some e)
     ·rw [decide_eq_false hd,if_neg Bool.false_ne_true,stepB_le hpa hd];exact ih (some y)
theorem above_code(x:En)(hx0:Good x.1)(T:List En)(hn:T.length≤100000)(hT:∀ e∈T,Good e.1):QbD (T.map en) (en x)=some (outE (best (pa x) T),(best (pa x) T).isSome):=by
 have:=above_loop x hx0 T hn hT T [] none rfl
 unfold QbD
 show (QbD.l0 (T.map en) (en x) (none:Option En).isSome (([]:List En).length:Int) (outE none)>>=_)=_
 rw [this];rfl
def keepT(T:List En)(x:En):Bool:=match best (pa x) T with | none=>true | some y=>y.2 != x.2
def thinT(T:List En):List En:=T.filter (keepT T)
theorem thin_loop(T:List En)(hn:T.length≤100000)(hT:∀ e∈T,Good e.1):∀ (B A:List En) (out:List Qd),T=A++B→out.length≤A.length →
  Qbs.l0 (T.map en) out (A.length:Int)=some (out++(B.filter (keepT T)).map en)
 | [],A,out,hx,ho=>by
  have hd:decide ((A.length:Int)<((T.map en).length:Int))=false:=decide_eq_false (by rw [hx];simp)
  rw [Qbs.l0.eq_def,hd,if_neg Bool.false_ne_true]
  show some out=some (out++[])
  rw [List.append_nil]
 | e::B,A,out,hx,ho=>by
  have hTl:T.length=A.length+(B.length+1):=by rw [hx];simp
  have hin:(0:Int)≤(A.length:Int)∧(A.length:Int)<((T.map en).length:Int):=by rw [List.length_map];omega
  have hg:lget (T.map en) (A.length:Int)=en e:=by
   rw [hx,List.map_append,List.map_cons]
   have:=Qcg (A.map en) (en e) (B.map en)
   rwa [List.length_map] at this
  have hwi:wr .i64 ((A.length:Int)+1)=((A++[e]).length:Int):=Qes A e (by omega)
  have hA1:(A++[e]).length=A.length+1:=by simp
  have ih:=fun o (h:o.length≤A.length+1)=>thin_loop T hn hT B (A++[e]) o (by rw [hx];simp) (by omega)
  have he:=hT e (by rw [hx];simp)
  rw [Qbs.l0.eq_def,decide_eq_true hin.2,if_pos rfl,if_pos hin,hg,hwi,above_code e he T hn hT,Qf]
  have hg2:(out.length+1)*40≤140737488355328:=by omega
  have hyes:(if (out.length+1)*40≤140737488355328 then Qbs.l0 (T.map en) (out++[en e]) ((A++[e]).length:Int) else none)=some (out++(en e::(B.filter (keepT T)).map en)):=by
   rw [if_pos hg2,ih (out++[en e]) (by simp;omega),List.append_assoc];rfl
  cases hk:keepT T e with
  | true =>
   rw [List.filter_cons_of_pos hk,List.map_cons,hyes]
   unfold keepT at hk
   cases hb:best (pa e) T with
   | none=>rfl
   | some y =>
    rw [hb] at hk
    have hk:(y.2 != e.2)=true:=hk
    show (if (!true)=true then _ else (if (y.2 != e.2)=true then _ else _))=_
    rw [if_neg (by decide),if_pos hk]
  | false =>
   rw [List.filter_cons_of_neg (by rw [hk];decide),hyes]
   unfold keepT at hk
   cases hb:best (pa e) T with
   | none=>rw [hb] at hk;cases hk
   | some y =>
    rw [hb] at hk
    have hk:(y.2 != e.2)=false:=hk
    show (if (!true)=true then _ else (if (y.2 != e.2)=true then _ else _))=_
    rw [if_neg (by decide),hk,if_neg Bool.false_ne_true]
    exact ih out (by omega)
theorem flatThin_code(l:List Qd)(T:List En)(hn:T.length≤100000)(hT:∀ e∈T,Good e.1)(h:Qb9 l=some (T.map en)):Qbs l=some ((thinT T).map en):=by
 unfold Qbs
 have:=thin_loop T hn hT T [] [] rfl (Nat.le_refl _)
 rw [h,Qf]
 show (Qbs.l0 (T.map en) [] (([]:List En).length:Int)>>=_)=_
 rw [this];rfl
theorem spare_loop(T:List En)(hn:T.length≤100000)(hT:∀ e∈T,Good e.1)(hnd:(T.map Prod.fst).Nodup)(at_:Nat)(x:En)(hat:at_<T.length)(hx:T[at_]? = some x):∀ (B A:List En) (b:Option En) (j:Int),T=A++B→(match b with | none=>j = -1 | some y=>0≤j∧j<(T.length:Int)∧lget (T.map en) j=en y) →
  ∃ j',Qae.l0 (T.map en) (at_:Int) j (A.length:Int)=some j'∧(match B.foldl (stepB (pa x)) b with | none=>j' = -1 | some y=>0≤j'∧j'<(T.length:Int)∧lget (T.map en) j'=en y)
 | [],A,b,j,hx,hj=>by
  have hd:decide ((A.length:Int)<((T.map en).length:Int))=false:=decide_eq_false (by rw [hx];simp)
  refine ⟨j,?_,hj⟩
  rw [Qae.l0.eq_def,hd,if_neg Bool.false_ne_true]
 | e::B,A,b,j,hxx,hj=>by
  have hTl:T.length=A.length+(B.length+1):=by rw [hxx];simp
  have hml:(T.map en).length=T.length:=List.length_map ..
  have hin:(0:Int)≤(A.length:Int)∧(A.length:Int)<((T.map en).length:Int):=by omega
  have hin2:(0:Int)≤(at_:Int)∧(at_:Int)<((T.map en).length:Int):=by omega
  have hg:lget (T.map en) (A.length:Int)=en e:=by
   rw [hxx,List.map_append,List.map_cons]
   have:=Qcg (A.map en) (en e) (B.map en)
   rwa [List.length_map] at this
  have hg2:lget (T.map en) (at_:Int)=en x:=by
   unfold lget
   rw [Int.toNat_natCast,List.getD_eq_getElem?_getD,List.getElem?_map,hx];rfl
  have hwi:wr .i64 ((A.length:Int)+1)=((A++[e]).length:Int):=Qes A e (by omega)
  have ih:=fun c j (hj:match c with | none=>j = -1 | some y=>0≤j∧j<(T.length:Int)∧lget (T.map en) j=en y)=>spare_loop T hn hT hnd at_ x hat hx B (A++[e]) c j (by rw [hxx];simp) hj
  have hem:e∈T:=by rw [hxx];simp
  have hxm:x∈T:=List.mem_of_getElem? hx
  have hc:Qbg (en e).f_P (en x).f_P=some (decide (cont e.1 x.1)):=(cov_pf (hT e hem) (hT x hxm)).2
  have hsame:((A.length:Int) != (at_:Int))=!decide (e.1=x.1):=by
   have hAe:T[A.length]? = some e:=by rw [hxx];simp
   rw [Bool.eq_iff_iff,bne_iff_ne,Bool.not_eq_true',decide_eq_false_iff_not]
   constructor
   ·intro h ee
    apply h
    have e1:(T.map Prod.fst)[A.length]? = some e.1:=by rw [List.getElem?_map,hAe];rfl
    have e2:(T.map Prod.fst)[at_]? = some x.1:=by rw [List.getElem?_map,hx];rfl
    have:=(List.getElem?_inj (by rw [List.length_map];omega) hnd).1 (show (T.map Prod.fst)[A.length]? = (T.map Prod.fst)[at_]? by rw [e1,e2,ee])
    omega
   ·intro h ee
    apply h
    have:A.length=at_:=by omega
    rw [this,hx] at hAe
    rw [Option.some.inj hAe]
  rw [Qae.l0.eq_def,decide_eq_true hin.2,if_pos rfl,hsame,List.foldl_cons]
  simp only [if_pos hin,if_pos hin2,hg,hg2,hwi,hc,Qf]
  have hpa:pa x e=(!decide (e.1=x.1)&&decide (cont e.1 x.1)):=rfl
  cases h1:decide (e.1=x.1) with
  | true =>
   rw [h1,Bool.not_true,Bool.false_and] at hpa
   rw [Bool.not_true,if_neg Bool.false_ne_true,stepB_no hpa];exact ih b j hj
  | false =>
   rw [h1,Bool.not_false,Bool.true_and] at hpa
   rw [Bool.not_false,if_pos rfl]
   cases h2:decide (cont e.1 x.1) with
   | false=>rw [h2] at hpa;rw [if_neg Bool.false_ne_true,stepB_no hpa];exact ih b j hj
   | true =>
    rw [h2] at hpa
    rw [if_pos rfl]
    have hme:0≤(A.length:Int)∧(A.length:Int)<(T.length:Int)∧lget (T.map en) (A.length:Int)=en e:=⟨by omega,by omega,hg⟩
    cases b with
    | none =>
     have hj:j = -1:=hj
     rw [hj,if_pos (by decide),stepB_none hpa]
     exact ih (some e) _ hme
    | some y =>
     obtain ⟨j1,j2,j3⟩:0≤j∧j<(T.length:Int)∧lget (T.map en) j=en y:=hj
     rw [decide_eq_false (show ¬ j<0 by omega),if_neg Bool.false_ne_true,if_pos (show 0≤j∧j<((T.map en).length:Int) by omega),j3,bits_gt]
     by_cases hd:Qc1 e>Qc1 y
     ·rw [decide_eq_true hd,if_pos rfl,stepB_gt hpa hd];exact ih (some e) _ hme
     ·rw [decide_eq_false hd,if_neg Bool.false_ne_true,stepB_le hpa hd];exact ih (some y) j ⟨j1,j2,j3⟩
theorem spare_code(T:List En)(hn:T.length≤100000)(hT:∀ e∈T,Good e.1)(hnd:(T.map Prod.fst).Nodup)(at_:Nat)(x:En)(hat:at_<T.length)(hx:T[at_]? = some x):Qae (T.map en) (at_:Int)=some (!keepT T x):=by
 have hml:(T.map en).length=T.length:=List.length_map ..
 have hg2:lget (T.map en) (at_:Int)=en x:=by
  unfold lget
  rw [Int.toNat_natCast,List.getD_eq_getElem?_getD,List.getElem?_map,hx];rfl
 obtain ⟨j,h1,h2⟩:=spare_loop T hn hT hnd at_ x hat hx T [] none (-1) rfl rfl
 unfold Qae
 show (Qae.l0 (T.map en) (at_:Int) (-1) (([]:List En).length:Int)>>=_)=_
 rw [h1,Qf]
 unfold keepT
 have e:T.foldl (stepB (pa x)) none=best (pa x) T:=rfl
 rw [e] at h2
 cases hb:best (pa x) T with
 | none =>
  rw [hb] at h2
  have h2:j = -1:=h2
  rw [h2];rfl
 | some y =>
  rw [hb] at h2
  obtain ⟨j1,j2,j3⟩:0≤j∧j<(T.length:Int)∧lget (T.map en) j=en y:=h2
  rw [decide_eq_true (show j≥0 by omega),if_pos rfl,if_pos (by omega),if_pos (by omega),j3,hg2]
  show some (y.2==x.2)=some (!(!(y.2==x.2)))
  rw [Bool.not_not]
theorem refThin_loop(T:List En)(hn:T.length≤100000)(hT:∀ e∈T,Good e.1)(hnd:(T.map Prod.fst).Nodup):∀ (B A:List En) (out:List Qd),T=A++B→out.length≤A.length →
  Qau.l0 (T.map en) out (A.length:Int)=some (out++(B.filter (keepT T)).map en)
 | [],A,out,hx,ho=>by
  have hd:decide ((A.length:Int)<((T.map en).length:Int))=false:=decide_eq_false (by rw [hx];simp)
  rw [Qau.l0.eq_def,hd,if_neg Bool.false_ne_true]
  show some out=some (out++[])
  rw [List.append_nil]
 | e::B,A,out,hx,ho=>by
  have hTl:T.length=A.length+(B.length+1):=by rw [hx];simp
  have hin:(0:Int)≤(A.length:Int)∧(A.length:Int)<((T.map en).length:Int):=by rw [List.length_map];omega
  have hg:lget (T.map en) (A.length:Int)=en e:=by
   rw [hx,List.map_append,List.map_cons]
   have:=Qcg (A.map en) (en e) (B.map en)
   rwa [List.length_map] at this
  have hwi:wr .i64 ((A.length:Int)+1)=((A++[e]).length:Int):=Qes A e (by omega)
  have hA1:(A++[e]).length=A.length+1:=by simp
  have ih:=fun o (h:o.length≤A.length+1)=>refThin_loop T hn hT hnd B (A++[e]) o (by rw [hx];simp) (by omega)
  have hAe:T[A.length]? = some e:=by rw [hx];simp
  rw [Qau.l0.eq_def,decide_eq_true hin.2,if_pos rfl,spare_code T hn hT hnd A.length e (by omega) hAe,Qf,if_pos hin,hg,hwi]
  cases hk:keepT T e with
  | true =>
   rw [if_pos (by decide),List.filter_cons_of_pos hk,List.map_cons,if_pos (by omega),ih (out++[en e]) (by simp;omega),List.append_assoc];rfl
  | false =>
   rw [if_neg (by decide),List.filter_cons_of_neg (by rw [hk];decide)]
   exact ih out (by omega)
theorem refThin_code(l:List Qd)(T:List En)(hn:T.length≤100000)(hT:∀ e∈T,Good e.1)(hnd:(T.map Prod.fst).Nodup)(h:QaB l=some (T.map en)):Qau l=some ((thinT T).map en):=by
 unfold Qau
 have:=refThin_loop T hn hT hnd T [] [] rfl (Nat.le_refl _)
 rw [h,Qf]
 show (Qau.l0 (T.map en) [] (([]:List En).length:Int)>>=_)=_
 rw [this];rfl
end Go.Proofs.YtahlbjmafceoeaaGreatDoor.Agg
namespace Go.Proofs.YtahlbjmafceoeaaGreatDoor.Agg
open E Go.RowKit Adr Cid
end Go.Proofs.YtahlbjmafceoeaaGreatDoor.Agg
set_option maxRecDepth 20000
namespace Go.Proofs.YtahlbjmafceoeaaGreatDoor.Lint
open E Go.RowKit Adr Cid Agg
theorem QbI{α:Type}[Inhabited α]{xs:List α}{i:Nat}(h:i<xs.length):lget xs (i:Int)=xs[i]:=by
 unfold lget
 rw [Int.toNat_natCast,List.getD_eq_getElem?_getD,List.getElem?_eq_getElem h];rfl
theorem wr1{i:Nat}(h:i≤1000000):wr .i64 ((i:Int)+1)=((i+1:Nat):Int):=by rw [Qam (by omega) (by omega)];omega
theorem wrm{i:Nat}(h:i≤1000000)(h0:0<i):wr .i64 ((i:Int)-1)=((i-1:Nat):Int):=by rw [Qam (by omega) (by omega)];omega
section
variable {κ : Type} [DecidableEq κ]
def tm(L:List κ):List (κ×Bool):=L.map fun k=>(k,true)
theorem mfind_tm:∀ (L:List κ) (k:κ),mfind (tm L) k=if k∈L then some true else none
 | [],k=>by rw [if_neg (by simp)];rfl
 | a::L,k=>by
  show (if k=a then some true else mfind (tm L) k)=_
  by_cases h:k=a
  ·rw [if_pos h,if_pos (by rw [h];exact List.mem_cons_self ..)]
  ·rw [if_neg h,mfind_tm L k]
   by_cases h2:k∈L
   ·rw [if_pos h2,if_pos (List.mem_cons_of_mem _ h2)]
   ·rw [if_neg h2,if_neg (fun hm=>(List.mem_cons.1 hm).elim h h2)]
theorem mget_yes{L:List κ}{k:κ}(h:k∈L):mget (tm L) k false=true:=by
 unfold mget
 rw [mfind_tm,if_pos h];rfl
theorem mget_no{L:List κ}{k:κ}(h:k∉L):mget (tm L) k false=false:=by
 unfold mget
 rw [mfind_tm,if_neg h];rfl
theorem mput_tm:∀ (L:List κ) (k:κ),k∉L→mput (tm L) k true=tm (L++[k])
 | [],k,_=>rfl
 | a::L,k,h=>by
  show (if k=a then (k,true)::tm L else (a,true)::mput (tm L) k true)=(a,true)::tm (L++[k])
  rw [if_neg (fun e=>h (by rw [e];exact List.mem_cons_self ..)),mput_tm L k (fun hm=>h (List.mem_cons_of_mem _ hm))]
omit [DecidableEq κ] in
theorem tm_len(L:List κ):(tm L).length=L.length:=List.length_map ..
end
abbrev Px:=Qc
def prevOk:Option Px→Px→Bool
 | none,_=>true
 | some p,q=>lessP p q
def risL:Option Px→List Px→Bool
 | _,[]=>true
 | pv,q::r=>rgt q&&(prevOk pv q&&risL (some q) r)
theorem risL_cons(pv:Option Px)(q:Px)(r:List Px):risL pv (q::r)=(rgt q&&(prevOk pv q&&risL (some q) r)):=rfl
def freshL:List Px→List Px→Option (List Px)
 | all,[]=>some all
 | all,q::r=>if q∈all then none else freshL (all++[q]) r
theorem freshL_cons(all:List Px)(q:Px)(r:List Px):freshL all (q::r)=if q∈all then none else freshL (all++[q]) r:=rfl
def addL:Option Px→List Px→List Px→Option (List Px)
 | _,all,[]=>some all
 | pv,all,q::r=>if rgt q=true∧prevOk pv q=true∧q∉all then addL (some q) (all++[q]) r else none
theorem addL_cons(pv:Option Px)(all:List Px)(q:Px)(r:List Px):addL pv all (q::r)=if rgt q=true∧prevOk pv q=true∧q∉all then addL (some q) (all++[q]) r else none:=rfl
theorem addL_eq:∀ (l:List Px) (pv:Option Px) (all:List Px),addL pv all l=if risL pv l=true then freshL all l else none
 | [],pv,all=>rfl
 | q::r,pv,all=>by
  rw [addL_cons,risL_cons,freshL_cons]
  cases h1:rgt q with
  | false=>rw [if_neg (fun h=>by cases h.1),Bool.false_and,if_neg Bool.false_ne_true]
  | true =>
   cases h2:prevOk pv q with
   | false=>rw [if_neg (fun h=>by cases h.2.1),Bool.false_and,Bool.and_false,if_neg Bool.false_ne_true]
   | true =>
    rw [Bool.true_and,Bool.true_and]
    by_cases h3:q∈all
    ·rw [if_neg (fun h=>h.2.2 h3),if_pos h3];split<;>rfl
    ·rw [if_pos ⟨rfl,rfl,h3⟩,if_neg h3,addL_eq r]
theorem addL_some:∀ (l:List Px) (pv:Option Px) (all a:List Px),addL pv all l=some a→a=all++l∧(∀ q∈l,rgt q=true)∧(all.Nodup→a.Nodup)
 | [],pv,all,a,h=>by cases h;exact ⟨by simp,fun q hq=>(by cases hq),id⟩
 | q::r,pv,all,a,h=>by
  rw [addL_cons] at h
  split at h
  ·next hc =>
   obtain ⟨h1,h2,h3⟩:=addL_some r (some q) (all++[q]) a h
   refine ⟨by rw [h1];simp,fun x hx=>?_,fun hn=>h3 ?_⟩
   ·rcases List.mem_cons.1 hx with rfl | hx
    ·exact hc.1
    ·exact h2 x hx
   ·rw [List.nodup_append]
    refine ⟨hn,by simp,fun x hx y hy=>?_⟩
    rw [List.mem_singleton.1 hy]
    exact fun e=>hc.2.2 (e▸hx)
  ·cases h
def pvOf(l:List Px)(i:Nat):Option Px:=if i=0 then none else l[i-1]?
theorem pvOf_zero(l:List Px):pvOf l 0=none:=rfl
theorem pvOf_succ(l:List Px)(i:Nat)(h:i<l.length):pvOf l (i+1)=some l[i]:=by
 unfold pvOf
 rw [if_neg (by omega),Nat.add_sub_cancel,List.getElem?_eq_getElem h]
theorem less_both{p q:Px}(hp:rgt p=true)(hq:rgt q=true)(op:Qah p)(oq:Qah q):Qc0 p q=some (lessP p q)∧Qa1 p q=some (lessP p q) :=
 ⟨QfI p q,IsPf.less ((QdS p op).2.2 hp) ((QdS q oq).2.2 hq)⟩
theorem rising_loop(l:List Px)(hok:∀ x∈l,Qah x)(hn:l.length≤1000):∀ (k i:Nat),i+k=l.length→(∀ p,pvOf l i=some p→rgt p=true) →
  QbR.l0 l (i:Int)=some (if risL (pvOf l i) (l.drop i)=true then .nx () else .ret false)
 | 0,i,h,_=>by
  rw [QbR.l0.eq_def,decide_eq_false (by omega),if_neg Bool.false_ne_true,List.drop_eq_nil_of_le (by omega)];rfl
 | k+1,i,h,hp=>by
  have hi:i<l.length:=by omega
  have oi:=hok l[i] (List.getElem_mem hi)
  rw [QbR.l0.eq_def,decide_eq_true (by omega),if_pos rfl,if_pos (by omega),QbI hi,(QdS _ oi).1,Qf,wr1 (by omega),List.drop_eq_getElem_cons hi,risL_cons]
  cases hr:rgt l[i] with
  | false=>rw [if_pos (by decide),Bool.false_and,if_neg Bool.false_ne_true]
  | true =>
   have ih:=rising_loop l hok hn k (i+1) (by omega) (fun p e=>by rw [pvOf_succ l i hi] at e;cases e;exact hr)
   rw [pvOf_succ l i hi] at ih
   rw [if_neg (by decide),Bool.true_and]
   by_cases h0:i=0
   ·have hpv:pvOf l i=none:=by unfold pvOf;rw [if_pos h0]
    rw [decide_eq_false (by omega),if_neg Bool.false_ne_true,hpv,ih]
    show _=some (if (true&&risL (some l[i]) (List.drop (i+1) l))=true then _ else _)
    rw [Bool.true_and]
   ·have hi1:i-1<l.length:=by omega
    have hpv:pvOf l i=some l[i-1]:=by unfold pvOf;rw [if_neg h0,List.getElem?_eq_getElem hi1]
    have hless:=(less_both (hp _ hpv) hr (hok _ (List.getElem_mem hi1)) oi).1
    rw [decide_eq_true (by omega),if_pos rfl,wrm (by omega) (by omega),if_pos (by omega),QbI hi1,hless,Qf,hpv]
    show _=some (if (lessP l[i-1] l[i]&&risL (some l[i]) (List.drop (i+1) l))=true then _ else _)
    cases lessP l[i-1] l[i] with
    | false=>rw [if_pos (by decide),Bool.false_and,if_neg Bool.false_ne_true]
    | true=>rw [if_neg (by decide),Bool.true_and,ih]
theorem rising_code(l:List Px)(hok:∀ x∈l,Qah x)(hn:l.length≤1000):QbR l=some (risL none l):=by
 unfold QbR
 have:=rising_loop l hok hn l.length 0 (by omega) (fun p e=>by cases e)
 rw [show ((0:Nat):Int)=0 from rfl,List.drop_zero,pvOf_zero] at this
 rw [this,Qf]
 cases risL none l<;>rfl
def shB(n:Int):Bool:=decide (n≥0)&&decide (n≤65535)
theorem QfU(n:Int):Qdr n=some (shB n)∧Qb0 n=some (shB n):=by
 unfold Qdr Qb0 shB
 cases decide (n≥0)<;>exact ⟨rfl,rfl⟩
abbrev zEnd:Qav:=({ f_A:=({ f_V:=(0:Int),f_B:=(Vector.replicate 16 (0:Int):(Vector Int 16)) }:Qh),f_Port:=(0:Int) }:Qav)
abbrev zKey:Vector Int 32:=(Vector.replicate 32 (0:Int):(Vector Int 32))
def rE(e:Qav):Bool:=(Qcm e).getD false
theorem rE_code(e:Qav)(h:Qde e):Qcm e=some (rE e)∧QbT e=some (rE e):=by
 obtain ⟨V,l,n,rfl,hl,_⟩:=Host.exists_mkE e h
 unfold rE
 rw [Host.right_code12 hl,Host.right_ref12 hl];exact ⟨rfl,rfl⟩
def endOk(e:Qav):Bool:=decide (e=zEnd)||rE e
def ctlT:Option (List Px)→Ctl Bool (List (Px×Bool))
 | none=>.ret false
 | some a=>.nx (tm a)
def ctlL:Option (List Px)→Ctl Bool (List Px)
 | none=>.ret false
 | some a=>.nx a
theorem owned_l1(c:S_api_Conf)(i10:Int)(l:List Px)(hl:(lget c.f_Peers i10).f_Allowed=l)(hn:l.length≤1000):∀ (k j:Nat) (all:List Px),j+k=l.length→all.length≤5000+j→Qa8.l1 c i10 (j:Int) (tm all)=some (ctlT (freshL all (l.drop j)))
 | 0,j,all,h,ha=>by
  rw [Qa8.l1.eq_def,hl,decide_eq_false (by omega),if_neg Bool.false_ne_true,List.drop_eq_nil_of_le (by omega)];rfl
 | k+1,j,all,h,ha=>by
  have hj:j<l.length:=by omega
  rw [Qa8.l1.eq_def,hl,decide_eq_true (by omega),if_pos rfl,if_pos (by omega),QbI hj,wr1 (by omega),List.drop_eq_getElem_cons hj,freshL_cons]
  by_cases hm:l[j]∈all
  ·rw [mget_yes hm,if_pos rfl,if_pos hm];rfl
  ·rw [mget_no hm,if_neg Bool.false_ne_true,if_neg hm,mput_tm _ _ hm]
   exact owned_l1 c i10 l hl hn k (j+1) (all++[l[j]]) (by omega) (by rw [List.length_append,List.length_singleton];omega)
theorem dup_l3(c:S_api_Conf)(i10:Int)(l:List Px)(hl:(lget c.f_Peers i10).f_Allowed=l)(all:List Px)(ha:all.length≤9000)(j:Nat)(hj:j<l.length):∀ (k m:Nat),m+k=all.length→QC.l3 c i10 all (j:Int) (m:Int)=some (if l[j]∈all.drop m then .ret false else .nx ())
 | 0,m,h=>by
  rw [QC.l3.eq_def,decide_eq_false (by omega),if_neg Bool.false_ne_true,List.drop_eq_nil_of_le (by omega),if_neg (by simp)]
 | k+1,m,h=>by
  have hm:m<all.length:=by omega
  have ih:=dup_l3 c i10 l hl all ha j hj k (m+1) (by omega)
  rw [QC.l3.eq_def,decide_eq_true (by omega),if_pos rfl,if_pos (by omega),QbI hm,hl,QbI hj,wr1 (by omega),List.drop_eq_getElem_cons hm]
  by_cases he:all[m]=l[j]
  ·rw [decide_eq_true he,if_pos rfl,if_pos (by rw [he];exact List.mem_cons_self ..)]
  ·have hmem:l[j]∈all[m]::all.drop (m+1)↔l[j]∈all.drop (m+1):=by
    rw [List.mem_cons]
    exact ⟨fun h=>h.elim (fun e=>absurd e.symm he) id,.inr⟩
   rw [decide_eq_false he,if_neg Bool.false_ne_true,ih]
   by_cases h2:l[j]∈all.drop (m+1)
   ·rw [if_pos h2,if_pos (hmem.2 h2)]
   ·rw [if_neg h2,if_neg (mt hmem.1 h2)]
theorem key_l1(c:S_api_Conf)(i:Nat)(hi:i<c.f_Peers.length)(hn:c.f_Peers.length≤1000):∀ (k m:Nat),m+k=i→QC.l1 c (i:Int) (m:Int)=some (if ((c.f_Peers.take i).drop m).any (fun p=>decide (p.f_Key=c.f_Peers[i].f_Key))=true then .ret false else .nx ())
 | 0,m,h=>by
  rw [QC.l1.eq_def,decide_eq_false (by omega),if_neg Bool.false_ne_true,List.drop_eq_nil_of_le (by rw [List.length_take];omega)];rfl
 | k+1,m,h=>by
  have hm:m<(c.f_Peers.take i).length:=by rw [List.length_take];omega
  have hm2:m<c.f_Peers.length:=by omega
  have ih:=key_l1 c i hi hn k (m+1) (by omega)
  rw [QC.l1.eq_def,decide_eq_true (by omega),if_pos rfl,if_pos (by omega),QbI hm2,QbI hi,wr1 (by omega),List.drop_eq_getElem_cons hm,List.any_cons,List.getElem_take]
  by_cases he:c.f_Peers[m].f_Key=c.f_Peers[i].f_Key
  ·rw [decide_eq_true he,if_pos rfl,Bool.true_or,if_pos rfl]
  ·rw [decide_eq_false he,if_neg Bool.false_ne_true,ih,Bool.false_or]
theorem add_l2(c:S_api_Conf)(i10:Int)(l:List Px)(hl:(lget c.f_Peers i10).f_Allowed=l)(hok:∀ x∈l,Qah x)(hn:l.length≤1000):∀ (k j:Nat) (all:List Px),j+k=l.length→all.length≤5000+j→(∀ p,pvOf l j=some p→rgt p=true) →
  QC.l2 c i10 all (j:Int)=some (ctlL (addL (pvOf l j) all (l.drop j)))
 | 0,j,all,h,ha,_=>by
  rw [QC.l2.eq_def,hl,decide_eq_false (by omega),if_neg Bool.false_ne_true,List.drop_eq_nil_of_le (by omega)];rfl
 | k+1,j,all,h,ha,hp=>by
  have hj:j<l.length:=by omega
  have oj:=hok l[j] (List.getElem_mem hj)
  rw [QC.l2.eq_def,hl,decide_eq_true (by omega),if_pos rfl,if_pos (by omega),QbI hj,(QdS _ oj).2.1,Qf,wr1 (by omega),List.drop_eq_getElem_cons hj,addL_cons]
  cases hr:rgt l[j] with
  | false =>
   rw [if_pos (by decide),Qf]
   dsimp only
   rw [if_neg (fun h=>by cases h.1)];rfl
  | true =>
   have ih:=add_l2 c i10 l hl hok hn k (j+1) (all++[l[j]]) (by omega) (by rw [List.length_append,List.length_singleton];omega) (fun p e=>by rw [pvOf_succ l j hj] at e;cases e;exact hr)
   rw [pvOf_succ l j hj] at ih
   rw [if_neg (by decide)]
   by_cases h0:j=0
   ·have hpv:pvOf l j=none:=by unfold pvOf;rw [if_pos h0]
    have hd:=dup_l3 c i10 l hl all (by omega) j hj all.length 0 (by omega)
    rw [show ((0:Nat):Int)=0 from rfl,List.drop_zero] at hd
    rw [decide_eq_false (by omega),if_neg Bool.false_ne_true,Qf,hpv]
    dsimp only
    rw [hd,Qf,if_pos (show (all.length+1)*32≤140737488355328 by omega)]
    by_cases hm:l[j]∈all
    ·rw [if_pos hm,if_neg (fun h=>h.2.2 hm)];rfl
    ·rw [if_neg hm,if_pos ⟨rfl,rfl,hm⟩]
     exact ih
   ·have hj1:j-1<l.length:=by omega
    have hpv:pvOf l j=some l[j-1]:=by unfold pvOf;rw [if_neg h0,List.getElem?_eq_getElem hj1]
    have hless:=(less_both (hp _ hpv) hr (hok _ (List.getElem_mem hj1)) oj).2
    have hd:=dup_l3 c i10 l hl all (by omega) j hj all.length 0 (by omega)
    rw [show ((0:Nat):Int)=0 from rfl,List.drop_zero] at hd
    rw [decide_eq_true (by omega),if_pos rfl,wrm (by omega) (by omega),if_pos (by omega),QbI hj1,hless,Qf,hpv]
    cases hlt:lessP l[j-1] l[j] with
    | false =>
     rw [if_pos (by decide),Qf]
     dsimp only
     rw [if_neg (fun h=>by have h2:lessP l[j-1] l[j]=true:=h.2.1;rw [hlt] at h2;cases h2)];rfl
    | true =>
     rw [if_neg (by decide),Qf]
     dsimp only
     rw [hd,Qf,if_pos (show (all.length+1)*32≤140737488355328 by omega)]
     by_cases hm:l[j]∈all
     ·rw [if_pos hm,if_neg (fun h=>h.2.2 hm)];rfl
     ·rw [if_neg hm,if_pos ⟨rfl,hlt,hm⟩]
      exact ih
def goR:List (Vector Int 32)→List Px→List Qao→Option (List Px)
 | _,all,[]=>some all
 | ks,all,p::r=>if p.f_Key∉ks∧shB p.f_Keep=true∧endOk p.f_End=true then (addL none all p.f_Allowed).bind fun a=>goR (ks++[p.f_Key]) a r else none
theorem goR_cons(ks:List (Vector Int 32))(all:List Px)(p:Qao)(r:List Qao):goR ks all (p::r)=if p.f_Key∉ks∧shB p.f_Keep=true∧endOk p.f_End=true then (addL none all p.f_Allowed).bind fun a=>goR (ks++[p.f_Key]) a r else none:=rfl
def ksOf(c:S_api_Conf)(i:Nat):List (Vector Int 32):=zKey::(c.f_Peers.take i).map Qao.f_Key
theorem ksOf_succ(c:S_api_Conf)(i:Nat)(h:i<c.f_Peers.length):ksOf c (i+1)=ksOf c i++[c.f_Peers[i].f_Key]:=by
 unfold ksOf
 rw [List.take_succ_eq_append_getElem h,List.map_append];rfl
structure Mod (c:S_api_Conf):Prop where
 ok:∀ p∈c.f_Peers,QeQ p
 len:c.f_Peers.length≤20
 each:∀ p∈c.f_Peers,p.f_Allowed.length≤80
theorem okAllowed{p:Qao}(h:QeQ p):∀ x∈p.f_Allowed,Qah x:=h.2.2.2.2.2.2
theorem view_loop{c:S_api_Conf}(hc:Mod c):∀ (k i:Nat) (all:List Px),i+k=c.f_Peers.length→all.length≤80*i →
  Qa8.l0 c (i:Int) (tm all) (tm (ksOf c i))=some (ctlT (goR (ksOf c i) all (c.f_Peers.drop i)))
 | 0,i,all,h,_=>by
  rw [Qa8.l0.eq_def,decide_eq_false (by omega),if_neg Bool.false_ne_true,List.drop_eq_nil_of_le (by omega)];rfl
 | k+1,i,all,h,ha=>by
  have hlen:=hc.len
  have hi:i<c.f_Peers.length:=by omega
  have hm:=List.getElem_mem hi
  have op:=hc.ok _ hm
  have h80:=hc.each _ hm
  have hg:=QbI hi
  have hon:=okAllowed op
  have hris:=rising_code c.f_Peers[i].f_Allowed hon (by omega)
  have hright:=(rE_code c.f_Peers[i].f_End op.2.2.1).1
  have hnone:Qdf c.f_Peers[i].f_End=some (decide (c.f_Peers[i].f_End=zEnd)):=rfl
  rw [Qa8.l0.eq_def,decide_eq_true (by omega),if_pos rfl,if_pos (by omega),hg,(QfU _).1,hris,hnone,hright,wr1 (by omega),List.drop_eq_getElem_cons hi,goR_cons]
  by_cases hk:c.f_Peers[i].f_Key∈ksOf c i
  ·rw [mget_yes hk,if_pos rfl,Qf,if_neg (fun h=>h.1 hk)];rfl
  ·have hks:=mput_tm _ _ hk
   rw [mget_no hk,if_neg Bool.false_ne_true,Qf,hks,←ksOf_succ c i hi]
   cases hs:shB c.f_Peers[i].f_Keep with
   | false=>rw [if_pos (by decide),Qf,if_neg (fun h=>by cases h.2.1)];rfl
   | true =>
    rw [if_neg (by decide),Qf,addL_eq]
    cases hr:risL none c.f_Peers[i].f_Allowed with
    | false =>
     rw [if_pos (by decide),Qf,if_neg Bool.false_ne_true]
     dsimp only
     split<;>rfl
    | true =>
     rw [if_neg (by decide),Qf,if_pos rfl]
     dsimp only
     have fin:∀ o:Ctl Bool (List (Px×Bool)),o=ctlT (freshL all c.f_Peers[i].f_Allowed)→(match o with | .ret r'=>some (.ret r') | .nx sq=>Qa8.l0 c ((i+1:Nat):Int) sq (tm (ksOf c (i+1))))=some (ctlT ((freshL all c.f_Peers[i].f_Allowed).bind fun a=>goR (ksOf c (i+1)) a (c.f_Peers.drop (i+1)))):=by
      intro o ho
      rw [ho]
      cases hf:freshL all c.f_Peers[i].f_Allowed with
      | none=>rfl
      | some a =>
       have hal:addL none all c.f_Peers[i].f_Allowed=some a:=by rw [addL_eq,hr,if_pos rfl,hf]
       have hlen2:a.length≤80*(i+1):=by rw [(addL_some _ _ _ _ hal).1,List.length_append];omega
       exact view_loop hc k (i+1) a (by omega) hlen2
     have ho_l1:=owned_l1 c (i:Int) c.f_Peers[i].f_Allowed (by rw [hg]) (by omega) c.f_Peers[i].f_Allowed.length 0 all (by omega) (by omega)
     rw [show ((0:Nat):Int)=0 from rfl,List.drop_zero] at ho_l1
     by_cases he:c.f_Peers[i].f_End=zEnd
     ·have hek:endOk c.f_Peers[i].f_End=true:=by unfold endOk;rw [decide_eq_true he];rfl
      rw [Qf,decide_eq_true he,if_neg (by decide),Qf]
      dsimp only
      rw [if_pos ⟨hk,rfl,hek⟩,ho_l1,Qf]
      exact fin _ rfl
     ·rw [Qf,decide_eq_false he,if_pos (by decide),Qf]
      cases hre:rE c.f_Peers[i].f_End with
      | false =>
       have hek:endOk c.f_Peers[i].f_End=false:=by unfold endOk;rw [decide_eq_false he,hre];rfl
       rw [if_pos (by decide),Qf,if_neg (fun h=>by rw [hek] at h;cases h.2.2)];rfl
      | true =>
       have hek:endOk c.f_Peers[i].f_End=true:=by unfold endOk;rw [hre,Bool.or_true]
       rw [if_neg (by decide),Qf]
       dsimp only
       rw [if_pos ⟨hk,rfl,hek⟩,ho_l1,Qf]
       exact fin _ rfl
theorem ref_loop{c:S_api_Conf}(hc:Mod c):∀ (k i:Nat) (all:List Px),i+k=c.f_Peers.length→all.length≤80*i →
  QC.l0 c all (i:Int)=some (ctlL (goR (ksOf c i) all (c.f_Peers.drop i)))
 | 0,i,all,h,_=>by
  rw [QC.l0.eq_def,decide_eq_false (by omega),if_neg Bool.false_ne_true,List.drop_eq_nil_of_le (by omega)];rfl
 | k+1,i,all,h,ha=>by
  have hlen:=hc.len
  have hi:i<c.f_Peers.length:=by omega
  have hm:=List.getElem_mem hi
  have op:=hc.ok _ hm
  have h80:=hc.each _ hm
  have hg:=QbI hi
  have hon:=okAllowed op
  have hright:=(rE_code c.f_Peers[i].f_End op.2.2.1).2
  have hkey:c.f_Peers[i].f_Key∈ksOf c i↔c.f_Peers[i].f_Key=zKey∨(c.f_Peers.take i).any (fun p=>decide (p.f_Key=c.f_Peers[i].f_Key))=true:=by
   unfold ksOf
   rw [List.mem_cons,List.any_eq_true]
   constructor
   ·rintro (h | h)
    ·exact .inl h
    ·obtain ⟨p,hp,e⟩:=List.mem_map.1 h
     exact .inr ⟨p,hp,decide_eq_true e⟩
   ·rintro (h | ⟨p,hp,e⟩)
    ·exact .inl h
    ·exact .inr (List.mem_map.2 ⟨p,hp,of_decide_eq_true e⟩)
  have hk_l1:=key_l1 c i hi (by omega) i 0 (by omega)
  have ha_l2:=add_l2 c (i:Int) c.f_Peers[i].f_Allowed (by rw [hg]) hon (by omega) c.f_Peers[i].f_Allowed.length 0 all (by omega) (by omega) (fun p e=>by cases e)
  rw [show ((0:Nat):Int)=0 from rfl,List.drop_zero] at hk_l1
  rw [show ((0:Nat):Int)=0 from rfl,List.drop_zero,pvOf_zero] at ha_l2
  rw [QC.l0.eq_def,decide_eq_true (by omega),if_pos rfl,if_pos (by omega),hg,(QfU _).2,hright,wr1 (by omega),List.drop_eq_getElem_cons hi,goR_cons]
  by_cases hz:c.f_Peers[i].f_Key=zKey
  ·rw [decide_eq_true hz,if_pos rfl,Qf,if_neg (fun h=>h.1 (hkey.2 (.inl hz)))];rfl
  ·rw [decide_eq_false hz,if_neg Bool.false_ne_true,Qf]
   cases hs:shB c.f_Peers[i].f_Keep with
   | false=>rw [if_pos (by decide),Qf,if_neg (fun h=>by cases h.2.1)];rfl
   | true =>
    rw [if_neg (by decide)]
    have fin:∀ o:Ctl Bool (List Px),o=ctlL (addL none all c.f_Peers[i].f_Allowed)→(match o with | .ret r'=>some (.ret r') | .nx sq=>QC.l0 c sq ((i+1:Nat):Int))=some (ctlL ((addL none all c.f_Peers[i].f_Allowed).bind fun a=>goR (ksOf c i++[c.f_Peers[i].f_Key]) a (c.f_Peers.drop (i+1)))):=by
     intro o ho
     rw [ho]
     cases hf:addL none all c.f_Peers[i].f_Allowed with
     | none=>rfl
     | some a =>
      have hlen2:a.length≤80*(i+1):=by rw [(addL_some _ _ _ _ hf).1,List.length_append];omega
      have:=ref_loop hc k (i+1) a (by omega) hlen2
      rw [ksOf_succ c i hi] at this
      exact this
    have tail:endOk c.f_Peers[i].f_End=true→(QC.l1 c (i:Int) 0>>=fun q36=>match q36 with | .ret r'=>some (.ret r') | .nx sq36=>(QC.l2 c (i:Int) all 0>>=fun q52=>match q52 with | .ret r'=>some (.ret r') | .nx sq52=>(QC.l0 c sq52 ((i+1:Nat):Int))))=some (ctlL (if c.f_Peers[i].f_Key∉ksOf c i∧true=true∧endOk c.f_Peers[i].f_End=true then (addL none all c.f_Peers[i].f_Allowed).bind fun a=>goR (ksOf c i++[c.f_Peers[i].f_Key]) a (c.f_Peers.drop (i+1)) else none)):=by
     intro hek
     rw [hk_l1,Qf]
     cases hany:(c.f_Peers.take i).any (fun p=>decide (p.f_Key=c.f_Peers[i].f_Key)) with
     | true=>rw [if_pos rfl,if_neg (fun h=>h.1 (hkey.2 (.inr hany)))];rfl
     | false =>
      have hk:c.f_Peers[i].f_Key∉ksOf c i:=fun h=>by
       rcases hkey.1 h with h | h
       ·exact hz h
       ·rw [hany] at h;cases h
      rw [if_neg Bool.false_ne_true,if_pos ⟨hk,rfl,hek⟩]
      dsimp only
      rw [ha_l2,Qf]
      exact fin _ rfl
    by_cases he:c.f_Peers[i].f_End=zEnd
    ·have hek:endOk c.f_Peers[i].f_End=true:=by unfold endOk;rw [decide_eq_true he];rfl
     rw [decide_eq_true he,if_neg (by decide),Qf]
     exact tail hek
    ·rw [decide_eq_false he,if_pos (by decide),Qf]
     cases hre:rE c.f_Peers[i].f_End with
     | false =>
      have hek:endOk c.f_Peers[i].f_End=false:=by unfold endOk;rw [decide_eq_false he,hre];rfl
      rw [if_pos (by decide),Qf,if_neg (fun h=>by rw [hek] at h;cases h.2.2)];rfl
     | true =>
      have hek:endOk c.f_Peers[i].f_End=true:=by unfold endOk;rw [hre,Bool.or_true]
      rw [if_neg (by decide),Qf]
      exact tail hek
def Qgh(c:S_api_Conf):Bool:=shB c.f_Port&&(decide (c.f_Peers.length≤16)&&(match goR [zKey] [] c.f_Peers with | none=>false | some a=>decide (a.length≤64)))
theorem right_code{c:S_api_Conf}(hc:Mod c):Qa8 c=some (Qgh c)∧QC c=some (Qgh c):=by
 have h1:=view_loop hc c.f_Peers.length 0 [] (by omega) (by simp)
 have h2:=ref_loop hc c.f_Peers.length 0 [] (by omega) (by simp)
 have hks:ksOf c 0=[zKey]:=by unfold ksOf;simp
 rw [show ((0:Nat):Int)=0 from rfl,List.drop_zero,hks] at h1 h2
 have h1:Qa8.l0 c 0 ([]:List (Qc×Bool)) (mput ([]:List ((Vector Int 32)×Bool)) (Vector.replicate 32 (0:Int):(Vector Int 32)) true)=_:=h1
 unfold Qa8 QC Qgh
 rw [(QfU _).1,(QfU _).2,Qf]
 cases shB c.f_Port with
 | false=>exact ⟨rfl,rfl⟩
 | true =>
  have hnt:¬ (!true)=true:=by decide
  rw [if_neg hnt,Bool.true_and]
  by_cases h16:c.f_Peers.length≤16
  ·rw [decide_eq_false (show ¬ (c.f_Peers.length:Int)>16 by omega),if_neg Bool.false_ne_true,decide_eq_true h16,Bool.true_and,Qf,Qf]
   dsimp only
   rw [h1,h2,Qf,Qf]
   cases goR [zKey] [] c.f_Peers with
   | none=>exact ⟨rfl,rfl⟩
   | some a =>
    have e:decide ((a.length:Int)≤64)=decide (a.length≤64):=decide_eq_decide.2 (by omega)
    refine ⟨?_,?_⟩
    ·show some (decide (((tm a).length:Int)≤64))=_
     rw [tm_len,e]
    ·show some (decide ((a.length:Int)≤64))=_
     rw [e]
  ·rw [decide_eq_true (show (c.f_Peers.length:Int)>16 by omega),if_pos rfl,decide_eq_false h16];exact ⟨rfl,rfl⟩
def mkEn(i:Nat)(q:Px):Qd:={ f_P:=q,f_Owner:=(i:Int) }
def ents:Nat→List Qao→List Qd
 | _,[]=>[]
 | i,p::r=>p.f_Allowed.map (mkEn i)++ents (i+1) r
theorem ents_cons(i:Nat)(p:Qao)(r:List Qao):ents i (p::r)=p.f_Allowed.map (mkEn i)++ents (i+1) r:=rfl
theorem ents_P:∀ (l:List Qao) (i:Nat),(ents i l).map Qd.f_P=l.flatMap Qao.f_Allowed
 | [],_=>rfl
 | p::r,i=>by
  rw [ents_cons,List.map_append,ents_P r,List.map_map,List.flatMap_cons]
  congr 1
  exact List.map_id _
theorem goR_some:∀ (l:List Qao) (ks:List (Vector Int 32)) (all a:List Px),goR ks all l=some a→a=all++l.flatMap Qao.f_Allowed∧(∀ q∈l.flatMap Qao.f_Allowed,rgt q=true)∧(all.Nodup→a.Nodup)
 | [],ks,all,a,h=>by cases h;exact ⟨by simp,fun q hq=>(by cases hq),id⟩
 | p::r,ks,all,a,h=>by
  rw [goR_cons] at h
  split at h
  ·cases hf:addL none all p.f_Allowed with
   | none=>rw [hf] at h;cases h
   | some b =>
    rw [hf] at h
    obtain ⟨h1,h2,h3⟩:=addL_some _ _ _ _ hf
    obtain ⟨k1,k2,k3⟩:=goR_some r _ b a h
    refine ⟨by rw [k1,h1,List.flatMap_cons,List.append_assoc],fun q hq=>?_,fun hn=>k3 (h3 hn)⟩
    rw [List.flatMap_cons] at hq
    rcases List.mem_append.1 hq with hq | hq
    ·exact h2 q hq
    ·exact k2 q hq
  ·cases h
theorem ents_ok{c:S_api_Conf}(hc:Mod c):∀ e∈ents 0 c.f_Peers,Qah e.f_P:=fun e he=>by
 have:e.f_P∈c.f_Peers.flatMap Qao.f_Allowed:=by rw [←ents_P _ 0];exact List.mem_map.2 ⟨e,he,rfl⟩
 obtain ⟨p,hp,hq⟩:=List.mem_flatMap.1 this
 exact okAllowed (hc.ok p hp) _ hq
theorem Qgr{c:S_api_Conf}(hc:Mod c)(h:Qgh c=true):(∀ e∈ents 0 c.f_Peers,rgt e.f_P=true)∧((ents 0 c.f_Peers).map Qd.f_P).Nodup∧(ents 0 c.f_Peers).length≤64:=by
 unfold Qgh at h
 rw [Bool.and_eq_true,Bool.and_eq_true] at h
 obtain ⟨_,_,h3⟩:=h
 cases hg:goR [zKey] [] c.f_Peers with
 | none=>rw [hg] at h3;cases h3
 | some a =>
  rw [hg] at h3
  have h3:=of_decide_eq_true h3
  obtain ⟨k1,k2,k3⟩:=goR_some _ _ _ _ hg
  rw [List.nil_append,←ents_P _ 0] at k1
  rw [←ents_P _ 0] at k2
  refine ⟨fun e he=>k2 _ (List.mem_map.2 ⟨e,he,rfl⟩),by rw [←k1];exact k3 List.nodup_nil,?_⟩
  have:=congrArg List.length k1
  rw [List.length_map] at this
  omega
end Go.Proofs.YtahlbjmafceoeaaGreatDoor.Lint
set_option maxRecDepth 20000
namespace Go.Proofs.YtahlbjmafceoeaaGreatDoor.Lint
open E Go.RowKit Adr Cid Agg
theorem ent_l1(c:S_api_Conf)(i:Nat)(l:List Px)(hl:(lget c.f_Peers (i:Int)).f_Allowed=l)(hi:i<c.f_Peers.length)(hn:l.length≤1000):∀ (k j:Nat) (out:List Qd),j+k=l.length→out.length≤5000+j →
  QaV.l1 c (i:Int) out (j:Int)=some (out++(l.drop j).map (mkEn i))∧Q7.l1 c (i:Int) out (j:Int)=some (out++(l.drop j).map (mkEn i))
 | 0,j,out,h,ho=>by
  rw [QaV.l1.eq_def,Q7.l1.eq_def,if_pos (show (0:Int)≤(i:Int)∧(i:Int)<(c.f_Peers.length:Int) by omega),hl,decide_eq_false (by omega),if_neg Bool.false_ne_true,if_neg Bool.false_ne_true,List.drop_eq_nil_of_le (by omega)]
  simp
 | k+1,j,out,h,ho=>by
  have hj:j<l.length:=by omega
  obtain ⟨i1,i2⟩:=ent_l1 c i l hl hi hn k (j+1) (out++[mkEn i l[j]]) (by omega) (by rw [List.length_append,List.length_singleton];omega)
  have e:out++(l.drop j).map (mkEn i)=(out++[mkEn i l[j]])++(l.drop (j+1)).map (mkEn i):=by rw [List.drop_eq_getElem_cons hj,List.map_cons,List.append_assoc];rfl
  rw [e]
  constructor
  ·rw [QaV.l1.eq_def,hl,decide_eq_true (by omega),if_pos rfl,if_pos (by omega),QbI hj,wr1 (by omega),if_pos (by omega)]
   exact i1
  ·rw [Q7.l1.eq_def,if_pos (show (0:Int)≤(i:Int)∧(i:Int)<(c.f_Peers.length:Int) by omega),hl,decide_eq_true (by omega),if_pos rfl,if_pos (by omega),if_pos (by omega),QbI hj,wr1 (by omega),if_pos (by omega)]
   exact i2
theorem ent_l0{c:S_api_Conf}(hc:Mod c):∀ (k i:Nat) (out:List Qd),i+k=c.f_Peers.length→out.length≤80*i →
  QaV.l0 c out (i:Int)=some (out++ents i (c.f_Peers.drop i))∧Q7.l0 c out (i:Int)=some (out++ents i (c.f_Peers.drop i))
 | 0,i,out,h,ho=>by
  rw [QaV.l0.eq_def,Q7.l0.eq_def,decide_eq_false (by omega),if_neg Bool.false_ne_true,if_neg Bool.false_ne_true,List.drop_eq_nil_of_le (by omega)]
  show some out=some (out++[])∧some out=some (out++[])
  rw [List.append_nil];exact ⟨rfl,rfl⟩
 | k+1,i,out,h,ho=>by
  have hlen:=hc.len
  have hi:i<c.f_Peers.length:=by omega
  have h80:=hc.each _ (List.getElem_mem hi)
  have hg:=QbI hi
  obtain ⟨j1,j2⟩:=ent_l1 c i c.f_Peers[i].f_Allowed (by rw [hg]) hi (by omega) c.f_Peers[i].f_Allowed.length 0 out (by omega) (by omega)
  rw [show ((0:Nat):Int)=0 from rfl,List.drop_zero] at j1 j2
  obtain ⟨i1,i2⟩:=ent_l0 hc k (i+1) (out++c.f_Peers[i].f_Allowed.map (mkEn i)) (by omega) (by rw [List.length_append,List.length_map];omega)
  have e:out++ents i (c.f_Peers.drop i)=(out++c.f_Peers[i].f_Allowed.map (mkEn i))++ents (i+1) (c.f_Peers.drop (i+1)):=by rw [List.drop_eq_getElem_cons hi,ents_cons];simp
  rw [e]
  constructor
  ·rw [QaV.l0.eq_def,decide_eq_true (by omega),if_pos rfl,if_pos (by omega),j1,Qf,wr1 (by omega)];exact i1
  ·rw [Q7.l0.eq_def,decide_eq_true (by omega),if_pos rfl,j2,Qf,wr1 (by omega)];exact i2
theorem ent_code{c:S_api_Conf}(hc:Mod c):QaV c=some (ents 0 c.f_Peers)∧Q7 c=some (ents 0 c.f_Peers):=by
 obtain ⟨h1,h2⟩:=ent_l0 hc c.f_Peers.length 0 [] (by omega) (by simp)
 rw [show ((0:Nat):Int)=0 from rfl,List.drop_zero,List.nil_append] at h1 h2
 unfold QaV Q7
 rw [h1,h2];exact ⟨rfl,rfl⟩
abbrev zPx:Px:=({ f_A:=({ f_V:=(0:Int),f_B:=(Vector.replicate 16 (0:Int):(Vector Int 16)) }:Qh),f_Bits:=(0:Int) }:Qc)
def mkO(kd i:Int)(P:Px):Qq:={ f_Kind:=kd,f_Peer:=i,f_P:=P }
def fS(c:S_api_Conf)(E:List Qd)(out:List Qq):QL:={ f_c:=c,f_own:=E,f_out:=out }
def gat(f:Nat→List Qq):Nat→Nat→List Qq
 | _,0=>[]
 | i,k+1=>f i++gat f (i+1) k
theorem gat_succ(f:Nat→List Qq)(i k:Nat):gat f i (k+1)=f i++gat f (i+1) k:=rfl
theorem Qgw(f:Nat→List Qq)(hf:∀ i,(f i).length≤1):∀ (k i:Nat),(gat f i k).length≤k
 | 0,_=>Nat.le_refl _
 | k+1,i=>by rw [gat_succ,List.length_append];have:=Qgw f hf k (i+1);have:=hf i;omega
def one(kd:Int)(b:Nat→Bool)(i:Nat):List Qq:=if b i=true then [mkO kd (i:Int) zPx] else []
theorem one_len(kd:Int)(b:Nat→Bool)(i:Nat):(one kd b i).length≤1:=by unfold one;split<;>simp
theorem QfS(out:List Qq)(kd:Int)(b:Nat→Bool)(i k:Nat):out++gat (one kd b) i (k+1)=(if b i=true then out++[mkO kd (i:Int) zPx] else out)++gat (one kd b) (i+1) k:=by
 rw [gat_succ]
 unfold one
 split<;>simp
def idleB(c:S_api_Conf)(i:Nat):Bool:=(((lget c.f_Peers (i:Int)).f_Allowed).length:Int)==0
theorem idle_l0(c:S_api_Conf)(E:List Qd)(o0:List Qq)(hn:c.f_Peers.length≤20):∀ (k i:Nat) (out:List Qq),i+k=c.f_Peers.length→out.length≤5000+i →
  QB.l0 (fS c E o0) (i:Int) (fS c E out)=some (fS c E (out++gat (one 2 (idleB c)) i k))
 | 0,i,out,h,ho=>by
  rw [QB.l0.eq_def]
  show (if decide ((i:Int)<(c.f_Peers.length:Int))=true then _ else _)=some (fS c E (out++[]))
  rw [decide_eq_false (by omega),if_neg Bool.false_ne_true,List.append_nil]
 | k+1,i,out,h,ho=>by
  rw [QB.l0.eq_def,wr1 (by omega),QfS]
  show (if decide ((i:Int)<(c.f_Peers.length:Int))=true then (if (0:Int)≤(i:Int)∧(i:Int)<(c.f_Peers.length:Int) then (if idleB c i=true then (if (out.length+1)*48≤140737488355328 then QB.l0 (fS c E o0) ((i+1:Nat):Int) (fS c E (out++[mkO 2 (i:Int) zPx])) else none) else QB.l0 (fS c E o0) ((i+1:Nat):Int) (fS c E out)) else none) else _)=_
  rw [decide_eq_true (by omega),if_pos rfl,if_pos (by omega),if_pos (show (out.length+1)*48≤140737488355328 by omega)]
  cases idleB c i with
  | true=>rw [if_pos rfl,if_pos rfl];exact idle_l0 c E o0 hn k (i+1) _ (by omega) (by rw [List.length_append,List.length_singleton];omega)
  | false=>rw [if_neg Bool.false_ne_true,if_neg Bool.false_ne_true];exact idle_l0 c E o0 hn k (i+1) _ (by omega) (by omega)
theorem ridle_l0(c:S_api_Conf)(hn:c.f_Peers.length≤20):∀ (k i:Nat) (out:List Qq),i+k=c.f_Peers.length→out.length≤5000+i →
  Qt.l0 c out (i:Int)=some (out++gat (one 2 (idleB c)) i k)
 | 0,i,out,h,ho=>by
  rw [Qt.l0.eq_def,decide_eq_false (by omega),if_neg Bool.false_ne_true]
  show _=some (out++[])
  rw [List.append_nil]
 | k+1,i,out,h,ho=>by
  rw [Qt.l0.eq_def,decide_eq_true (by omega),if_pos rfl,wr1 (by omega),QfS]
  show (if (0:Int)≤(i:Int)∧(i:Int)<(c.f_Peers.length:Int) then (if idleB c i=true then (if (out.length+1)*48≤140737488355328 then Qt.l0 c (out++[mkO 2 (i:Int) zPx]) ((i+1:Nat):Int) else none) else Qt.l0 c out ((i+1:Nat):Int)) else none)=_
  rw [if_pos (by omega),if_pos (show (out.length+1)*48≤140737488355328 by omega)]
  cases idleB c i with
  | true=>rw [if_pos rfl,if_pos rfl];exact ridle_l0 c hn k (i+1) _ (by omega) (by rw [List.length_append,List.length_singleton];omega)
  | false=>rw [if_neg Bool.false_ne_true,if_neg Bool.false_ne_true];exact ridle_l0 c hn k (i+1) _ (by omega) (by omega)
theorem take_lsub{α:Type}(xs:List α)(i:Nat):lsub xs 0 (i:Int)=xs.take i:=by unfold lsub;rw [Int.toNat_natCast];rfl
theorem keys_zero(v:Vector Int 32):Qd9 v=some (decide (v=zKey)):=rfl
theorem ref_zero_loop(v:Vector Int 32):∀ (k i:Nat),i+k=32→QaQ.l0 v (i:Int)=some (if (v.toList.drop i).all (fun n=>n==0)=true then .nx () else .ret false)
 | 0,i,h=>by
  rw [QaQ.l0.eq_def,decide_eq_false (by omega),if_neg Bool.false_ne_true,List.drop_eq_nil_of_le (by simp;omega)];rfl
 | k+1,i,h=>by
  have hi:i<v.toList.length:=by simp;omega
  have hg:vget v (i:Int)=v.toList[i]:=by rw [Key.vget_nat v i (by omega)];simp
  rw [QaQ.l0.eq_def,decide_eq_true (by omega),if_pos rfl,if_pos (by omega),hg,wr1 (by omega),List.drop_eq_getElem_cons hi,List.all_cons]
  cases hz:(v.toList[i]==0) with
  | true =>
   have:(v.toList[i] != 0)=false:=by rw [bne,hz];rfl
   rw [this,if_neg Bool.false_ne_true,Bool.true_and]
   exact ref_zero_loop v k (i+1) (by omega)
  | false =>
   have:(v.toList[i] != 0)=true:=by rw [bne,hz];rfl
   rw [this,if_pos rfl,Bool.false_and,if_neg Bool.false_ne_true]
theorem ref_zero(v:Vector Int 32):QaQ v=some (decide (v=zKey)):=by
 unfold QaQ
 have h:=ref_zero_loop v 32 0 rfl
 rw [show ((0:Nat):Int)=0 from rfl,List.drop_zero] at h
 rw [h,Qf]
 by_cases hz:v=zKey
 ·have:v.toList.all (fun n=>n==0)=true:=by rw [hz,Vector.toList_replicate];decide
  rw [if_pos this,decide_eq_true hz]
 ·have:¬ v.toList.all (fun n=>n==0)=true:=fun ha=>hz (by
   apply Vector.toList_inj.1
   rw [Vector.toList_replicate]
   refine List.eq_replicate_iff.2 ⟨by simp,fun n hn=>?_⟩
   exact beq_iff_eq.1 (List.all_eq_true.1 ha n hn))
  rw [if_neg this,decide_eq_false hz]
def dblB(c:S_api_Conf)(i:Nat):Bool:=(c.f_Peers.take i).any (fun p=>decide (p.f_End=(lget c.f_Peers (i:Int)).f_End))&&!decide ((lget c.f_Peers (i:Int)).f_End=zEnd)
def shaB(c:S_api_Conf)(i:Nat):Bool:=(c.f_Peers.take i).any (fun p=>decide (p.f_Psk=(lget c.f_Peers (i:Int)).f_Psk))&&!decide ((lget c.f_Peers (i:Int)).f_Psk=zKey)
theorem dbl_loop(c:S_api_Conf)(E:List Qd)(out:List Qq)(i:Nat)(hi:i<c.f_Peers.length)(hn:c.f_Peers.length≤1000):∀ (k m:Nat),m+k=i→Qas.l0 (fS c E out) (i:Int) (m:Int)=some (if (((c.f_Peers.take i).drop m).any (fun p=>decide (p.f_End=(lget c.f_Peers (i:Int)).f_End))&&!decide ((lget c.f_Peers (i:Int)).f_End=zEnd))=true then .ret true else .nx ())
 | 0,m,h=>by
  rw [Qas.l0.eq_def]
  show (if (decide ((m:Int)<((lsub c.f_Peers 0 (i:Int)).length:Int)))=true then _ else _)=_
  rw [take_lsub,decide_eq_false (by rw [List.length_take];omega),if_neg Bool.false_ne_true,List.drop_eq_nil_of_le (by rw [List.length_take];omega)];rfl
 | k+1,m,h=>by
  have hm:m<(c.f_Peers.take i).length:=by rw [List.length_take];omega
  have ih:=dbl_loop c E out i hi hn k (m+1) (by omega)
  rw [Qas.l0.eq_def]
  show (if (decide ((m:Int)<((lsub c.f_Peers 0 (i:Int)).length:Int)))=true then (if (0:Int)≤(m:Int)∧(m:Int)<((lsub c.f_Peers 0 (i:Int)).length:Int) then if (decide ((lget (lsub c.f_Peers 0 (i:Int)) (m:Int)).f_End=(lget c.f_Peers (i:Int)).f_End))=true then (some (decide ((lget c.f_Peers (i:Int)).f_End=zEnd))>>=fun t28=>if (!t28)=true then (some (.ret true)) else (Qas.l0 (fS c E out) (i:Int) (wr .i64 ((m:Int)+1)))) else (Qas.l0 (fS c E out) (i:Int) (wr .i64 ((m:Int)+1))) else none) else (some (.nx ())))=_
  rw [take_lsub,decide_eq_true (by omega),if_pos rfl,if_pos (by omega),QbI hm,wr1 (by omega),Qf,List.drop_eq_getElem_cons hm,List.any_cons,ih]
  cases decide ((List.take i c.f_Peers)[m].f_End=(lget c.f_Peers (i:Int)).f_End) with
  | false=>rw [if_neg Bool.false_ne_true,Bool.false_or]
  | true =>
   rw [if_pos rfl,Bool.true_or,Bool.true_and]
   cases decide ((lget c.f_Peers (i:Int)).f_End=zEnd) with
   | true=>rw [Bool.not_true,Bool.and_false,if_neg Bool.false_ne_true,if_neg Bool.false_ne_true]
   | false=>rw [Bool.not_false,if_pos rfl,if_pos rfl]
theorem dbl_code(c:S_api_Conf)(E:List Qd)(out:List Qq)(i:Nat)(hi:i<c.f_Peers.length)(hn:c.f_Peers.length≤1000):Qas (fS c E out) (i:Int)=some (dblB c i):=by
 have h:=dbl_loop c E out i hi hn i 0 (by omega)
 rw [show ((0:Nat):Int)=0 from rfl,List.drop_zero] at h
 unfold Qas dblB
 show (if (0:Int)≤(i:Int)∧(i:Int)<(c.f_Peers.length:Int) then if (0:Int)≤0∧(0:Int)≤(i:Int)∧(i:Int)≤(c.f_Peers.length:Int) then Qas.l0 (fS c E out) (i:Int) 0>>=_ else none else none)=_
 rw [if_pos (by omega),if_pos (by omega),h,Qf]
 cases ((c.f_Peers.take i).any (fun p=>decide (p.f_End=(lget c.f_Peers (i:Int)).f_End))&&!decide ((lget c.f_Peers (i:Int)).f_End=zEnd))<;>rfl
theorem sha_loop(c:S_api_Conf)(E:List Qd)(out:List Qq)(i:Nat)(hi:i<c.f_Peers.length)(hn:c.f_Peers.length≤1000):∀ (k m:Nat),m+k=i→Qar.l0 (fS c E out) (i:Int) (m:Int)=some (if (((c.f_Peers.take i).drop m).any (fun p=>decide (p.f_Psk=(lget c.f_Peers (i:Int)).f_Psk))&&!decide ((lget c.f_Peers (i:Int)).f_Psk=zKey))=true then .ret true else .nx ())
 | 0,m,h=>by
  rw [Qar.l0.eq_def]
  show (if (decide ((m:Int)<((lsub c.f_Peers 0 (i:Int)).length:Int)))=true then _ else _)=_
  rw [take_lsub,decide_eq_false (by rw [List.length_take];omega),if_neg Bool.false_ne_true,List.drop_eq_nil_of_le (by rw [List.length_take];omega)];rfl
 | k+1,m,h=>by
  have hm:m<(c.f_Peers.take i).length:=by rw [List.length_take];omega
  have ih:=sha_loop c E out i hi hn k (m+1) (by omega)
  rw [Qar.l0.eq_def]
  show (if (decide ((m:Int)<((lsub c.f_Peers 0 (i:Int)).length:Int)))=true then (if (0:Int)≤(m:Int)∧(m:Int)<((lsub c.f_Peers 0 (i:Int)).length:Int) then if (decide ((lget (lsub c.f_Peers 0 (i:Int)) (m:Int)).f_Psk=(lget c.f_Peers (i:Int)).f_Psk))=true then (some (decide ((lget c.f_Peers (i:Int)).f_Psk=zKey))>>=fun t28=>if (!t28)=true then (some (.ret true)) else (Qar.l0 (fS c E out) (i:Int) (wr .i64 ((m:Int)+1)))) else (Qar.l0 (fS c E out) (i:Int) (wr .i64 ((m:Int)+1))) else none) else (some (.nx ())))=_
  rw [take_lsub,decide_eq_true (by omega),if_pos rfl,if_pos (by omega),QbI hm,wr1 (by omega),Qf,List.drop_eq_getElem_cons hm,List.any_cons,ih]
  cases decide ((List.take i c.f_Peers)[m].f_Psk=(lget c.f_Peers (i:Int)).f_Psk) with
  | false=>rw [if_neg Bool.false_ne_true,Bool.false_or]
  | true =>
   rw [if_pos rfl,Bool.true_or,Bool.true_and]
   cases decide ((lget c.f_Peers (i:Int)).f_Psk=zKey) with
   | true=>rw [Bool.not_true,Bool.and_false,if_neg Bool.false_ne_true,if_neg Bool.false_ne_true]
   | false=>rw [Bool.not_false,if_pos rfl,if_pos rfl]
theorem sha_code(c:S_api_Conf)(E:List Qd)(out:List Qq)(i:Nat)(hi:i<c.f_Peers.length)(hn:c.f_Peers.length≤1000):Qar (fS c E out) (i:Int)=some (shaB c i):=by
 have h:=sha_loop c E out i hi hn i 0 (by omega)
 rw [show ((0:Nat):Int)=0 from rfl,List.drop_zero] at h
 unfold Qar shaB
 show (if (0:Int)≤(i:Int)∧(i:Int)<(c.f_Peers.length:Int) then if (0:Int)≤0∧(0:Int)≤(i:Int)∧(i:Int)≤(c.f_Peers.length:Int) then Qar.l0 (fS c E out) (i:Int) 0>>=_ else none else none)=_
 rw [if_pos (by omega),if_pos (by omega),h,Qf]
 cases ((c.f_Peers.take i).any (fun p=>decide (p.f_Psk=(lget c.f_Peers (i:Int)).f_Psk))&&!decide ((lget c.f_Peers (i:Int)).f_Psk=zKey))<;>rfl
theorem before_end(c:S_api_Conf)(i:Nat)(hi:i<c.f_Peers.length)(hn:c.f_Peers.length≤1000):∀ (k m:Nat),m+k=i→Q8.l0 c (i:Int) false (m:Int)=some (if ((c.f_Peers.take i).drop m).any (fun p=>decide (p.f_End=(lget c.f_Peers (i:Int)).f_End))=true then .ret true else .nx ())
 | 0,m,h=>by
  rw [Q8.l0.eq_def,decide_eq_false (by omega),if_neg Bool.false_ne_true,List.drop_eq_nil_of_le (by rw [List.length_take];omega)];rfl
 | k+1,m,h=>by
  have hm:m<(c.f_Peers.take i).length:=by rw [List.length_take];omega
  have hm2:m<c.f_Peers.length:=by omega
  have ih:=before_end c i hi hn k (m+1) (by omega)
  rw [Q8.l0.eq_def,decide_eq_true (by omega),if_pos rfl,if_neg Bool.false_ne_true,if_pos (by decide),if_pos (show (0:Int)≤(m:Int)∧(m:Int)<(c.f_Peers.length:Int) by omega),if_pos (by omega),QbI hm2,wr1 (by omega),List.drop_eq_getElem_cons hm,List.any_cons,List.getElem_take]
  by_cases he:c.f_Peers[m].f_End=(lget c.f_Peers (i:Int)).f_End
  ·rw [decide_eq_true he,if_pos rfl,Bool.true_or,if_pos rfl]
  ·rw [decide_eq_false he,if_neg Bool.false_ne_true,ih,Bool.false_or]
theorem before_psk(c:S_api_Conf)(i:Nat)(hi:i<c.f_Peers.length)(hn:c.f_Peers.length≤1000):∀ (k m:Nat),m+k=i→Q8.l0 c (i:Int) true (m:Int)=some (if ((c.f_Peers.take i).drop m).any (fun p=>decide (p.f_Psk=(lget c.f_Peers (i:Int)).f_Psk))=true then .ret true else .nx ())
 | 0,m,h=>by
  rw [Q8.l0.eq_def,decide_eq_false (by omega),if_neg Bool.false_ne_true,List.drop_eq_nil_of_le (by rw [List.length_take];omega)];rfl
 | k+1,m,h=>by
  have hm:m<(c.f_Peers.take i).length:=by rw [List.length_take];omega
  have hm2:m<c.f_Peers.length:=by omega
  have ih:=before_psk c i hi hn k (m+1) (by omega)
  have hnt:¬ (!true)=true:=by decide
  rw [Q8.l0.eq_def,decide_eq_true (by omega),if_pos rfl,if_pos rfl,if_pos (show (0:Int)≤(m:Int)∧(m:Int)<(c.f_Peers.length:Int) by omega),if_pos (show (0:Int)≤(i:Int)∧(i:Int)<(c.f_Peers.length:Int) by omega),QbI hm2,wr1 (by omega),List.drop_eq_getElem_cons hm,List.any_cons,List.getElem_take]
  by_cases he:c.f_Peers[m].f_Psk=(lget c.f_Peers (i:Int)).f_Psk
  ·rw [decide_eq_true he,if_pos rfl,Bool.true_or,if_pos rfl]
  ·rw [decide_eq_false he,if_neg Bool.false_ne_true,if_neg hnt,ih,Bool.false_or]
theorem before_code(c:S_api_Conf)(i:Nat)(hi:i<c.f_Peers.length)(hn:c.f_Peers.length≤1000):Q8 c (i:Int) false=some ((c.f_Peers.take i).any (fun p=>decide (p.f_End=(lget c.f_Peers (i:Int)).f_End)))∧Q8 c (i:Int) true=some ((c.f_Peers.take i).any (fun p=>decide (p.f_Psk=(lget c.f_Peers (i:Int)).f_Psk))):=by
 have h1:=before_end c i hi hn i 0 (by omega)
 have h2:=before_psk c i hi hn i 0 (by omega)
 rw [show ((0:Nat):Int)=0 from rfl,List.drop_zero] at h1 h2
 unfold Q8
 rw [h1,h2,Qf,Qf]
 constructor
 ·cases (c.f_Peers.take i).any (fun p=>decide (p.f_End=(lget c.f_Peers (i:Int)).f_End))<;>rfl
 ·cases (c.f_Peers.take i).any (fun p=>decide (p.f_Psk=(lget c.f_Peers (i:Int)).f_Psk))<;>rfl
theorem dbl_l1(c:S_api_Conf)(E:List Qd)(o0:List Qq)(hn:c.f_Peers.length≤20):∀ (k i:Nat) (out:List Qq),i+k=c.f_Peers.length→out.length≤5000+i →
  QB.l1 (fS c E o0) (i:Int) (fS c E out)=some (fS c E (out++gat (one 3 (dblB c)) i k))
 | 0,i,out,h,ho=>by
  rw [QB.l1.eq_def]
  show (if decide ((i:Int)<(c.f_Peers.length:Int))=true then _ else _)=some (fS c E (out++[]))
  rw [decide_eq_false (by omega),if_neg Bool.false_ne_true,List.append_nil]
 | k+1,i,out,h,ho=>by
  rw [QB.l1.eq_def,dbl_code c E out i (by omega) (by omega),Qf,wr1 (by omega),QfS]
  show (if decide ((i:Int)<(c.f_Peers.length:Int))=true then (if dblB c i=true then (if (out.length+1)*48≤140737488355328 then QB.l1 (fS c E o0) ((i+1:Nat):Int) (fS c E (out++[mkO 3 (i:Int) zPx])) else none) else QB.l1 (fS c E o0) ((i+1:Nat):Int) (fS c E out)) else _)=_
  rw [decide_eq_true (by omega),if_pos rfl,if_pos (show (out.length+1)*48≤140737488355328 by omega)]
  cases dblB c i with
  | true=>rw [if_pos rfl,if_pos rfl];exact dbl_l1 c E o0 hn k (i+1) _ (by omega) (by rw [List.length_append,List.length_singleton];omega)
  | false=>rw [if_neg Bool.false_ne_true,if_neg Bool.false_ne_true];exact dbl_l1 c E o0 hn k (i+1) _ (by omega) (by omega)
theorem sha_l2(c:S_api_Conf)(E:List Qd)(o0:List Qq)(hn:c.f_Peers.length≤20):∀ (k i:Nat) (out:List Qq),i+k=c.f_Peers.length→out.length≤5000+i →
  QB.l2 (fS c E o0) (i:Int) (fS c E out)=some (fS c E (out++gat (one 4 (shaB c)) i k))
 | 0,i,out,h,ho=>by
  rw [QB.l2.eq_def]
  show (if decide ((i:Int)<(c.f_Peers.length:Int))=true then _ else _)=some (fS c E (out++[]))
  rw [decide_eq_false (by omega),if_neg Bool.false_ne_true,List.append_nil]
 | k+1,i,out,h,ho=>by
  rw [QB.l2.eq_def,sha_code c E out i (by omega) (by omega),Qf,wr1 (by omega),QfS]
  show (if decide ((i:Int)<(c.f_Peers.length:Int))=true then (if shaB c i=true then (if (out.length+1)*48≤140737488355328 then QB.l2 (fS c E o0) ((i+1:Nat):Int) (fS c E (out++[mkO 4 (i:Int) zPx])) else none) else QB.l2 (fS c E o0) ((i+1:Nat):Int) (fS c E out)) else _)=_
  rw [decide_eq_true (by omega),if_pos rfl,if_pos (show (out.length+1)*48≤140737488355328 by omega)]
  cases shaB c i with
  | true=>rw [if_pos rfl,if_pos rfl];exact sha_l2 c E o0 hn k (i+1) _ (by omega) (by rw [List.length_append,List.length_singleton];omega)
  | false=>rw [if_neg Bool.false_ne_true,if_neg Bool.false_ne_true];exact sha_l2 c E o0 hn k (i+1) _ (by omega) (by omega)
theorem rdbl_l1(c:S_api_Conf)(hn:c.f_Peers.length≤20):∀ (k i:Nat) (out:List Qq),i+k=c.f_Peers.length→out.length≤5000+i →
  Qt.l1 c out (i:Int)=some (out++gat (one 3 (dblB c)) i k)
 | 0,i,out,h,ho=>by
  rw [Qt.l1.eq_def,decide_eq_false (by omega),if_neg Bool.false_ne_true]
  show _=some (out++[])
  rw [List.append_nil]
 | k+1,i,out,h,ho=>by
  rw [Qt.l1.eq_def,decide_eq_true (by omega),if_pos rfl,wr1 (by omega),QfS,if_pos (show (0:Int)≤(i:Int)∧(i:Int)<(c.f_Peers.length:Int) by omega),(before_code c i (by omega) (by omega)).1,Qf,if_pos (show (out.length+1)*48≤140737488355328 by omega)]
  unfold dblB
  cases decide ((lget c.f_Peers (i:Int)).f_End=zEnd) with
  | true =>
   rw [Bool.not_true,if_neg Bool.false_ne_true,Bool.and_false,if_neg Bool.false_ne_true]
   exact rdbl_l1 c hn k (i+1) _ (by omega) (by omega)
  | false =>
   rw [Bool.not_false,if_pos rfl,Bool.and_true]
   cases (c.f_Peers.take i).any (fun p=>decide (p.f_End=(lget c.f_Peers (i:Int)).f_End)) with
   | true=>rw [if_pos rfl,if_pos rfl];exact rdbl_l1 c hn k (i+1) _ (by omega) (by rw [List.length_append,List.length_singleton];omega)
   | false=>rw [if_neg Bool.false_ne_true,if_neg Bool.false_ne_true];exact rdbl_l1 c hn k (i+1) _ (by omega) (by omega)
theorem rsha_l2(c:S_api_Conf)(hn:c.f_Peers.length≤20):∀ (k i:Nat) (out:List Qq),i+k=c.f_Peers.length→out.length≤5000+i →
  Qt.l2 c out (i:Int)=some (out++gat (one 4 (shaB c)) i k)
 | 0,i,out,h,ho=>by
  rw [Qt.l2.eq_def,decide_eq_false (by omega),if_neg Bool.false_ne_true]
  show _=some (out++[])
  rw [List.append_nil]
 | k+1,i,out,h,ho=>by
  rw [Qt.l2.eq_def,decide_eq_true (by omega),if_pos rfl,wr1 (by omega),QfS,if_pos (show (0:Int)≤(i:Int)∧(i:Int)<(c.f_Peers.length:Int) by omega),ref_zero,Qf,(before_code c i (by omega) (by omega)).2,Qf,if_pos (show (out.length+1)*48≤140737488355328 by omega)]
  unfold shaB
  cases decide ((lget c.f_Peers (i:Int)).f_Psk=zKey) with
  | true =>
   rw [Bool.not_true,if_neg Bool.false_ne_true,Bool.and_false,if_neg Bool.false_ne_true]
   exact rsha_l2 c hn k (i+1) _ (by omega) (by omega)
  | false =>
   rw [Bool.not_false,if_pos rfl,Bool.and_true]
   cases (c.f_Peers.take i).any (fun p=>decide (p.f_Psk=(lget c.f_Peers (i:Int)).f_Psk)) with
   | true=>rw [if_pos rfl,if_pos rfl];exact rsha_l2 c hn k (i+1) _ (by omega) (by rw [List.length_append,List.length_singleton];omega)
   | false=>rw [if_neg Bool.false_ne_true,if_neg Bool.false_ne_true];exact rsha_l2 c hn k (i+1) _ (by omega) (by omega)
end Go.Proofs.YtahlbjmafceoeaaGreatDoor.Lint
set_option maxRecDepth 20000
namespace Go.Proofs.YtahlbjmafceoeaaGreatDoor.Lint
open E Go.RowKit Adr Cid Agg
def oddsE(kd:Int)(g:Px→Bool)(L:List Qd):List Qq:=(L.filter fun e=>g e.f_P).map fun e=>mkO kd e.f_Owner e.f_P
theorem oddsE_cons(kd:Int)(g:Px→Bool)(e:Qd)(L:List Qd):oddsE kd g (e::L)=if g e.f_P=true then mkO kd e.f_Owner e.f_P::oddsE kd g L else oddsE kd g L:=by
 unfold oddsE
 cases h:g e.f_P with
 | true=>rw [List.filter_cons_of_pos (p:=fun e:Qd=>g e.f_P) h,if_pos rfl];rfl
 | false=>rw [List.filter_cons_of_neg (p:=fun e:Qd=>g e.f_P) (by rw [h];decide),if_neg Bool.false_ne_true]
theorem oddsE_append(kd:Int)(g:Px→Bool)(A B:List Qd):oddsE kd g (A++B)=oddsE kd g A++oddsE kd g B:=by unfold oddsE;rw [List.filter_append,List.map_append]
theorem Qey(kd:Int)(g:Px→Bool)(L:List Qd):(oddsE kd g L).length≤L.length:=by unfold oddsE;rw [List.length_map];exact List.length_filter_le ..
theorem step_odd(out:List Qq)(kd:Int)(g:Px→Bool)(e:Qd)(L:List Qd):out++oddsE kd g (e::L)=(if g e.f_P=true then out++[mkO kd e.f_Owner e.f_P] else out)++oddsE kd g L:=by
 rw [oddsE_cons]
 split<;>simp
theorem thin_ex(E:List Qd)(hE:∀ e∈E,Qah e.f_P)(hn:E.length≤10000):∃ TH,Qbs E=some TH∧Qau E=some TH∧(TH.map Qd.f_P).Nodup∧TH.length≤E.length:=by
 obtain ⟨O,hO⟩:=counts E hE hn
 obtain ⟨T,hT,rfl,hnd⟩:=allE hO.sorted
 have hTl:T.length≤E.length:=by have:=hO.len;rwa [List.length_map] at this
 have hsub:((thinT T).map en).Sublist (T.map en):=List.filter_sublist.map _
 refine ⟨(thinT T).map en,flatThin_code E T (by omega) hT hO.code,refThin_code E T (by omega) hT hnd hO.doc,hO.sorted.nd.sublist (hsub.map _),?_⟩
 have h1:=hsub.length_le
 have h2:=hO.len
 omega
def gS(TP:List Px)(P:Px):Bool:=!(TP.any fun q=>decide (q=P))
theorem any_mem{TP:List Px}{P:Px}:(TP.any fun q=>decide (q=P))=true↔P∈TP:=by
 rw [List.any_eq_true]
 exact ⟨fun ⟨q,hq,e⟩=>of_decide_eq_true e▸hq,fun h=>⟨P,h,decide_eq_true rfl⟩⟩
theorem mget_any(TP:List Px)(P:Px):mget (tm TP) P false=TP.any fun q=>decide (q=P):=by
 by_cases h:P∈TP
 ·rw [mget_yes h,any_mem.2 h]
 ·rw [mget_no h]
  cases hb:TP.any fun q=>decide (q=P) with
  | false=>rfl
  | true=>exact absurd (any_mem.1 hb) h
theorem place_loop(TH:List Qd)(P:Px)(hn:TH.length≤10000):∀ (k i:Nat),i+k=TH.length→∃ r,QaT.l0 TH P (i:Int)=some r∧((∃ t:Int,r=.ret t∧0≤t∧(((TH.drop i).map Qd.f_P).any fun q=>decide (q=P))=true)∨(r=.nx ()∧(((TH.drop i).map Qd.f_P).any fun q=>decide (q=P))=false))
 | 0,i,h=>by
  refine ⟨.nx (),?_,.inr ⟨rfl,?_⟩⟩
  ·rw [QaT.l0.eq_def,decide_eq_false (by omega),if_neg Bool.false_ne_true]
  ·rw [List.drop_eq_nil_of_le (by omega)];rfl
 | k+1,i,h=>by
  have hi:i<TH.length:=by omega
  rw [QaT.l0.eq_def,decide_eq_true (by omega),if_pos rfl,if_pos (by omega),QbI hi,wr1 (by omega),List.drop_eq_getElem_cons hi,List.map_cons,List.any_cons]
  cases hd:decide (TH[i].f_P=P) with
  | true=>exact ⟨.ret (i:Int),by rw [if_pos rfl],.inl ⟨(i:Int),rfl,by omega,rfl⟩⟩
  | false =>
   rw [if_neg Bool.false_ne_true,Bool.false_or]
   exact place_loop TH P hn k (i+1) (by omega)
theorem place_code(TH:List Qd)(P:Px)(hn:TH.length≤10000):∃ t,QaT TH P=some t∧decide (t<0)=gS (TH.map Qd.f_P) P:=by
 obtain ⟨r,h1,h2⟩:=place_loop TH P hn TH.length 0 (by omega)
 rw [show ((0:Nat):Int)=0 from rfl] at h1
 rw [List.drop_zero] at h2
 unfold QaT gS
 rw [h1,Qf]
 rcases h2 with ⟨t,rfl,h0,h3⟩ | ⟨rfl,h3⟩
 ·exact ⟨t,rfl,by rw [h3,decide_eq_false (by omega)];rfl⟩
 ·exact ⟨-1,rfl,by rw [h3];rfl⟩
theorem map_l3(TH:List Qd)(hn:TH.length≤10000)(hnd:(TH.map Qd.f_P).Nodup):∀ (k i:Nat),i+k=TH.length→QB.l3 TH (i:Int) (tm ((TH.take i).map Qd.f_P))=some (tm (TH.map Qd.f_P))
 | 0,i,h=>by
  rw [QB.l3.eq_def,decide_eq_false (by omega),if_neg Bool.false_ne_true,List.take_of_length_le (by omega)]
 | k+1,i,h=>by
  have hi:i<TH.length:=by omega
  have h1:((TH.take (i+1)).map Qd.f_P).Nodup:=hnd.sublist ((List.take_sublist ..).map _)
  have e:(TH.take (i+1)).map Qd.f_P=(TH.take i).map Qd.f_P++[TH[i].f_P]:=by rw [List.take_succ_eq_append_getElem hi,List.map_append];rfl
  rw [e,List.nodup_append] at h1
  have hno:TH[i].f_P∉(TH.take i).map Qd.f_P:=fun hm=>h1.2.2 _ hm _ (List.mem_singleton.2 rfl) rfl
  have ih:=map_l3 TH hn hnd k (i+1) (by omega)
  rw [e] at ih
  rw [QB.l3.eq_def,decide_eq_true (by omega),if_pos rfl,if_pos (by omega),QbI hi,wr1 (by omega),mput_tm _ _ hno]
  exact ih
theorem spi_l5(c:S_api_Conf)(E:List Qd)(o0:List Qq)(TP:List Px)(i:Nat)(l:List Px)(hl:(lget c.f_Peers (i:Int)).f_Allowed=l)(hn:l.length≤1000):∀ (k j:Nat) (out:List Qq),j+k=l.length→out.length≤50000+j →
  QB.l5 (fS c E o0) (tm TP) (i:Int) (j:Int) (fS c E out)=some (fS c E (out++oddsE 5 (gS TP) ((l.drop j).map (mkEn i))))
 | 0,j,out,h,ho=>by
  rw [QB.l5.eq_def]
  show (if decide ((j:Int)<(((lget c.f_Peers (i:Int)).f_Allowed).length:Int))=true then _ else _)=_
  rw [hl,decide_eq_false (by omega),if_neg Bool.false_ne_true,List.drop_eq_nil_of_le (by omega)]
  show _=some (fS c E (out++[]))
  rw [List.append_nil]
 | k+1,j,out,h,ho=>by
  have hj:j<l.length:=by omega
  rw [QB.l5.eq_def]
  show (if decide ((j:Int)<(((lget c.f_Peers (i:Int)).f_Allowed).length:Int))=true then (if (0:Int)≤(j:Int)∧(j:Int)<(((lget c.f_Peers (i:Int)).f_Allowed).length:Int) then if (!(mget (tm TP) (lget ((lget c.f_Peers (i:Int)).f_Allowed) (j:Int)) false))=true then (if (out.length+1)*48≤140737488355328 then QB.l5 (fS c E o0) (tm TP) (i:Int) (wr .i64 ((j:Int)+1)) (fS c E (out++[mkO 5 (i:Int) (lget ((lget c.f_Peers (i:Int)).f_Allowed) (j:Int))])) else none) else (QB.l5 (fS c E o0) (tm TP) (i:Int) (wr .i64 ((j:Int)+1)) (fS c E out)) else none) else (some (fS c E out)))=_
  rw [hl,decide_eq_true (by omega),if_pos rfl,if_pos (by omega),QbI hj,wr1 (by omega),mget_any,List.drop_eq_getElem_cons hj,List.map_cons,step_odd,if_pos (show (out.length+1)*48≤140737488355328 by omega)]
  show (if gS TP l[j]=true then _ else _)=some (fS c E ((if gS TP l[j]=true then out++[mkO 5 (i:Int) l[j]] else out)++_))
  cases gS TP l[j] with
  | true=>rw [if_pos rfl,if_pos rfl];exact spi_l5 c E o0 TP i l hl hn k (j+1) _ (by omega) (by rw [List.length_append,List.length_singleton];omega)
  | false=>rw [if_neg Bool.false_ne_true,if_neg Bool.false_ne_true];exact spi_l5 c E o0 TP i l hl hn k (j+1) _ (by omega) (by omega)
theorem spo_l4{c:S_api_Conf}(hc:Mod c)(E:List Qd)(o0:List Qq)(TP:List Px):∀ (k i:Nat) (out:List Qq),i+k=c.f_Peers.length→out.length≤20000+80*i →
  QB.l4 (fS c E o0) (tm TP) (i:Int) (fS c E out)=some (fS c E (out++oddsE 5 (gS TP) (ents i (c.f_Peers.drop i))))
 | 0,i,out,h,ho=>by
  rw [QB.l4.eq_def]
  show (if decide ((i:Int)<(c.f_Peers.length:Int))=true then _ else _)=_
  rw [decide_eq_false (by omega),if_neg Bool.false_ne_true,List.drop_eq_nil_of_le (by omega)]
  show _=some (fS c E (out++[]))
  rw [List.append_nil]
 | k+1,i,out,h,ho=>by
  have hlen:=hc.len
  have hi:i<c.f_Peers.length:=by omega
  have h80:=hc.each _ (List.getElem_mem hi)
  have hj:=spi_l5 c E o0 TP i c.f_Peers[i].f_Allowed (by rw [QbI hi]) (by omega) c.f_Peers[i].f_Allowed.length 0 out (by omega) (by omega)
  rw [show ((0:Nat):Int)=0 from rfl,List.drop_zero] at hj
  rw [QB.l4.eq_def]
  show (if decide ((i:Int)<(c.f_Peers.length:Int))=true then (if (0:Int)≤(i:Int)∧(i:Int)<(c.f_Peers.length:Int) then QB.l5 (fS c E o0) (tm TP) (i:Int) 0 (fS c E out)>>=_ else none) else _)=_
  rw [decide_eq_true (by omega),if_pos rfl,if_pos (by omega),hj,Qf,wr1 (by omega),List.drop_eq_getElem_cons hi,ents_cons,oddsE_append,←List.append_assoc]
  have hol:=Qey 5 (gS TP) (c.f_Peers[i].f_Allowed.map (mkEn i))
  rw [List.length_map] at hol
  exact spo_l4 hc E o0 TP k (i+1) _ (by omega) (by rw [List.length_append];omega)
def covB(p q:Px):Bool:=(Qco p q).getD false
theorem cov_both{p q:Px}(hp:IsPf p)(hq:IsPf q):Qco p q=some (covB p q)∧Qbg p q=some (covB p q):=by
 obtain ⟨t,ht,rfl⟩:=hp
 obtain ⟨u,hu,rfl⟩:=hq
 obtain ⟨h1,h2⟩:=cov_pf ht hu
 unfold covB
 rw [h1,h2];exact ⟨rfl,rfl⟩
def inL(E:List Qd)(P:Px):List Px:=(E.filter fun e=>decide (e.f_P.f_Bits>P.f_Bits)&&covB P e.f_P).map Qd.f_P
theorem inL_cons(e:Qd)(E:List Qd)(P:Px):inL (e::E) P=if (decide (e.f_P.f_Bits>P.f_Bits)&&covB P e.f_P)=true then e.f_P::inL E P else inL E P:=by
 unfold inL
 cases h:(decide (e.f_P.f_Bits>P.f_Bits)&&covB P e.f_P) with
 | true=>rw [List.filter_cons_of_pos (p:=fun e:Qd=>decide (e.f_P.f_Bits>P.f_Bits)&&covB P e.f_P) h,if_pos rfl];rfl
 | false=>rw [List.filter_cons_of_neg (p:=fun e:Qd=>decide (e.f_P.f_Bits>P.f_Bits)&&covB P e.f_P) (by rw [h];decide),if_neg Bool.false_ne_true]
theorem inL_sub{E:List Qd}{P x:Px}(h:x∈inL E P):∃ e∈E,e.f_P=x:=by
 unfold inL at h
 obtain ⟨e,he,ex⟩:=List.mem_map.1 h
 exact ⟨e,(List.mem_filter.1 he).1,ex⟩
theorem inL_len(E:List Qd)(P:Px):(inL E P).length≤E.length:=by unfold inL;rw [List.length_map];exact List.length_filter_le ..
theorem hin_l8(c:S_api_Conf)(E:List Qd)(o0 out:List Qq)(i:Nat)(j:Int)(P:Px)(hP0:lget ((lget c.f_Peers (i:Int)).f_Allowed) j=P)(hP:IsPf P)(hE:∀ e∈E,IsPf e.f_P)(hn:E.length≤10000):∀ (k m:Nat) (acc:List Px),m+k=E.length→acc.length≤m →
  QB.l8 (fS c E o0) (i:Int) j (fS c E out) acc (m:Int)=some (acc++inL (E.drop m) P)
 | 0,m,acc,h,ha=>by
  rw [QB.l8.eq_def]
  show (if decide ((m:Int)<(E.length:Int))=true then _ else _)=_
  rw [decide_eq_false (by omega),if_neg Bool.false_ne_true,List.drop_eq_nil_of_le (by omega)]
  show _=some (acc++[])
  rw [List.append_nil]
 | k+1,m,acc,h,ha=>by
  have hm:m<E.length:=by omega
  have hcov:=(cov_both hP (hE _ (List.getElem_mem hm))).1
  have i1:=hin_l8 c E o0 out i j P hP0 hP hE hn k (m+1) (acc++[E[m].f_P]) (by omega) (by rw [List.length_append,List.length_singleton];omega)
  have i2:=hin_l8 c E o0 out i j P hP0 hP hE hn k (m+1) acc (by omega) (by omega)
  rw [QB.l8.eq_def]
  show (if decide ((m:Int)<(E.length:Int))=true then (if (0:Int)≤(m:Int)∧(m:Int)<(E.length:Int) then if (decide (((lget E (m:Int)).f_P).f_Bits>(lget ((lget c.f_Peers (i:Int)).f_Allowed) j).f_Bits))=true then (Qco (lget ((lget c.f_Peers (i:Int)).f_Allowed) j) ((lget E (m:Int)).f_P)>>=fun t266=>if t266=true then (if (acc.length+1)*32≤140737488355328 then QB.l8 (fS c E o0) (i:Int) j (fS c E out) (acc++[(lget E (m:Int)).f_P]) (wr .i64 ((m:Int)+1)) else none) else (QB.l8 (fS c E o0) (i:Int) j (fS c E out) acc (wr .i64 ((m:Int)+1)))) else (QB.l8 (fS c E o0) (i:Int) j (fS c E out) acc (wr .i64 ((m:Int)+1))) else none) else _)=_
  rw [hP0,decide_eq_true (by omega),if_pos rfl,if_pos (by omega),QbI hm,wr1 (by omega),List.drop_eq_getElem_cons hm,inL_cons,hcov,Qf,if_pos (show (acc.length+1)*32≤140737488355328 by omega),i1,i2]
  cases decide (E[m].f_P.f_Bits>P.f_Bits) with
  | false=>rw [if_neg Bool.false_ne_true,Bool.false_and,if_neg Bool.false_ne_true]
  | true =>
   rw [if_pos rfl,Bool.true_and]
   cases covB P E[m].f_P with
   | false=>rw [if_neg Bool.false_ne_true,if_neg Bool.false_ne_true]
   | true=>rw [if_pos rfl,if_pos rfl,List.append_assoc];rfl
theorem rhin(E:List Qd)(P:Px)(hP:IsPf P)(hE:∀ e∈E,IsPf e.f_P)(hn:E.length≤10000):∀ (k m:Nat) (acc:List Px),m+k=E.length→acc.length≤m →
  Qat.l0 E P acc (m:Int)=some (acc++inL (E.drop m) P)
 | 0,m,acc,h,ha=>by
  rw [Qat.l0.eq_def,decide_eq_false (by omega),if_neg Bool.false_ne_true,List.drop_eq_nil_of_le (by omega)]
  show _=some (acc++[])
  rw [List.append_nil]
 | k+1,m,acc,h,ha=>by
  have hm:m<E.length:=by omega
  have hcov:=(cov_both hP (hE _ (List.getElem_mem hm))).2
  have i1:=rhin E P hP hE hn k (m+1) (acc++[E[m].f_P]) (by omega) (by rw [List.length_append,List.length_singleton];omega)
  have i2:=rhin E P hP hE hn k (m+1) acc (by omega) (by omega)
  rw [Qat.l0.eq_def,decide_eq_true (by omega),if_pos rfl,if_pos (show (0:Int)≤(m:Int)∧(m:Int)<(E.length:Int) by omega),QbI hm,wr1 (by omega),List.drop_eq_getElem_cons hm,inL_cons,hcov,if_pos (show (0:Int)≤(m:Int)∧(m:Int)<(E.length:Int) by omega),Qf,if_pos (show (0:Int)≤(m:Int)∧(m:Int)<(E.length:Int) by omega),if_pos (show (acc.length+1)*32≤140737488355328 by omega),i1,i2]
  cases decide (E[m].f_P.f_Bits>P.f_Bits) with
  | false=>rw [if_neg Bool.false_ne_true,Bool.false_and,if_neg Bool.false_ne_true]
  | true =>
   rw [if_pos rfl,Bool.true_and]
   cases covB P E[m].f_P with
   | false=>rw [if_neg Bool.false_ne_true,if_neg Bool.false_ne_true]
   | true=>rw [if_pos rfl,if_pos rfl,List.append_assoc];rfl
theorem cover_both(xs:List Px)(hx:∀ x∈xs,Qah x)(hn:xs.length≤10000):∃ C,QaW xs=some C∧QaA xs=some C:=by
 obtain ⟨S,hS⟩:=res_of xs hx hn
 exact ⟨_,hS.cs,hS.cr⟩
def gH(E:List Qd)(P:Px):Bool:=decide ((QaW (inL E P)).getD []=[P])
theorem one_elem{β:Type}(C:List Px)(P:Px)(X Y:Option β):(if ((C.length:Int)==1)=true then (if (0:Int)≤0∧0<(C.length:Int) then if (decide (lget C 0=P))=true then X else Y else none) else Y)=if (decide (C=[P]))=true then X else Y:=by
 match C with
 | []=>rw [if_neg (by decide),if_neg (by simp)]
 | [x] =>
  have e:decide (([x]:List Px)=[P])=decide (x=P):=decide_eq_decide.2 (by simp)
  rw [if_pos (show ((([x]:List Px).length:Int)==1)=true from rfl),if_pos (show (0:Int)≤0∧0<(([x]:List Px).length:Int) from ⟨by decide,by show (0:Int)<1;decide⟩),e];rfl
 | x::y::r =>
  have h1:¬ ((((x::y::r).length:Nat):Int)==1)=true:=by
   rw [beq_iff_eq,List.length_cons,List.length_cons];omega
  rw [if_neg h1,if_neg (by simp)]
theorem okE_of{E:List Qd}(hE:∀ e∈E,IsPf e.f_P)(P:Px):∀ x∈inL E P,Qah x:=fun x hx=>by
 obtain ⟨e,he,rfl⟩:=inL_sub hx
 obtain ⟨t,ht,e2⟩:=hE e he
 rw [e2];exact ok_pf ht
theorem hidden_code(E:List Qd)(P:Px)(hP:IsPf P)(hE:∀ e∈E,IsPf e.f_P)(hn:E.length≤10000):Qat E P=some (gH E P):=by
 have h:=rhin E P hP hE hn E.length 0 [] (by omega) (by simp)
 rw [show ((0:Nat):Int)=0 from rfl,List.drop_zero,List.nil_append] at h
 obtain ⟨C,c1,c2⟩:=cover_both (inL E P) (okE_of hE P) (by have:=inL_len E P;omega)
 unfold Qat gH
 rw [h,Qf,c1,c2,Qf]
 have e:=one_elem C P (some true) (some false)
 have e2:(if (0:Int)≤0∧0<(C.length:Int) then some (decide (lget C 0=P)) else none)=(if (0:Int)≤0∧0<(C.length:Int) then if (decide (lget C 0=P))=true then some true else some false else none):=by
  cases decide (lget C 0=P)<;>rfl
 rw [e2,e]
 show _=some (decide (C=[P]))
 cases decide (C=[P])<;>rfl
theorem hii_l7(c:S_api_Conf)(E:List Qd)(hE:∀ e∈E,IsPf e.f_P)(hEn:E.length≤10000)(o0:List Qq)(i:Nat)(l:List Px)(hl:(lget c.f_Peers (i:Int)).f_Allowed=l)(hPf:∀ q∈l,IsPf q)(hn:l.length≤1000):∀ (k j:Nat) (out:List Qq),j+k=l.length→out.length≤50000+j →
  QB.l7 (fS c E o0) (i:Int) (j:Int) (fS c E out)=some (fS c E (out++oddsE 6 (gH E) ((l.drop j).map (mkEn i))))
 | 0,j,out,h,ho=>by
  rw [QB.l7.eq_def]
  show (if decide ((j:Int)<(((lget c.f_Peers (i:Int)).f_Allowed).length:Int))=true then _ else _)=_
  rw [hl,decide_eq_false (by omega),if_neg Bool.false_ne_true,List.drop_eq_nil_of_le (by omega)]
  show _=some (fS c E (out++[]))
  rw [List.append_nil]
 | k+1,j,out,h,ho=>by
  have hj:j<l.length:=by omega
  have hP0:lget ((lget c.f_Peers (i:Int)).f_Allowed) (j:Int)=l[j]:=by rw [hl,QbI hj]
  have hh:=hin_l8 c E o0 out i (j:Int) l[j] hP0 (hPf _ (List.getElem_mem hj)) hE hEn E.length 0 [] (by omega) (by simp)
  rw [show ((0:Nat):Int)=0 from rfl,List.drop_zero,List.nil_append] at hh
  obtain ⟨C,c1,c2⟩:=cover_both (inL E l[j]) (okE_of hE l[j]) (by have:=inL_len E l[j];omega)
  have hg:decide (C=[l[j]])=gH E l[j]:=by unfold gH;rw [c1];rfl
  rw [QB.l7.eq_def]
  show (if decide ((j:Int)<(((lget c.f_Peers (i:Int)).f_Allowed).length:Int))=true then (if (0:Int)≤(j:Int)∧(j:Int)<(((lget c.f_Peers (i:Int)).f_Allowed).length:Int) then QB.l8 (fS c E o0) (i:Int) (j:Int) (fS c E out) ([]:List Qc) 0>>=fun q252=>QaW q252>>=fun t272=>if ((t272.length:Int)==1)=true then (if (0:Int)≤0∧0<(t272.length:Int) then if (decide (lget t272 0=lget ((lget c.f_Peers (i:Int)).f_Allowed) (j:Int)))=true then (if (out.length+1)*48≤140737488355328 then QB.l7 (fS c E o0) (i:Int) (wr .i64 ((j:Int)+1)) (fS c E (out++[mkO 6 (i:Int) (lget ((lget c.f_Peers (i:Int)).f_Allowed) (j:Int))])) else none) else (QB.l7 (fS c E o0) (i:Int) (wr .i64 ((j:Int)+1)) (fS c E out)) else none) else (QB.l7 (fS c E o0) (i:Int) (wr .i64 ((j:Int)+1)) (fS c E out)) else none) else _)=_
  rw [hP0,hl,decide_eq_true (by omega),if_pos rfl,if_pos (by omega),hh,Qf,c1,Qf,one_elem,hg,wr1 (by omega),List.drop_eq_getElem_cons hj,List.map_cons,step_odd,if_pos (show (out.length+1)*48≤140737488355328 by omega)]
  show _=some (fS c E ((if gH E l[j]=true then out++[mkO 6 (i:Int) l[j]] else out)++_))
  cases gH E l[j] with
  | true=>rw [if_pos rfl,if_pos rfl];exact hii_l7 c E hE hEn o0 i l hl hPf hn k (j+1) _ (by omega) (by rw [List.length_append,List.length_singleton];omega)
  | false=>rw [if_neg Bool.false_ne_true,if_neg Bool.false_ne_true];exact hii_l7 c E hE hEn o0 i l hl hPf hn k (j+1) _ (by omega) (by omega)
theorem hio_l6{c:S_api_Conf}(hc:Mod c)(E:List Qd)(hE:∀ e∈E,IsPf e.f_P)(hEn:E.length≤10000)(o0:List Qq)(hPf:∀ p∈c.f_Peers,∀ q∈p.f_Allowed,IsPf q):∀ (k i:Nat) (out:List Qq),i+k=c.f_Peers.length→out.length≤20000+80*i →
  QB.l6 (fS c E o0) (i:Int) (fS c E out)=some (fS c E (out++oddsE 6 (gH E) (ents i (c.f_Peers.drop i))))
 | 0,i,out,h,ho=>by
  rw [QB.l6.eq_def]
  show (if decide ((i:Int)<(c.f_Peers.length:Int))=true then _ else _)=_
  rw [decide_eq_false (by omega),if_neg Bool.false_ne_true,List.drop_eq_nil_of_le (by omega)]
  show _=some (fS c E (out++[]))
  rw [List.append_nil]
 | k+1,i,out,h,ho=>by
  have hlen:=hc.len
  have hi:i<c.f_Peers.length:=by omega
  have h80:=hc.each _ (List.getElem_mem hi)
  have hj:=hii_l7 c E hE hEn o0 i c.f_Peers[i].f_Allowed (by rw [QbI hi]) (hPf _ (List.getElem_mem hi)) (by omega) c.f_Peers[i].f_Allowed.length 0 out (by omega) (by omega)
  rw [show ((0:Nat):Int)=0 from rfl,List.drop_zero] at hj
  rw [QB.l6.eq_def]
  show (if decide ((i:Int)<(c.f_Peers.length:Int))=true then (if (0:Int)≤(i:Int)∧(i:Int)<(c.f_Peers.length:Int) then QB.l7 (fS c E o0) (i:Int) 0 (fS c E out)>>=_ else none) else _)=_
  rw [decide_eq_true (by omega),if_pos rfl,if_pos (by omega),hj,Qf,wr1 (by omega),List.drop_eq_getElem_cons hi,ents_cons,oddsE_append,←List.append_assoc]
  have hol:=Qey 6 (gH E) (c.f_Peers[i].f_Allowed.map (mkEn i))
  rw [List.length_map] at hol
  exact hio_l6 hc E hE hEn o0 hPf k (i+1) _ (by omega) (by rw [List.length_append];omega)
theorem rkind_l4(E:List Qd)(kd:Int)(g:Px→Bool)(hg:∀ e∈E,Qbp E kd e=some (g e.f_P))(hn:E.length≤10000):∀ (k m:Nat) (out:List Qq),m+k=E.length→out.length≤50000+m →
  Qt.l4 E kd out (m:Int)=some (out++oddsE kd g (E.drop m))
 | 0,m,out,h,ho=>by
  rw [Qt.l4.eq_def,decide_eq_false (by omega),if_neg Bool.false_ne_true,List.drop_eq_nil_of_le (by omega)]
  show _=some (out++[])
  rw [List.append_nil]
 | k+1,m,out,h,ho=>by
  have hm:m<E.length:=by omega
  rw [Qt.l4.eq_def,decide_eq_true (by omega),if_pos rfl,if_pos (show (0:Int)≤(m:Int)∧(m:Int)<(E.length:Int) by omega),QbI hm,wr1 (by omega),hg _ (List.getElem_mem hm),Qf,if_pos (show (0:Int)≤(m:Int)∧(m:Int)<(E.length:Int) by omega),if_pos (show (0:Int)≤(m:Int)∧(m:Int)<(E.length:Int) by omega),if_pos (show (out.length+1)*48≤140737488355328 by omega),List.drop_eq_getElem_cons hm,step_odd]
  cases g E[m].f_P with
  | true=>rw [if_pos rfl,if_pos rfl];exact rkind_l4 E kd g hg hn k (m+1) _ (by omega) (by rw [List.length_append,List.length_singleton];omega)
  | false=>rw [if_neg Bool.false_ne_true,if_neg Bool.false_ne_true];exact rkind_l4 E kd g hg hn k (m+1) _ (by omega) (by omega)
theorem is_code{E:List Qd}{TH:List Qd}(hth:Qau E=some TH)(htl:TH.length≤10000)(hE:∀ e∈E,IsPf e.f_P)(hn:E.length≤10000):(∀ e∈E,Qbp E 5 e=some (gS (TH.map Qd.f_P) e.f_P))∧∀ e∈E,Qbp E 6 e=some (gH E e.f_P):=by
 refine ⟨fun e he=>?_,fun e he=>?_⟩
 ·obtain ⟨t,h1,h2⟩:=place_code TH e.f_P htl
  unfold Qbp
  rw [if_neg (by decide),hth,Qf,h1,Qf,h2]
 ·unfold Qbp
  rw [if_pos (by decide),hidden_code E e.f_P (hE e he) hE hn];rfl
theorem rkinds_l3(E:List Qd)(g5 g6:Px→Bool)(h5:∀ e∈E,Qbp E 5 e=some (g5 e.f_P))(h6:∀ e∈E,Qbp E 6 e=some (g6 e.f_P))(hn:E.length≤10000)(out:List Qq)(ho:out.length≤20000) :
  Qt.l3 E out 5=some ((out++oddsE 5 g5 E)++oddsE 6 g6 E):=by
 have k5:=rkind_l4 E 5 g5 h5 hn E.length 0 out (by omega) (by omega)
 have hol:=Qey 5 g5 E
 have k6:=rkind_l4 E 6 g6 h6 hn E.length 0 (out++oddsE 5 g5 E) (by omega) (by rw [List.length_append];omega)
 rw [show ((0:Nat):Int)=0 from rfl,List.drop_zero] at k5 k6
 have w5:wr .i64 (5+1)=6:=by decide
 have w6:wr .i64 (6+1)=7:=by decide
 rw [Qt.l3.eq_def,if_pos (by decide),k5,Qf,w5,Qt.l3.eq_def,if_pos (by decide),k6,Qf,w6,Qt.l3.eq_def,if_neg (by decide)]
theorem allRight{c:S_api_Conf}(hc:Mod c)(hr:Qgh c=true):∀ p∈c.f_Peers,∀ q∈p.f_Allowed,rgt q=true:=fun p hp q hq=>by
 have hm:q∈(ents 0 c.f_Peers).map Qd.f_P:=by rw [ents_P];exact List.mem_flatMap.2 ⟨p,hp,hq⟩
 obtain ⟨e,he,rfl⟩:=List.mem_map.1 hm
 exact (Qgr hc hr).1 e he
def allL(c:S_api_Conf)(TP:List Px):List Qq :=
 ((((((if decide (c.f_Private=zKey)=true then [mkO 1 (-1) zPx] else [])++gat (one 2 (idleB c)) 0 c.f_Peers.length)++gat (one 3 (dblB c)) 0 c.f_Peers.length)++gat (one 4 (shaB c)) 0 c.f_Peers.length)++oddsE 5 (gS TP) (ents 0 c.f_Peers))++oddsE 6 (gH (ents 0 c.f_Peers)) (ents 0 c.f_Peers))
theorem all_code{c:S_api_Conf}(hc:Mod c):(Qgh c=false∧QB c=some []∧Qt c=some [])∨(Qgh c=true∧∃ TP,QB c=some (allL c TP)∧Qt c=some (allL c TP)):=by
 obtain ⟨r1,r2⟩:=right_code hc
 obtain ⟨e1,e2⟩:=ent_code hc
 unfold QB Qt
 rw [r1,r2,Qf,Qf]
 cases hr:Qgh c with
 | false=>exact .inl ⟨rfl,rfl,rfl⟩
 | true =>
  right
  refine ⟨rfl,?_⟩
  obtain ⟨f1,f2,f3⟩:=Qgr hc hr
  have hlen:=hc.len
  have hE:∀ e∈ents 0 c.f_Peers,IsPf e.f_P:=fun e he=>(QdS _ (ents_ok hc e he)).2.2 (f1 e he)
  obtain ⟨TH,t1,t2,t3,t4⟩:=thin_ex (ents 0 c.f_Peers) (ents_ok hc) (by omega)
  obtain ⟨is5,is6⟩:=is_code t2 (by omega) hE (by omega)
  refine ⟨TH.map Qd.f_P,?_⟩
  have hnt:¬ (!true)=true:=by decide
  have z1:=Qgw (one 2 (idleB c)) (one_len _ _) c.f_Peers.length 0
  have z2:=Qgw (one 3 (dblB c)) (one_len _ _) c.f_Peers.length 0
  have z3:=Qgw (one 4 (shaB c)) (one_len _ _) c.f_Peers.length 0
  have z4:=Qey 5 (gS (TH.map Qd.f_P)) (ents 0 c.f_Peers)
  rw [if_neg hnt,if_neg hnt,e1,e2,Qf,keys_zero,Qf,ref_zero,Qf]
  unfold allL
  have hq:∀ f:QL→Option (List Qq),((if decide (c.f_Private=zKey)=true then (if (([]:List Qq).length+1)*48≤140737488355328 then some (fS c (ents 0 c.f_Peers) (([]:List Qq)++[QB.e0])) else none) else some (fS c (ents 0 c.f_Peers) []))>>=f)=f (fS c (ents 0 c.f_Peers) (if decide (c.f_Private=zKey)=true then [mkO 1 (-1) zPx] else [])):=by
   intro f
   cases decide (c.f_Private=zKey)<;>rfl
  have hs:∀ f:List Qq→Option (List Qq),((if decide (c.f_Private=zKey)=true then (if (([]:List Qq).length+1)*48≤140737488355328 then some (([]:List Qq)++[Qt.e0]) else none) else some ([]:List Qq))>>=f)=f (if decide (c.f_Private=zKey)=true then [mkO 1 (-1) zPx] else []):=by
   intro f
   cases decide (c.f_Private=zKey)<;>rfl
  have hl0:(if decide (c.f_Private=zKey)=true then [mkO 1 (-1) zPx] else ([]:List Qq)).length≤1:=by split<;>simp
  generalize hA:(if decide (c.f_Private=zKey)=true then [mkO 1 (-1) zPx] else ([]:List Qq))=A at *
  have k1:=idle_l0 c (ents 0 c.f_Peers) A hlen c.f_Peers.length 0 A (by omega) (by omega)
  have k2:=dbl_l1 c (ents 0 c.f_Peers) (A++gat (one 2 (idleB c)) 0 c.f_Peers.length) hlen c.f_Peers.length 0 (A++gat (one 2 (idleB c)) 0 c.f_Peers.length) (by omega) (by rw [List.length_append];omega)
  have k3:=sha_l2 c (ents 0 c.f_Peers) ((A++gat (one 2 (idleB c)) 0 c.f_Peers.length)++gat (one 3 (dblB c)) 0 c.f_Peers.length) hlen c.f_Peers.length 0 ((A++gat (one 2 (idleB c)) 0 c.f_Peers.length)++gat (one 3 (dblB c)) 0 c.f_Peers.length) (by omega) (by rw [List.length_append,List.length_append];omega)
  have k4:=map_l3 TH (by omega) t3 TH.length 0 (by omega)
  have k5:=spo_l4 hc (ents 0 c.f_Peers) (((A++gat (one 2 (idleB c)) 0 c.f_Peers.length)++gat (one 3 (dblB c)) 0 c.f_Peers.length)++gat (one 4 (shaB c)) 0 c.f_Peers.length) (TH.map Qd.f_P) c.f_Peers.length 0 (((A++gat (one 2 (idleB c)) 0 c.f_Peers.length)++gat (one 3 (dblB c)) 0 c.f_Peers.length)++gat (one 4 (shaB c)) 0 c.f_Peers.length) (by omega) (by rw [List.length_append,List.length_append,List.length_append];omega)
  have k6:=hio_l6 hc (ents 0 c.f_Peers) hE (by omega) (((((A++gat (one 2 (idleB c)) 0 c.f_Peers.length)++gat (one 3 (dblB c)) 0 c.f_Peers.length)++gat (one 4 (shaB c)) 0 c.f_Peers.length))++oddsE 5 (gS (TH.map Qd.f_P)) (ents 0 c.f_Peers)) (fun p hp q hq=>(QdS q (okAllowed (hc.ok p hp) q hq)).2.2 (allRight hc hr p hp q hq)) c.f_Peers.length 0 (((((A++gat (one 2 (idleB c)) 0 c.f_Peers.length)++gat (one 3 (dblB c)) 0 c.f_Peers.length)++gat (one 4 (shaB c)) 0 c.f_Peers.length))++oddsE 5 (gS (TH.map Qd.f_P)) (ents 0 c.f_Peers)) (by omega) (by rw [List.length_append,List.length_append,List.length_append,List.length_append];omega)
  have q1:=ridle_l0 c hlen c.f_Peers.length 0 A (by omega) (by omega)
  have q2:=rdbl_l1 c hlen c.f_Peers.length 0 (A++gat (one 2 (idleB c)) 0 c.f_Peers.length) (by omega) (by rw [List.length_append];omega)
  have q3:=rsha_l2 c hlen c.f_Peers.length 0 ((A++gat (one 2 (idleB c)) 0 c.f_Peers.length)++gat (one 3 (dblB c)) 0 c.f_Peers.length) (by omega) (by rw [List.length_append,List.length_append];omega)
  have q4:=rkinds_l3 (ents 0 c.f_Peers) _ _ is5 is6 (by omega) (((A++gat (one 2 (idleB c)) 0 c.f_Peers.length)++gat (one 3 (dblB c)) 0 c.f_Peers.length)++gat (one 4 (shaB c)) 0 c.f_Peers.length) (by rw [List.length_append,List.length_append,List.length_append];omega)
  rw [show ((0:Nat):Int)=0 from rfl] at k1 k2 k3 k4 k5 k6 q1 q2 q3
  rw [List.drop_zero] at k5 k6
  have k4:QB.l3 TH 0 ([]:List (Qc×Bool))=_:=k4
  constructor
  ·refine (hq _).trans ?_
   show (QB.l0 (fS c (ents 0 c.f_Peers) A) 0 (fS c (ents 0 c.f_Peers) A)>>=_)=_
   rw [k1,Qf,k2,Qf,k3,Qf]
   show (Qbs (ents 0 c.f_Peers)>>=_)=_
   rw [t1,Qf,k4,Qf,k5,Qf,k6,Qf];rfl
  ·refine (hs _).trans ?_
   show (Qt.l0 c A 0>>=_)=_
   rw [q1,Qf,q2,Qf,q3,Qf,Qf,q4,Qf]
end Go.Proofs.YtahlbjmafceoeaaGreatDoor.Lint
namespace Go.Proofs.YtahlbjmafceoeaaGreatDoor
open E Go.RowKit _root_.Go.Proofs.Tryz
def Qai.l0(x0:S_api_Conf)(t5:List Qq)(t8:List Qq)(i13:ByteArray)(i14:Int):Option (Ctl (Bool) (ByteArray)) :=
 if (decide (i14<(t5.length:Int)))=true then (if (0:Int)≤i14∧i14<(t5.length:Int) then if (0:Int)≤i14∧i14<(t8.length:Int) then if ((lget t5 i14).f_Kind != (lget t8 i14).f_Kind)=true then (some (.ret false)) else (if (0:Int)≤i14∧i14<(t5.length:Int) then if (0:Int)≤i14∧i14<(t8.length:Int) then if ((lget t5 i14).f_Peer != (lget t8 i14).f_Peer)=true then (some (.ret false)) else (if (0:Int)≤i14∧i14<(t5.length:Int) then if (0:Int)≤i14∧i14<(t8.length:Int) then if (!decide ((lget t5 i14).f_P=(lget t8 i14).f_P))=true then (some (.ret false)) else (if (0:Int)≤i14∧i14<(t8.length:Int) then QbZ x0 (lget t8 i14)>>=fun t50=>if i13.size+t50.size≤140737488355328 then if (i13++t50).size+(⟨#[10]⟩:ByteArray).size≤140737488355328 then Qai.l0 x0 t5 t8 ((i13++t50)++(⟨#[10]⟩:ByteArray)) (wr .i64 (i14+1)) else none else none else none) else none else none) else none else none) else none else none) else (some (.nx i13))
 partial_fixpoint
def Qai(x0:S_api_Conf):Option (Bool) :=
 QaJ x0>>=fun t2=>if t2=true then (Qbo>>=fun t4=>some t4) else (QB x0>>=fun t5=>Qt x0>>=fun t8=>if ((t5.length:Int) != (t8.length:Int))=true then (some false) else (Qai.l0 x0 t5 t8 (⟨#[]⟩) 0>>=fun q12=>match q12 with | .ret r'=>some r' | .nx sq12=>(Qbw x0>>=fun t54=>if (seq t54 sq12)=true then (Qbo>>=fun t56=>some t56) else (some false))))
set_option maxHeartbeats 3200000 in
theorem crawlwaylaw60_LintTells_ok(g0_:G_api_Conf)(x0:S_api_Conf)(r:Bool)(hF:Qai x0=some r)(w:World)(hn0:N_api_Conf w (g0_,x0))(hg_lint_words:GV_lint_words w)(hg_strconv_uint64pow10:GV_strconv_uint64pow10 w) :
    Calls Tryz.prog 3 #[.agg (Cd.cs c_api_Conf (g0_,x0)).toArray] w (fun e w'=>e=.returned (.bool r)∧Below w.heap.size w w'):=by
 unfold Qai at hF
 refine ce (l:=[.agg (Cd.cs c_api_Conf (g0_,x0)).toArray]) func3 rfl rfl ?_
 refine QN ?_
 refine sr ?_
 refine Qag (cs:=Cd.cs c_api_Conf (g0_,x0)) rfl rfl rfl ?_
 intro b1
 refine aa (nt (qs (sr ?_)))
 refine aw (Qe (c:=c_api_Conf) (z:=(g0_,x0)) isAgg27 sizeOf27 rfl (Qp .z lw)) ?_
 obtain ⟨t2,ht2,hF⟩:=bM hF
 refine cB func6 rfl (fun w hw=>Qfg _ _ _ ht2 w (N_api_Conf.below hn0 hw.below)) ?_
 refine nwq [8,1] ?_
 obtain ⟨h3,hF⟩|⟨h3,hF⟩:=oi hF
 ·refine ct h3 ?_
  refine sr ?_
  obtain ⟨t4,ht4,hF⟩:=bM hF
  refine cB func7 rfl (fun w hw=>Qdp  _ ht4 w (hg_lint_words.on hw.below) (hg_strconv_uint64pow10.on hw.below)) ?_
  refine aa (qn (dz (wq [2] ?_)))
  refine tn (rt ?_)
  have K:=os hF
  subst K
  exact r1 wb
 refine cf h3 ?_
 refine sns ?_
 refine aw (Qe (c:=c_api_Conf) (z:=(g0_,x0)) isAgg27 sizeOf27 rfl (Qp .z lw)) ?_
 obtain ⟨t5,ht5,hF⟩:=bM hF
 refine Qca (c:=Qo) (e:=40) (ys:=t5) (V:=fun p cap=>.slice p t5.length cap) func8 rfl (by kernel_rfl) rfl rfl (fun w hw=>lint_All_ok _ _ _ ht5 w (N_api_Conf.below hn0 hw.below)) ?_
 intro p6 c7
 refine aa (ns ?_)
 refine aw (Qe (c:=c_api_Conf) (z:=(g0_,x0)) isAgg27 sizeOf27 rfl (Qp (.s .z) lw)) ?_
 obtain ⟨t8,ht8,hF⟩:=bM hF
 refine Qca (c:=Qo) (e:=41) (ys:=t8) (V:=fun p cap=>.slice p t8.length cap) func9 rfl (by kernel_rfl) rfl rfl (fun w hw=>Qga _ _ _ ht8 w (N_api_Conf.below hn0 hw.below)) ?_
 intro p9 c10
 refine aa (nt (qs (sr (am ?_))))
 refine aw (Q6 underlying30 rfl) ?_
 refine am ?_
 refine aw (Q6 underlying32 rfl) ?_
 refine aw xn (nwq [18,4,3,1] ?_)
 obtain ⟨h11,hF⟩|⟨h11,hF⟩:=oi hF
 ·refine ct h11 ?_
  refine sr (aa (qn (dz (dz (dz (wq [2] ?_))))))
  refine tn (rt ?_)
  have K:=os hF
  subst K
  exact r1 wb
 refine cf h11 ?_
 refine sns (aa (nt (qs (sr (aa (nwq [6,5,4,3,1] ?_))))))
 refine qb ?_
 obtain ⟨q12,hq12,hF⟩:=bM hF
 refine wq [6,5,4,3,1] ?_
 refine QbG (B:=0) (r:=r) (q:=q12) (A:=fun sq12 Y=>At 78 [(1,.pointer (some ⟨b1,0,none⟩)),(5,.string sq12)] (Wd w [Qs b1 (Cd.cs c_api_Conf (g0_,x0)) 27]) Y) ?_ ?_
 ·intro K
  refine Qai.l0.partial_correctness x0 t5 t8 (motive:=fun i13 i14 x=>KR (fun sq12 Y=>At 78 [(1,.pointer (some ⟨b1,0,none⟩)),(5,.string sq12)] (Wd w [Qs b1 (Cd.cs c_api_Conf (g0_,x0)) 27]) Y) _ 0 r x→Round (fun Y=>At 78 [(1,.pointer (some ⟨b1,0,none⟩)),(3,.slice p6 t5.length c7),(4,.slice p9 t8.length c10),(5,.string i13),(6,.int .i64 i14)] (Wd w [rowE Qo 41 p9 c10 t8,rowE Qo 40 p6 c7 t5,Qs b1 (Cd.cs c_api_Conf (g0_,x0)) 27]) Y) _ _ _) ?_ _ _ _ hq12 K
  ·clear K hF
   intro g ih i13 i14 x hF K
   refine QS ?_
   refine qs (sr (am (am ?_)))
   refine aw (Q6 underlying30 rfl) ?_
   refine aw xl (nwq [22,6,5,4,3,1] ?_)
   obtain ⟨h15,hF⟩|⟨h15,hF⟩:=oi hF
   ·refine ct h15 ?_
    refine sn (qs ?_)
    refine qb ?_
    refine qs (qs (wq [6,5,4,3,1] ?_))
    obtain ⟨h16,hF⟩:=gd hF
    refine QaU (φ:=∃ b o,p6=some ⟨b,o,none⟩) (fun _ hw=>QR (hw.own (.s .z)).row h16) ?_
    rintro ⟨b18,o19,hp17⟩
    obtain ⟨h20,hF⟩:=gd hF
    refine QaU (φ:=∃ b o,p9=some ⟨b,o,none⟩) (fun _ hw=>QR (hw.own .z).row h20) ?_
    rintro ⟨b22,o23,hp21⟩
    obtain ⟨h24,hF⟩|⟨h24,hF⟩:=oi hF
    ·skip
     refine Qcv [.q 25 (fun g25=>.slice p6 t5.length c7) [] 0 0,.q 26 (fun g25=>.int .i64 i14) [] 0 0,.q 27 (fun g25=>.pointer (some ⟨b18,o19+Int.toNat i14*20,none⟩)) [0,1] 0 0,.q 28 (fun g25=>.pointer (some ⟨b18,o19+Int.toNat i14*20+0,none⟩)) [2] 0 0,.q 29 (fun g25=>.int .i64 ((lget t5 i14).f_Kind)) [3] 0 0,.q 30 (fun g25=>.slice p9 t8.length c10) [] 0 0,.q 31 (fun g25=>.int .i64 i14) [] 0 0,.q 32 (fun g25=>.pointer (some ⟨b22,o23+Int.toNat i14*20,none⟩)) [5,6] 0 0,.q 33 (fun g25=>.pointer (some ⟨b22,o23+Int.toNat i14*20+0,none⟩)) [7] 0 0,.q 34 (fun g25=>.int .i64 ((lget t8 i14).f_Kind)) [8] 0 0,.q 35 (fun g25=>.bool ((lget t5 i14).f_Kind != (lget t8 i14).f_Kind)) [4,9] 0 0,.q 36 (fun g25=>.bool true) [10] 0 0,.q 37 (fun g25=>undef) [11] 0 0,.q 38 (fun g25=>undef) [11] 0 0,.q 39 (fun g25=>undef) [11,12,13] 0 0,.q 40 (fun g25=>undef) [11,14] 0 0,.q 41 (fun g25=>undef) [11,15] 0 0,.q 42 (fun g25=>undef) [11] 0 0,.q 43 (fun g25=>undef) [11] 0 0,.q 44 (fun g25=>undef) [11,17,18] 0 0,.q 45 (fun g25=>undef) [11,19] 0 0,.q 46 (fun g25=>undef) [11,20] 0 0,.q 47 (fun g25=>undef) [11,16,21] 0 0,.q 48 (fun g25=>.bool true) [11,22] 0 0,.q 49 (fun g25=>.bool true) [23] 0 0,.q 50 (fun g25=>undef) [24] 0 0,.q 51 (fun g25=>undef) [24] 0 0,.q 52 (fun g25=>undef) [24,25,26] 0 0,.q 53 (fun g25=>undef) [24,27] 0 0,.q 54 (fun g25=>undef) [24,28] 0 0,.q 55 (fun g25=>undef) [24] 0 0,.q 56 (fun g25=>undef) [24] 0 0,.q 57 (fun g25=>undef) [24,30,31] 0 0,.q 58 (fun g25=>undef) [24,32] 0 0,.q 59 (fun g25=>undef) [24,33] 0 0,.q 60 (fun g25=>undef) [24,29,34] 0 0,.q 61 (fun g25=>.bool true) [24,35] 0 0] (fun g25 s=>match s with | _=>(Wd w [rowE Qo 41 p9 c10 t8,rowE Qo 40 p6 c7 t5,Qs b1 (Cd.cs c_api_Conf (g0_,x0)) 27])) 0 (by kernel_rfl) (by kernel_rfl) (by kernel_rfl) (by kernel_rfl) (by kernel_rfl) ⟨fun _ _ _=>rfl,fun _ _ _=>rfl,fun _ _ _=>rfl,fun _ _ _=>rfl,fun _ _ _=>rfl,fun _ _ _=>rfl,fun _ _ _=>rfl,fun _ _ _=>rfl,fun _ _ _=>rfl,fun _ _ _=>rfl,fun _ _ _=>rfl,fun _ _ _=>rfl,fun _ _ _=>rfl,fun _ _ _=>rfl,fun _ _ _=>rfl,fun _ _ _=>rfl,fun _ _ _=>rfl,fun _ _ _=>rfl,fun _ _ _=>rfl,fun _ _ _=>rfl,fun _ _ _=>rfl,fun _ _ _=>rfl,fun _ _ _=>rfl,fun _ _ _=>rfl,fun _ _ _=>rfl,fun _ _ _=>rfl,fun _ _ _=>rfl,fun _ _ _=>rfl,fun _ _ _=>rfl,fun _ _ _=>rfl,fun _ _ _=>rfl,fun _ _ _=>rfl,fun _ _ _=>rfl,fun _ _ _=>rfl,fun _ _ _=>rfl,fun _ _ _=>rfl,fun _ _ _=>rfl,trivial⟩ (by kernel_rfl) (fun w_ h=>⟨fun _=>g3 0 none 0 none w_,h.drew⟩) ⟨?_,?_,?_,?_,?_,?_,?_,?_,?_,?_,?_,?_,?_,?_,?_,?_,?_,?_,?_,?_,?_,?_,?_,?_,?_,?_,?_,?_,?_,?_,?_,?_,?_,?_,?_,?_,?_,trivial⟩ ?_
     ·intro Lx g25 s K hl hh k
      show At 78 ((1,_)::(3,_)::(4,_)::(5,_)::(6,_)::Lx) _ _
      refine am ?_
      exact Qn k
     ·intro Lx g25 s K hl hh k
      show At 78 ((1,_)::(3,_)::(4,_)::(5,_)::(6,_)::Lx) _ _
      refine am ?_
      exact Qn k
     ·intro Lx g25 s K hl hh k
      show At 78 ((25,_)::(26,_)::(1,_)::(3,_)::(4,_)::(5,_)::(6,_)::Lx) _ _
      refine aw (r_idx underlying30 sizeOf40 rfl rfl h16 hp17) ?_
      exact Qn k
     ·intro Lx g25 s K hl hh k
      show At 78 ((27,_)::(1,_)::(3,_)::(4,_)::(5,_)::(6,_)::Lx) _ _
      refine fa 0 underlying40 rfl sizeOf3 ?_
      exact Qn k
     ·intro Lx g25 s K hl hh k
      show At 78 ((28,_)::(1,_)::(3,_)::(4,_)::(5,_)::(6,_)::Lx) _ _
      obtain rfl:s=0:=by omega
      refine aw (Ql isAgg3 rfl (fun w1 hw=>QbK (y:=(lget t5 i14).f_Kind) (W:=fun w1=>w1=_) (fun w1 h=>by subst h;exact Below.refl _ _) (hw.own (.s .z)).row h16 hp17 (Lens.comp lw (fun z=>{ (lget t5 i14) with f_Kind:=z }) (Qaa (lget t5 i14))) rfl _ rfl)) ?_
      exact Qn k
     ·intro Lx g25 s K hl hh k
      show At 78 ((1,_)::(3,_)::(4,_)::(5,_)::(6,_)::Lx) _ _
      refine am ?_
      exact Qn k
     ·intro Lx g25 s K hl hh k
      show At 78 ((1,_)::(3,_)::(4,_)::(5,_)::(6,_)::Lx) _ _
      refine am ?_
      exact Qn k
     ·intro Lx g25 s K hl hh k
      show At 78 ((30,_)::(31,_)::(1,_)::(3,_)::(4,_)::(5,_)::(6,_)::Lx) _ _
      refine aw (r_idx underlying32 sizeOf41 rfl rfl h20 hp21) ?_
      exact Qn k
     ·intro Lx g25 s K hl hh k
      show At 78 ((32,_)::(1,_)::(3,_)::(4,_)::(5,_)::(6,_)::Lx) _ _
      refine fa 0 underlying41 rfl sizeOf3 ?_
      exact Qn k
     ·intro Lx g25 s K hl hh k
      show At 78 ((33,_)::(1,_)::(3,_)::(4,_)::(5,_)::(6,_)::Lx) _ _
      obtain rfl:s=0:=by omega
      refine aw (Ql isAgg3 rfl (fun w1 hw=>QbK (y:=(lget t8 i14).f_Kind) (W:=fun w1=>w1=_) (fun w1 h=>by subst h;exact Below.refl _ _) (hw.own .z).row h20 hp21 (Lens.comp lw (fun z=>{ (lget t8 i14) with f_Kind:=z }) (Qaa (lget t8 i14))) rfl _ rfl)) ?_
      exact Qn k
     ·intro Lx g25 s K hl hh k
      show At 78 ((29,_)::(34,_)::(1,_)::(3,_)::(4,_)::(5,_)::(6,_)::Lx) _ _
      refine aw xn ?_
      exact Qn k
     ·intro Lx g25 s K hl hh k
      show At 78 ((35,_)::(1,_)::(3,_)::(4,_)::(5,_)::(6,_)::Lx) _ _
      refine am ?_
      exact Qn (QcH h24 k)
     ·intro Lx g25 s K hl hh k
      show At 78 ((36,_)::(1,_)::(3,_)::(4,_)::(5,_)::(6,_)::Lx) _ _
      refine gn ?_
      exact Qn k
     ·intro Lx g25 s K hl hh k
      show At 78 ((36,_)::(1,_)::(3,_)::(4,_)::(5,_)::(6,_)::Lx) _ _
      refine gn ?_
      exact Qn k
     ·intro Lx g25 s K hl hh k
      show At 78 ((36,_)::(37,_)::(38,_)::(1,_)::(3,_)::(4,_)::(5,_)::(6,_)::Lx) _ _
      refine gn ?_
      exact Qn k
     ·intro Lx g25 s K hl hh k
      show At 78 ((36,_)::(39,_)::(1,_)::(3,_)::(4,_)::(5,_)::(6,_)::Lx) _ _
      refine gn ?_
      exact Qn k
     ·intro Lx g25 s K hl hh k
      show At 78 ((36,_)::(40,_)::(1,_)::(3,_)::(4,_)::(5,_)::(6,_)::Lx) _ _
      obtain rfl:s=0:=by omega
      refine gn ?_
      exact Qn k
     ·intro Lx g25 s K hl hh k
      show At 78 ((36,_)::(1,_)::(3,_)::(4,_)::(5,_)::(6,_)::Lx) _ _
      refine gn ?_
      exact Qn k
     ·intro Lx g25 s K hl hh k
      show At 78 ((36,_)::(1,_)::(3,_)::(4,_)::(5,_)::(6,_)::Lx) _ _
      refine gn ?_
      exact Qn k
     ·intro Lx g25 s K hl hh k
      show At 78 ((36,_)::(42,_)::(43,_)::(1,_)::(3,_)::(4,_)::(5,_)::(6,_)::Lx) _ _
      refine gn ?_
      exact Qn k
     ·intro Lx g25 s K hl hh k
      show At 78 ((36,_)::(44,_)::(1,_)::(3,_)::(4,_)::(5,_)::(6,_)::Lx) _ _
      refine gn ?_
      exact Qn k
     ·intro Lx g25 s K hl hh k
      show At 78 ((36,_)::(45,_)::(1,_)::(3,_)::(4,_)::(5,_)::(6,_)::Lx) _ _
      obtain rfl:s=0:=by omega
      refine gn ?_
      exact Qn k
     ·intro Lx g25 s K hl hh k
      show At 78 ((36,_)::(41,_)::(46,_)::(1,_)::(3,_)::(4,_)::(5,_)::(6,_)::Lx) _ _
      refine gn ?_
      exact Qn k
     ·intro Lx g25 s K hl hh k
      show At 78 ((36,_)::(47,_)::(1,_)::(3,_)::(4,_)::(5,_)::(6,_)::Lx) _ _
      refine aw xp ?_
      exact Qn k
     ·intro Lx g25 s K hl hh k
      show At 78 ((48,_)::(1,_)::(3,_)::(4,_)::(5,_)::(6,_)::Lx) _ _
      refine am ?_
      exact Qn k
     ·intro Lx g25 s K hl hh k
      show At 78 ((49,_)::(1,_)::(3,_)::(4,_)::(5,_)::(6,_)::Lx) _ _
      refine gn ?_
      exact Qn k
     ·intro Lx g25 s K hl hh k
      show At 78 ((49,_)::(1,_)::(3,_)::(4,_)::(5,_)::(6,_)::Lx) _ _
      refine gn ?_
      exact Qn k
     ·intro Lx g25 s K hl hh k
      show At 78 ((49,_)::(50,_)::(51,_)::(1,_)::(3,_)::(4,_)::(5,_)::(6,_)::Lx) _ _
      refine gn ?_
      exact Qn k
     ·intro Lx g25 s K hl hh k
      show At 78 ((49,_)::(52,_)::(1,_)::(3,_)::(4,_)::(5,_)::(6,_)::Lx) _ _
      refine gn ?_
      exact Qn k
     ·intro Lx g25 s K hl hh k
      show At 78 ((49,_)::(53,_)::(1,_)::(3,_)::(4,_)::(5,_)::(6,_)::Lx) _ _
      obtain rfl:s=0:=by omega
      refine gn ?_
      exact Qn k
     ·intro Lx g25 s K hl hh k
      show At 78 ((49,_)::(1,_)::(3,_)::(4,_)::(5,_)::(6,_)::Lx) _ _
      refine gn ?_
      exact Qn k
     ·intro Lx g25 s K hl hh k
      show At 78 ((49,_)::(1,_)::(3,_)::(4,_)::(5,_)::(6,_)::Lx) _ _
      refine gn ?_
      exact Qn k
     ·intro Lx g25 s K hl hh k
      show At 78 ((49,_)::(55,_)::(56,_)::(1,_)::(3,_)::(4,_)::(5,_)::(6,_)::Lx) _ _
      refine gn ?_
      exact Qn k
     ·intro Lx g25 s K hl hh k
      show At 78 ((49,_)::(57,_)::(1,_)::(3,_)::(4,_)::(5,_)::(6,_)::Lx) _ _
      refine gn ?_
      exact Qn k
     ·intro Lx g25 s K hl hh k
      show At 78 ((49,_)::(58,_)::(1,_)::(3,_)::(4,_)::(5,_)::(6,_)::Lx) _ _
      obtain rfl:s=0:=by omega
      refine gn ?_
      exact Qn k
     ·intro Lx g25 s K hl hh k
      show At 78 ((49,_)::(54,_)::(59,_)::(1,_)::(3,_)::(4,_)::(5,_)::(6,_)::Lx) _ _
      refine gn ?_
      exact Qn k
     ·intro Lx g25 s K hl hh k
      show At 78 ((49,_)::(60,_)::(1,_)::(3,_)::(4,_)::(5,_)::(6,_)::Lx) _ _
      refine aw xp ?_
      exact Qn k
     intro g25
     show At 78 [(25,_),(26,_),(27,_),(28,_),(29,_),(30,_),(31,_),(32,_),(33,_),(34,_),(35,_),(36,_),(37,_),(38,_),(39,_),(40,_),(41,_),(42,_),(43,_),(44,_),(45,_),(46,_),(47,_),(48,_),(49,_),(50,_),(51,_),(52,_),(53,_),(54,_),(55,_),(56,_),(57,_),(58,_),(59,_),(60,_),(61,_),(1,_),(3,_),(4,_),(5,_),(6,_)] _ _
     refine wq [61,6,5,4,3,1] ?_
     refine tn ?_
     refine ct rfl ?_
     refine sr (aa (qn (dz (dz (dz (wq [2] ?_))))))
     refine tn (qt ?_)
     refine tr (br (tr (tr (br (tr ?_)))))
     obtain rfl:=os hF
     subst K
     exact r1 wb
    skip
    obtain ⟨h26,hF⟩:=gd hF
    refine QaU (φ:=∃ b o,p6=some ⟨b,o,none⟩) (fun _ hw=>QR (hw.own (.s .z)).row h26) ?_
    rintro ⟨b28,o29,hp27⟩
    obtain ⟨h30,hF⟩:=gd hF
    refine QaU (φ:=∃ b o,p9=some ⟨b,o,none⟩) (fun _ hw=>QR (hw.own .z).row h30) ?_
    rintro ⟨b32,o33,hp31⟩
    obtain ⟨h34,hF⟩|⟨h34,hF⟩:=oi hF
    ·skip
     refine Qcv [.q 25 (fun g35=>.slice p6 t5.length c7) [] 0 0,.q 26 (fun g35=>.int .i64 i14) [] 0 0,.q 27 (fun g35=>.pointer (some ⟨b18,o19+Int.toNat i14*20,none⟩)) [0,1] 0 0,.q 28 (fun g35=>.pointer (some ⟨b18,o19+Int.toNat i14*20+0,none⟩)) [2] 0 0,.q 29 (fun g35=>.int .i64 ((lget t5 i14).f_Kind)) [3] 0 0,.q 30 (fun g35=>.slice p9 t8.length c10) [] 0 0,.q 31 (fun g35=>.int .i64 i14) [] 0 0,.q 32 (fun g35=>.pointer (some ⟨b22,o23+Int.toNat i14*20,none⟩)) [5,6] 0 0,.q 33 (fun g35=>.pointer (some ⟨b22,o23+Int.toNat i14*20+0,none⟩)) [7] 0 0,.q 34 (fun g35=>.int .i64 ((lget t8 i14).f_Kind)) [8] 0 0,.q 35 (fun g35=>.bool ((lget t5 i14).f_Kind != (lget t8 i14).f_Kind)) [4,9] 0 0,.q 36 (fun g35=>.bool false) [10] 0 0,.q 37 (fun g35=>.slice p6 t5.length c7) [11] 0 0,.q 38 (fun g35=>.int .i64 i14) [11] 0 0,.q 39 (fun g35=>.pointer (some ⟨b28,o29+Int.toNat i14*20,none⟩)) [11,12,13] 0 0,.q 40 (fun g35=>.pointer (some ⟨b28,o29+Int.toNat i14*20+1,none⟩)) [11,14] 0 0,.q 41 (fun g35=>.int .i64 ((lget t5 i14).f_Peer)) [11,15] 0 0,.q 42 (fun g35=>.slice p9 t8.length c10) [11] 0 0,.q 43 (fun g35=>.int .i64 i14) [11] 0 0,.q 44 (fun g35=>.pointer (some ⟨b32,o33+Int.toNat i14*20,none⟩)) [11,17,18] 0 0,.q 45 (fun g35=>.pointer (some ⟨b32,o33+Int.toNat i14*20+1,none⟩)) [11,19] 0 0,.q 46 (fun g35=>.int .i64 ((lget t8 i14).f_Peer)) [11,20] 0 0,.q 47 (fun g35=>.bool ((lget t5 i14).f_Peer != (lget t8 i14).f_Peer)) [11,16,21] 0 0,.q 48 (fun g35=>.bool ((lget t5 i14).f_Peer != (lget t8 i14).f_Peer)) [11,22] 0 0,.q 49 (fun g35=>.bool true) [23] 0 0,.q 50 (fun g35=>undef) [24] 0 0,.q 51 (fun g35=>undef) [24] 0 0,.q 52 (fun g35=>undef) [24,25,26] 0 0,.q 53 (fun g35=>undef) [24,27] 0 0,.q 54 (fun g35=>undef) [24,28] 0 0,.q 55 (fun g35=>undef) [24] 0 0,.q 56 (fun g35=>undef) [24] 0 0,.q 57 (fun g35=>undef) [24,30,31] 0 0,.q 58 (fun g35=>undef) [24,32] 0 0,.q 59 (fun g35=>undef) [24,33] 0 0,.q 60 (fun g35=>undef) [24,29,34] 0 0,.q 61 (fun g35=>.bool true) [24,35] 0 0] (fun g35 s=>match s with | _=>(Wd w [rowE Qo 41 p9 c10 t8,rowE Qo 40 p6 c7 t5,Qs b1 (Cd.cs c_api_Conf (g0_,x0)) 27])) 0 (by kernel_rfl) (by kernel_rfl) (by kernel_rfl) (by kernel_rfl) (by kernel_rfl) ⟨fun _ _ _=>rfl,fun _ _ _=>rfl,fun _ _ _=>rfl,fun _ _ _=>rfl,fun _ _ _=>rfl,fun _ _ _=>rfl,fun _ _ _=>rfl,fun _ _ _=>rfl,fun _ _ _=>rfl,fun _ _ _=>rfl,fun _ _ _=>rfl,fun _ _ _=>rfl,fun _ _ _=>rfl,fun _ _ _=>rfl,fun _ _ _=>rfl,fun _ _ _=>rfl,fun _ _ _=>rfl,fun _ _ _=>rfl,fun _ _ _=>rfl,fun _ _ _=>rfl,fun _ _ _=>rfl,fun _ _ _=>rfl,fun _ _ _=>rfl,fun _ _ _=>rfl,fun _ _ _=>rfl,fun _ _ _=>rfl,fun _ _ _=>rfl,fun _ _ _=>rfl,fun _ _ _=>rfl,fun _ _ _=>rfl,fun _ _ _=>rfl,fun _ _ _=>rfl,fun _ _ _=>rfl,fun _ _ _=>rfl,fun _ _ _=>rfl,fun _ _ _=>rfl,fun _ _ _=>rfl,trivial⟩ (by kernel_rfl) (fun w_ h=>⟨fun _=>g3 0 none 0 none w_,h.drew⟩) ⟨?_,?_,?_,?_,?_,?_,?_,?_,?_,?_,?_,?_,?_,?_,?_,?_,?_,?_,?_,?_,?_,?_,?_,?_,?_,?_,?_,?_,?_,?_,?_,?_,?_,?_,?_,?_,?_,trivial⟩ ?_
     ·intro Lx g35 s K hl hh k
      show At 78 ((1,_)::(3,_)::(4,_)::(5,_)::(6,_)::Lx) _ _
      refine am ?_
      exact Qn k
     ·intro Lx g35 s K hl hh k
      show At 78 ((1,_)::(3,_)::(4,_)::(5,_)::(6,_)::Lx) _ _
      refine am ?_
      exact Qn k
     ·intro Lx g35 s K hl hh k
      show At 78 ((25,_)::(26,_)::(1,_)::(3,_)::(4,_)::(5,_)::(6,_)::Lx) _ _
      refine aw (r_idx underlying30 sizeOf40 rfl rfl h16 hp17) ?_
      exact Qn k
     ·intro Lx g35 s K hl hh k
      show At 78 ((27,_)::(1,_)::(3,_)::(4,_)::(5,_)::(6,_)::Lx) _ _
      refine fa 0 underlying40 rfl sizeOf3 ?_
      exact Qn k
     ·intro Lx g35 s K hl hh k
      show At 78 ((28,_)::(1,_)::(3,_)::(4,_)::(5,_)::(6,_)::Lx) _ _
      obtain rfl:s=0:=by omega
      refine aw (Ql isAgg3 rfl (fun w1 hw=>QbK (y:=(lget t5 i14).f_Kind) (W:=fun w1=>w1=_) (fun w1 h=>by subst h;exact Below.refl _ _) (hw.own (.s .z)).row h16 hp17 (Lens.comp lw (fun z=>{ (lget t5 i14) with f_Kind:=z }) (Qaa (lget t5 i14))) rfl _ rfl)) ?_
      exact Qn k
     ·intro Lx g35 s K hl hh k
      show At 78 ((1,_)::(3,_)::(4,_)::(5,_)::(6,_)::Lx) _ _
      refine am ?_
      exact Qn k
     ·intro Lx g35 s K hl hh k
      show At 78 ((1,_)::(3,_)::(4,_)::(5,_)::(6,_)::Lx) _ _
      refine am ?_
      exact Qn k
     ·intro Lx g35 s K hl hh k
      show At 78 ((30,_)::(31,_)::(1,_)::(3,_)::(4,_)::(5,_)::(6,_)::Lx) _ _
      refine aw (r_idx underlying32 sizeOf41 rfl rfl h20 hp21) ?_
      exact Qn k
     ·intro Lx g35 s K hl hh k
      show At 78 ((32,_)::(1,_)::(3,_)::(4,_)::(5,_)::(6,_)::Lx) _ _
      refine fa 0 underlying41 rfl sizeOf3 ?_
      exact Qn k
     ·intro Lx g35 s K hl hh k
      show At 78 ((33,_)::(1,_)::(3,_)::(4,_)::(5,_)::(6,_)::Lx) _ _
      obtain rfl:s=0:=by omega
      refine aw (Ql isAgg3 rfl (fun w1 hw=>QbK (y:=(lget t8 i14).f_Kind) (W:=fun w1=>w1=_) (fun w1 h=>by subst h;exact Below.refl _ _) (hw.own .z).row h20 hp21 (Lens.comp lw (fun z=>{ (lget t8 i14) with f_Kind:=z }) (Qaa (lget t8 i14))) rfl _ rfl)) ?_
      exact Qn k
     ·intro Lx g35 s K hl hh k
      show At 78 ((29,_)::(34,_)::(1,_)::(3,_)::(4,_)::(5,_)::(6,_)::Lx) _ _
      refine aw xn ?_
      exact Qn k
     ·intro Lx g35 s K hl hh k
      show At 78 ((35,_)::(1,_)::(3,_)::(4,_)::(5,_)::(6,_)::Lx) _ _
      refine am ?_
      exact Qn (QcH h24 k)
     ·intro Lx g35 s K hl hh k
      show At 78 ((36,_)::(1,_)::(3,_)::(4,_)::(5,_)::(6,_)::Lx) _ _
      refine gy ?_
      refine am ?_
      exact Qn k
     ·intro Lx g35 s K hl hh k
      show At 78 ((36,_)::(1,_)::(3,_)::(4,_)::(5,_)::(6,_)::Lx) _ _
      refine gy ?_
      refine am ?_
      exact Qn k
     ·intro Lx g35 s K hl hh k
      show At 78 ((36,_)::(37,_)::(38,_)::(1,_)::(3,_)::(4,_)::(5,_)::(6,_)::Lx) _ _
      refine gy ?_
      refine aw (r_idx underlying30 sizeOf40 rfl rfl h26 hp27) ?_
      exact Qn k
     ·intro Lx g35 s K hl hh k
      show At 78 ((36,_)::(39,_)::(1,_)::(3,_)::(4,_)::(5,_)::(6,_)::Lx) _ _
      refine gy ?_
      refine fa 1 underlying40 rfl sizeOf3 ?_
      exact Qn k
     ·intro Lx g35 s K hl hh k
      show At 78 ((36,_)::(40,_)::(1,_)::(3,_)::(4,_)::(5,_)::(6,_)::Lx) _ _
      refine gy ?_
      obtain rfl:s=0:=by omega
      refine aw (Ql isAgg3 rfl (fun w1 hw=>QbK (y:=(lget t5 i14).f_Peer) (W:=fun w1=>w1=_) (fun w1 h=>by subst h;exact Below.refl _ _) (hw.own (.s .z)).row h26 hp27 (Lens.comp lw (fun z=>{ (lget t5 i14) with f_Peer:=z }) (Qac (lget t5 i14))) rfl _ rfl)) ?_
      exact Qn k
     ·intro Lx g35 s K hl hh k
      show At 78 ((36,_)::(1,_)::(3,_)::(4,_)::(5,_)::(6,_)::Lx) _ _
      refine gy ?_
      refine am ?_
      exact Qn k
     ·intro Lx g35 s K hl hh k
      show At 78 ((36,_)::(1,_)::(3,_)::(4,_)::(5,_)::(6,_)::Lx) _ _
      refine gy ?_
      refine am ?_
      exact Qn k
     ·intro Lx g35 s K hl hh k
      show At 78 ((36,_)::(42,_)::(43,_)::(1,_)::(3,_)::(4,_)::(5,_)::(6,_)::Lx) _ _
      refine gy ?_
      refine aw (r_idx underlying32 sizeOf41 rfl rfl h30 hp31) ?_
      exact Qn k
     ·intro Lx g35 s K hl hh k
      show At 78 ((36,_)::(44,_)::(1,_)::(3,_)::(4,_)::(5,_)::(6,_)::Lx) _ _
      refine gy ?_
      refine fa 1 underlying41 rfl sizeOf3 ?_
      exact Qn k
     ·intro Lx g35 s K hl hh k
      show At 78 ((36,_)::(45,_)::(1,_)::(3,_)::(4,_)::(5,_)::(6,_)::Lx) _ _
      refine gy ?_
      obtain rfl:s=0:=by omega
      refine aw (Ql isAgg3 rfl (fun w1 hw=>QbK (y:=(lget t8 i14).f_Peer) (W:=fun w1=>w1=_) (fun w1 h=>by subst h;exact Below.refl _ _) (hw.own .z).row h30 hp31 (Lens.comp lw (fun z=>{ (lget t8 i14) with f_Peer:=z }) (Qac (lget t8 i14))) rfl _ rfl)) ?_
      exact Qn k
     ·intro Lx g35 s K hl hh k
      show At 78 ((36,_)::(41,_)::(46,_)::(1,_)::(3,_)::(4,_)::(5,_)::(6,_)::Lx) _ _
      refine gy ?_
      refine aw xn ?_
      exact Qn k
     ·intro Lx g35 s K hl hh k
      show At 78 ((36,_)::(47,_)::(1,_)::(3,_)::(4,_)::(5,_)::(6,_)::Lx) _ _
      refine aw xp ?_
      exact Qn k
     ·intro Lx g35 s K hl hh k
      show At 78 ((48,_)::(1,_)::(3,_)::(4,_)::(5,_)::(6,_)::Lx) _ _
      refine am ?_
      exact Qn (QcH h34 k)
     ·intro Lx g35 s K hl hh k
      show At 78 ((49,_)::(1,_)::(3,_)::(4,_)::(5,_)::(6,_)::Lx) _ _
      refine gn ?_
      exact Qn k
     ·intro Lx g35 s K hl hh k
      show At 78 ((49,_)::(1,_)::(3,_)::(4,_)::(5,_)::(6,_)::Lx) _ _
      refine gn ?_
      exact Qn k
     ·intro Lx g35 s K hl hh k
      show At 78 ((49,_)::(50,_)::(51,_)::(1,_)::(3,_)::(4,_)::(5,_)::(6,_)::Lx) _ _
      refine gn ?_
      exact Qn k
     ·intro Lx g35 s K hl hh k
      show At 78 ((49,_)::(52,_)::(1,_)::(3,_)::(4,_)::(5,_)::(6,_)::Lx) _ _
      refine gn ?_
      exact Qn k
     ·intro Lx g35 s K hl hh k
      show At 78 ((49,_)::(53,_)::(1,_)::(3,_)::(4,_)::(5,_)::(6,_)::Lx) _ _
      obtain rfl:s=0:=by omega
      refine gn ?_
      exact Qn k
     ·intro Lx g35 s K hl hh k
      show At 78 ((49,_)::(1,_)::(3,_)::(4,_)::(5,_)::(6,_)::Lx) _ _
      refine gn ?_
      exact Qn k
     ·intro Lx g35 s K hl hh k
      show At 78 ((49,_)::(1,_)::(3,_)::(4,_)::(5,_)::(6,_)::Lx) _ _
      refine gn ?_
      exact Qn k
     ·intro Lx g35 s K hl hh k
      show At 78 ((49,_)::(55,_)::(56,_)::(1,_)::(3,_)::(4,_)::(5,_)::(6,_)::Lx) _ _
      refine gn ?_
      exact Qn k
     ·intro Lx g35 s K hl hh k
      show At 78 ((49,_)::(57,_)::(1,_)::(3,_)::(4,_)::(5,_)::(6,_)::Lx) _ _
      refine gn ?_
      exact Qn k
     ·intro Lx g35 s K hl hh k
      show At 78 ((49,_)::(58,_)::(1,_)::(3,_)::(4,_)::(5,_)::(6,_)::Lx) _ _
      obtain rfl:s=0:=by omega
      refine gn ?_
      exact Qn k
     ·intro Lx g35 s K hl hh k
      show At 78 ((49,_)::(54,_)::(59,_)::(1,_)::(3,_)::(4,_)::(5,_)::(6,_)::Lx) _ _
      refine gn ?_
      exact Qn k
     ·intro Lx g35 s K hl hh k
      show At 78 ((49,_)::(60,_)::(1,_)::(3,_)::(4,_)::(5,_)::(6,_)::Lx) _ _
      refine aw xp ?_
      exact Qn k
     intro g35
     show At 78 [(25,_),(26,_),(27,_),(28,_),(29,_),(30,_),(31,_),(32,_),(33,_),(34,_),(35,_),(36,_),(37,_),(38,_),(39,_),(40,_),(41,_),(42,_),(43,_),(44,_),(45,_),(46,_),(47,_),(48,_),(49,_),(50,_),(51,_),(52,_),(53,_),(54,_),(55,_),(56,_),(57,_),(58,_),(59,_),(60,_),(61,_),(1,_),(3,_),(4,_),(5,_),(6,_)] _ _
     refine wq [61,6,5,4,3,1] ?_
     refine tn ?_
     refine ct rfl ?_
     refine sr (aa (qn (dz (dz (dz (wq [2] ?_))))))
     refine tn (qt ?_)
     refine tr (br (tr (tr (br (tr ?_)))))
     obtain rfl:=os hF
     subst K
     exact r1 wb
    skip
    obtain ⟨h36,hF⟩:=gd hF
    refine QaU (φ:=∃ b o,p6=some ⟨b,o,none⟩) (fun _ hw=>QR (hw.own (.s .z)).row h36) ?_
    rintro ⟨b38,o39,hp37⟩
    obtain ⟨h40,hF⟩:=gd hF
    refine QaU (φ:=∃ b o,p9=some ⟨b,o,none⟩) (fun _ hw=>QR (hw.own .z).row h40) ?_
    rintro ⟨b42,o43,hp41⟩
    refine Qcv [.q 25 (fun g44=>.slice p6 t5.length c7) [] 0 0,.q 26 (fun g44=>.int .i64 i14) [] 0 0,.q 27 (fun g44=>.pointer (some ⟨b18,o19+Int.toNat i14*20,none⟩)) [0,1] 0 0,.q 28 (fun g44=>.pointer (some ⟨b18,o19+Int.toNat i14*20+0,none⟩)) [2] 0 0,.q 29 (fun g44=>.int .i64 ((lget t5 i14).f_Kind)) [3] 0 0,.q 30 (fun g44=>.slice p9 t8.length c10) [] 0 0,.q 31 (fun g44=>.int .i64 i14) [] 0 0,.q 32 (fun g44=>.pointer (some ⟨b22,o23+Int.toNat i14*20,none⟩)) [5,6] 0 0,.q 33 (fun g44=>.pointer (some ⟨b22,o23+Int.toNat i14*20+0,none⟩)) [7] 0 0,.q 34 (fun g44=>.int .i64 ((lget t8 i14).f_Kind)) [8] 0 0,.q 35 (fun g44=>.bool ((lget t5 i14).f_Kind != (lget t8 i14).f_Kind)) [4,9] 0 0,.q 36 (fun g44=>.bool false) [10] 0 0,.q 37 (fun g44=>.slice p6 t5.length c7) [11] 0 0,.q 38 (fun g44=>.int .i64 i14) [11] 0 0,.q 39 (fun g44=>.pointer (some ⟨b28,o29+Int.toNat i14*20,none⟩)) [11,12,13] 0 0,.q 40 (fun g44=>.pointer (some ⟨b28,o29+Int.toNat i14*20+1,none⟩)) [11,14] 0 0,.q 41 (fun g44=>.int .i64 ((lget t5 i14).f_Peer)) [11,15] 0 0,.q 42 (fun g44=>.slice p9 t8.length c10) [11] 0 0,.q 43 (fun g44=>.int .i64 i14) [11] 0 0,.q 44 (fun g44=>.pointer (some ⟨b32,o33+Int.toNat i14*20,none⟩)) [11,17,18] 0 0,.q 45 (fun g44=>.pointer (some ⟨b32,o33+Int.toNat i14*20+1,none⟩)) [11,19] 0 0,.q 46 (fun g44=>.int .i64 ((lget t8 i14).f_Peer)) [11,20] 0 0,.q 47 (fun g44=>.bool ((lget t5 i14).f_Peer != (lget t8 i14).f_Peer)) [11,16,21] 0 0,.q 48 (fun g44=>.bool ((lget t5 i14).f_Peer != (lget t8 i14).f_Peer)) [11,22] 0 0,.q 49 (fun g44=>.bool false) [23] 0 0,.q 50 (fun g44=>.slice p6 t5.length c7) [24] 0 0,.q 51 (fun g44=>.int .i64 i14) [24] 0 0,.q 52 (fun g44=>.pointer (some ⟨b38,o39+Int.toNat i14*20,none⟩)) [24,25,26] 0 0,.q 53 (fun g44=>.pointer (some ⟨b38,o39+Int.toNat i14*20+2,none⟩)) [24,27] 0 0,.q 54 (fun g44=>.agg (Cd.cs Qa ((lget t5 i14).f_P)).toArray) [24,28] 0 0,.q 55 (fun g44=>.slice p9 t8.length c10) [24] 0 0,.q 56 (fun g44=>.int .i64 i14) [24] 0 0,.q 57 (fun g44=>.pointer (some ⟨b42,o43+Int.toNat i14*20,none⟩)) [24,30,31] 0 0,.q 58 (fun g44=>.pointer (some ⟨b42,o43+Int.toNat i14*20+2,none⟩)) [24,32] 0 0,.q 59 (fun g44=>.agg (Cd.cs Qa ((lget t8 i14).f_P)).toArray) [24,33] 0 0,.q 60 (fun g44=>.bool (!decide ((lget t5 i14).f_P=(lget t8 i14).f_P))) [24,29,34] 0 0,.q 61 (fun g44=>.bool (!decide ((lget t5 i14).f_P=(lget t8 i14).f_P))) [24,35] 0 0] (fun g44 s=>match s with | _=>(Wd w [rowE Qo 41 p9 c10 t8,rowE Qo 40 p6 c7 t5,Qs b1 (Cd.cs c_api_Conf (g0_,x0)) 27])) 0 (by kernel_rfl) (by kernel_rfl) (by kernel_rfl) (by kernel_rfl) (by kernel_rfl) ⟨fun _ _ _=>rfl,fun _ _ _=>rfl,fun _ _ _=>rfl,fun _ _ _=>rfl,fun _ _ _=>rfl,fun _ _ _=>rfl,fun _ _ _=>rfl,fun _ _ _=>rfl,fun _ _ _=>rfl,fun _ _ _=>rfl,fun _ _ _=>rfl,fun _ _ _=>rfl,fun _ _ _=>rfl,fun _ _ _=>rfl,fun _ _ _=>rfl,fun _ _ _=>rfl,fun _ _ _=>rfl,fun _ _ _=>rfl,fun _ _ _=>rfl,fun _ _ _=>rfl,fun _ _ _=>rfl,fun _ _ _=>rfl,fun _ _ _=>rfl,fun _ _ _=>rfl,fun _ _ _=>rfl,fun _ _ _=>rfl,fun _ _ _=>rfl,fun _ _ _=>rfl,fun _ _ _=>rfl,fun _ _ _=>rfl,fun _ _ _=>rfl,fun _ _ _=>rfl,fun _ _ _=>rfl,fun _ _ _=>rfl,fun _ _ _=>rfl,fun _ _ _=>rfl,fun _ _ _=>rfl,trivial⟩ (by kernel_rfl) (fun w_ h=>⟨fun _=>g3 0 none 0 none w_,h.drew⟩) ⟨?_,?_,?_,?_,?_,?_,?_,?_,?_,?_,?_,?_,?_,?_,?_,?_,?_,?_,?_,?_,?_,?_,?_,?_,?_,?_,?_,?_,?_,?_,?_,?_,?_,?_,?_,?_,?_,trivial⟩ ?_
    ·intro Lx g44 s K hl hh k
     show At 78 ((1,_)::(3,_)::(4,_)::(5,_)::(6,_)::Lx) _ _
     refine am ?_
     exact Qn k
    ·intro Lx g44 s K hl hh k
     show At 78 ((1,_)::(3,_)::(4,_)::(5,_)::(6,_)::Lx) _ _
     refine am ?_
     exact Qn k
    ·intro Lx g44 s K hl hh k
     show At 78 ((25,_)::(26,_)::(1,_)::(3,_)::(4,_)::(5,_)::(6,_)::Lx) _ _
     refine aw (r_idx underlying30 sizeOf40 rfl rfl h16 hp17) ?_
     exact Qn k
    ·intro Lx g44 s K hl hh k
     show At 78 ((27,_)::(1,_)::(3,_)::(4,_)::(5,_)::(6,_)::Lx) _ _
     refine fa 0 underlying40 rfl sizeOf3 ?_
     exact Qn k
    ·intro Lx g44 s K hl hh k
     show At 78 ((28,_)::(1,_)::(3,_)::(4,_)::(5,_)::(6,_)::Lx) _ _
     obtain rfl:s=0:=by omega
     refine aw (Ql isAgg3 rfl (fun w1 hw=>QbK (y:=(lget t5 i14).f_Kind) (W:=fun w1=>w1=_) (fun w1 h=>by subst h;exact Below.refl _ _) (hw.own (.s .z)).row h16 hp17 (Lens.comp lw (fun z=>{ (lget t5 i14) with f_Kind:=z }) (Qaa (lget t5 i14))) rfl _ rfl)) ?_
     exact Qn k
    ·intro Lx g44 s K hl hh k
     show At 78 ((1,_)::(3,_)::(4,_)::(5,_)::(6,_)::Lx) _ _
     refine am ?_
     exact Qn k
    ·intro Lx g44 s K hl hh k
     show At 78 ((1,_)::(3,_)::(4,_)::(5,_)::(6,_)::Lx) _ _
     refine am ?_
     exact Qn k
    ·intro Lx g44 s K hl hh k
     show At 78 ((30,_)::(31,_)::(1,_)::(3,_)::(4,_)::(5,_)::(6,_)::Lx) _ _
     refine aw (r_idx underlying32 sizeOf41 rfl rfl h20 hp21) ?_
     exact Qn k
    ·intro Lx g44 s K hl hh k
     show At 78 ((32,_)::(1,_)::(3,_)::(4,_)::(5,_)::(6,_)::Lx) _ _
     refine fa 0 underlying41 rfl sizeOf3 ?_
     exact Qn k
    ·intro Lx g44 s K hl hh k
     show At 78 ((33,_)::(1,_)::(3,_)::(4,_)::(5,_)::(6,_)::Lx) _ _
     obtain rfl:s=0:=by omega
     refine aw (Ql isAgg3 rfl (fun w1 hw=>QbK (y:=(lget t8 i14).f_Kind) (W:=fun w1=>w1=_) (fun w1 h=>by subst h;exact Below.refl _ _) (hw.own .z).row h20 hp21 (Lens.comp lw (fun z=>{ (lget t8 i14) with f_Kind:=z }) (Qaa (lget t8 i14))) rfl _ rfl)) ?_
     exact Qn k
    ·intro Lx g44 s K hl hh k
     show At 78 ((29,_)::(34,_)::(1,_)::(3,_)::(4,_)::(5,_)::(6,_)::Lx) _ _
     refine aw xn ?_
     exact Qn k
    ·intro Lx g44 s K hl hh k
     show At 78 ((35,_)::(1,_)::(3,_)::(4,_)::(5,_)::(6,_)::Lx) _ _
     refine am ?_
     exact Qn (QcH h24 k)
    ·intro Lx g44 s K hl hh k
     show At 78 ((36,_)::(1,_)::(3,_)::(4,_)::(5,_)::(6,_)::Lx) _ _
     refine gy ?_
     refine am ?_
     exact Qn k
    ·intro Lx g44 s K hl hh k
     show At 78 ((36,_)::(1,_)::(3,_)::(4,_)::(5,_)::(6,_)::Lx) _ _
     refine gy ?_
     refine am ?_
     exact Qn k
    ·intro Lx g44 s K hl hh k
     show At 78 ((36,_)::(37,_)::(38,_)::(1,_)::(3,_)::(4,_)::(5,_)::(6,_)::Lx) _ _
     refine gy ?_
     refine aw (r_idx underlying30 sizeOf40 rfl rfl h26 hp27) ?_
     exact Qn k
    ·intro Lx g44 s K hl hh k
     show At 78 ((36,_)::(39,_)::(1,_)::(3,_)::(4,_)::(5,_)::(6,_)::Lx) _ _
     refine gy ?_
     refine fa 1 underlying40 rfl sizeOf3 ?_
     exact Qn k
    ·intro Lx g44 s K hl hh k
     show At 78 ((36,_)::(40,_)::(1,_)::(3,_)::(4,_)::(5,_)::(6,_)::Lx) _ _
     refine gy ?_
     obtain rfl:s=0:=by omega
     refine aw (Ql isAgg3 rfl (fun w1 hw=>QbK (y:=(lget t5 i14).f_Peer) (W:=fun w1=>w1=_) (fun w1 h=>by subst h;exact Below.refl _ _) (hw.own (.s .z)).row h26 hp27 (Lens.comp lw (fun z=>{ (lget t5 i14) with f_Peer:=z }) (Qac (lget t5 i14))) rfl _ rfl)) ?_
     exact Qn k
    ·intro Lx g44 s K hl hh k
     show At 78 ((36,_)::(1,_)::(3,_)::(4,_)::(5,_)::(6,_)::Lx) _ _
     refine gy ?_
     refine am ?_
     exact Qn k
    ·intro Lx g44 s K hl hh k
     show At 78 ((36,_)::(1,_)::(3,_)::(4,_)::(5,_)::(6,_)::Lx) _ _
     refine gy ?_
     refine am ?_
     exact Qn k
    ·intro Lx g44 s K hl hh k
     show At 78 ((36,_)::(42,_)::(43,_)::(1,_)::(3,_)::(4,_)::(5,_)::(6,_)::Lx) _ _
     refine gy ?_
     refine aw (r_idx underlying32 sizeOf41 rfl rfl h30 hp31) ?_
     exact Qn k
    ·intro Lx g44 s K hl hh k
     show At 78 ((36,_)::(44,_)::(1,_)::(3,_)::(4,_)::(5,_)::(6,_)::Lx) _ _
     refine gy ?_
     refine fa 1 underlying41 rfl sizeOf3 ?_
     exact Qn k
    ·intro Lx g44 s K hl hh k
     show At 78 ((36,_)::(45,_)::(1,_)::(3,_)::(4,_)::(5,_)::(6,_)::Lx) _ _
     refine gy ?_
     obtain rfl:s=0:=by omega
     refine aw (Ql isAgg3 rfl (fun w1 hw=>QbK (y:=(lget t8 i14).f_Peer) (W:=fun w1=>w1=_) (fun w1 h=>by subst h;exact Below.refl _ _) (hw.own .z).row h30 hp31 (Lens.comp lw (fun z=>{ (lget t8 i14) with f_Peer:=z }) (Qac (lget t8 i14))) rfl _ rfl)) ?_
     exact Qn k
    ·intro Lx g44 s K hl hh k
     show At 78 ((36,_)::(41,_)::(46,_)::(1,_)::(3,_)::(4,_)::(5,_)::(6,_)::Lx) _ _
     refine gy ?_
     refine aw xn ?_
     exact Qn k
    ·intro Lx g44 s K hl hh k
     show At 78 ((36,_)::(47,_)::(1,_)::(3,_)::(4,_)::(5,_)::(6,_)::Lx) _ _
     refine aw xp ?_
     exact Qn k
    ·intro Lx g44 s K hl hh k
     show At 78 ((48,_)::(1,_)::(3,_)::(4,_)::(5,_)::(6,_)::Lx) _ _
     refine am ?_
     exact Qn (QcH h34 k)
    ·intro Lx g44 s K hl hh k
     show At 78 ((49,_)::(1,_)::(3,_)::(4,_)::(5,_)::(6,_)::Lx) _ _
     refine gy ?_
     refine am ?_
     exact Qn k
    ·intro Lx g44 s K hl hh k
     show At 78 ((49,_)::(1,_)::(3,_)::(4,_)::(5,_)::(6,_)::Lx) _ _
     refine gy ?_
     refine am ?_
     exact Qn k
    ·intro Lx g44 s K hl hh k
     show At 78 ((49,_)::(50,_)::(51,_)::(1,_)::(3,_)::(4,_)::(5,_)::(6,_)::Lx) _ _
     refine gy ?_
     refine aw (r_idx underlying30 sizeOf40 rfl rfl h36 hp37) ?_
     exact Qn k
    ·intro Lx g44 s K hl hh k
     show At 78 ((49,_)::(52,_)::(1,_)::(3,_)::(4,_)::(5,_)::(6,_)::Lx) _ _
     refine gy ?_
     refine fa 2 underlying40 rfl sizeOf38 ?_
     exact Qn k
    ·intro Lx g44 s K hl hh k
     show At 78 ((49,_)::(53,_)::(1,_)::(3,_)::(4,_)::(5,_)::(6,_)::Lx) _ _
     refine gy ?_
     obtain rfl:s=0:=by omega
     refine aw (Qe (c:=Qa) (z:=(lget t5 i14).f_P) isAgg38 sizeOf38 rfl (fun w1 hw=>QbH (y:=(lget t5 i14).f_P) (W:=fun w1=>w1=_) (fun w1 h=>by subst h;exact Below.refl _ _) (hw.own (.s .z)).row h36 hp37 (Lens.comp lw (fun z=>{ (lget t5 i14) with f_P:=z }) (QaY (lget t5 i14))) _ rfl)) ?_
     exact Qn k
    ·intro Lx g44 s K hl hh k
     show At 78 ((49,_)::(1,_)::(3,_)::(4,_)::(5,_)::(6,_)::Lx) _ _
     refine gy ?_
     refine am ?_
     exact Qn k
    ·intro Lx g44 s K hl hh k
     show At 78 ((49,_)::(1,_)::(3,_)::(4,_)::(5,_)::(6,_)::Lx) _ _
     refine gy ?_
     refine am ?_
     exact Qn k
    ·intro Lx g44 s K hl hh k
     show At 78 ((49,_)::(55,_)::(56,_)::(1,_)::(3,_)::(4,_)::(5,_)::(6,_)::Lx) _ _
     refine gy ?_
     refine aw (r_idx underlying32 sizeOf41 rfl rfl h40 hp41) ?_
     exact Qn k
    ·intro Lx g44 s K hl hh k
     show At 78 ((49,_)::(57,_)::(1,_)::(3,_)::(4,_)::(5,_)::(6,_)::Lx) _ _
     refine gy ?_
     refine fa 2 underlying41 rfl sizeOf38 ?_
     exact Qn k
    ·intro Lx g44 s K hl hh k
     show At 78 ((49,_)::(58,_)::(1,_)::(3,_)::(4,_)::(5,_)::(6,_)::Lx) _ _
     refine gy ?_
     obtain rfl:s=0:=by omega
     refine aw (Qe (c:=Qa) (z:=(lget t8 i14).f_P) isAgg38 sizeOf38 rfl (fun w1 hw=>QbH (y:=(lget t8 i14).f_P) (W:=fun w1=>w1=_) (fun w1 h=>by subst h;exact Below.refl _ _) (hw.own .z).row h40 hp41 (Lens.comp lw (fun z=>{ (lget t8 i14) with f_P:=z }) (QaY (lget t8 i14))) _ rfl)) ?_
     exact Qn k
    ·intro Lx g44 s K hl hh k
     show At 78 ((49,_)::(54,_)::(59,_)::(1,_)::(3,_)::(4,_)::(5,_)::(6,_)::Lx) _ _
     refine gy ?_
     refine aw (Qbz (c:=Qa) (a:=(lget t5 i14).f_P) (b:=(lget t8 i14).f_P) (Qap) rfl Tryz.eqGuardType38 rfl rfl (.inr rfl) rfl) ?_
     exact Qn k
    ·intro Lx g44 s K hl hh k
     show At 78 ((49,_)::(60,_)::(1,_)::(3,_)::(4,_)::(5,_)::(6,_)::Lx) _ _
     refine aw xp ?_
     exact Qn k
    intro g44
    show At 78 [(25,_),(26,_),(27,_),(28,_),(29,_),(30,_),(31,_),(32,_),(33,_),(34,_),(35,_),(36,_),(37,_),(38,_),(39,_),(40,_),(41,_),(42,_),(43,_),(44,_),(45,_),(46,_),(47,_),(48,_),(49,_),(50,_),(51,_),(52,_),(53,_),(54,_),(55,_),(56,_),(57,_),(58,_),(59,_),(60,_),(61,_),(1,_),(3,_),(4,_),(5,_),(6,_)] _ _
    refine wq [61,6,5,4,3,1] ?_
    refine tn ?_
    obtain ⟨h45,hF⟩|⟨h45,hF⟩:=oi hF
    ·refine ct h45 ?_
     refine sr (aa (qn (dz (dz (dz (wq [2] ?_))))))
     refine tn (qt ?_)
     refine tr (br (tr (tr (br (tr ?_)))))
     obtain rfl:=os hF
     subst K
     exact r1 wb
    refine cf h45 ?_
    refine sn (wq [6,5,4,3,1] ?_)
    obtain ⟨h46,hF⟩:=gd hF
    refine QaU (φ:=∃ b o,p9=some ⟨b,o,none⟩) (fun _ hw=>QR (hw.own .z).row h46) ?_
    rintro ⟨b48,o49,hp47⟩
    obtain ⟨t50,ht50,hF⟩:=bM hF
    refine QfM [.q 62 (fun g51=>.string i13) [] 0 0,.q 63 (fun g51=>.agg (Cd.cs c_api_Conf (g0_,x0)).toArray) [] 0 0,.q 64 (fun g51=>.slice p9 t8.length c10) [] 0 0,.q 65 (fun g51=>.int .i64 i14) [] 0 0,.q 66 (fun g51=>.pointer (some ⟨b48,o49+Int.toNat i14*20,none⟩)) [2,3] 0 0,.q 67 (fun g51=>.agg (Cd.cs Qo (lget t8 i14)).toArray) [4] 0 0,.q 68 (fun g51=>.string t50) [1,5] 0 0] (fun g51 s=>match s with | _=>(Wd w [rowE Qo 41 p9 c10 t8,rowE Qo 40 p6 c7 t5,Qs b1 (Cd.cs c_api_Conf (g0_,x0)) 27])) 0 7 (by kernel_rfl) (by kernel_rfl) (by kernel_rfl) (by kernel_rfl) (by kernel_rfl) (by kernel_rfl) ⟨fun _ _ _=>rfl,fun _ _ _=>rfl,fun _ _ _=>rfl,fun _ _ _=>rfl,fun _ _ _=>rfl,fun _ _ _=>rfl,fun _ _ _=>rfl,trivial⟩ (by kernel_rfl) (fun w_ h=>⟨fun _=>g3 0 none 0 none w_,h.drew⟩) ⟨?_,?_,?_,?_,?_,?_,?_,trivial⟩ ?_
    ·intro Lx g51 s K hl hh k
     show At 78 ((1,_)::(3,_)::(4,_)::(5,_)::(6,_)::Lx) _ _
     refine am ?_
     exact Qn k
    ·intro Lx g51 s K hl hh k
     show At 78 ((1,_)::(3,_)::(4,_)::(5,_)::(6,_)::Lx) _ _
     obtain rfl:s=0:=by omega
     refine aw (Qe (c:=c_api_Conf) (z:=(g0_,x0)) isAgg27 sizeOf27 rfl (Qp (.s (.s .z)) lw)) ?_
     exact Qn k
    ·intro Lx g51 s K hl hh k
     show At 78 ((1,_)::(3,_)::(4,_)::(5,_)::(6,_)::Lx) _ _
     refine am ?_
     exact Qn k
    ·intro Lx g51 s K hl hh k
     show At 78 ((1,_)::(3,_)::(4,_)::(5,_)::(6,_)::Lx) _ _
     refine am ?_
     exact Qn k
    ·intro Lx g51 s K hl hh k
     show At 78 ((64,_)::(65,_)::(1,_)::(3,_)::(4,_)::(5,_)::(6,_)::Lx) _ _
     refine aw (r_idx underlying32 sizeOf41 rfl rfl h46 hp47) ?_
     exact Qn k
    ·intro Lx g51 s K hl hh k
     show At 78 ((66,_)::(1,_)::(3,_)::(4,_)::(5,_)::(6,_)::Lx) _ _
     obtain rfl:s=0:=by omega
     refine aw (Qe (c:=Qo) (z:=lget t8 i14) isAgg41 sizeOf41 rfl (fun w1 hw=>QaF (W:=fun w1=>w1=_) (fun w1 h=>by subst h;exact Below.refl _ _) (hw.own .z).row h46 hp47 _ rfl)) ?_
     exact Qn k
    ·intro Lx g51 s K hl hh k
     show At 78 ((63,_)::(67,_)::(1,_)::(3,_)::(4,_)::(5,_)::(6,_)::Lx) _ _
     obtain rfl:s=0:=by omega
     refine cB func10 rfl (fun w hw=>QfC _ _ _ _ ht50 w (N_api_Conf.below hn0 hw.below)) ?_
     exact Qn k
    intro g51
    show At 78 [(62,_),(63,_),(64,_),(65,_),(66,_),(67,_),(68,_),(1,_),(3,_),(4,_),(5,_),(6,_)] _ _
    obtain ⟨h52,hF⟩:=gd hF
    refine aw (Qbm rfl rfl h52) ?_
    obtain ⟨h53,hF⟩:=gd hF
    refine aw (Qbm rfl rfl h53) ?_
    refine aa (qn (wq [6,5,4,3,1] ?_))
    refine bm ?_
    refine qr (am (aw xa (aa (nwq [6,5,4,3,1] ?_))))
    exact Qm (ih _ _ _ hF K) ⟨rfl,rfl,rfl,rfl,rfl,trivial⟩
   refine cf h15 ?_
   refine Q1 ?_
   refine te (te ?_)
   refine dz (dz ?_)
   obtain rfl:=os hF
   exact Qm K ⟨rfl,rfl,trivial⟩
 cases q12 with
 | ret r'=>exact os hF
 | nx sq12 =>
  skip
  refine Qw ?_
  refine tn (sr ?_)
  refine aw (Qe (c:=c_api_Conf) (z:=(g0_,x0)) isAgg27 sizeOf27 rfl (Qp .z lw)) ?_
  obtain ⟨t54,ht54,hF⟩:=bM hF
  refine cB func11 rfl (fun w hw=>lint_Texts_ok _ _ _ ht54 w (N_api_Conf.below hn0 hw.below) (hg_lint_words.on hw.below) (hg_strconv_uint64pow10.on hw.below)) ?_
  refine am ?_
  refine aw (r_seql rfl rfl) ?_
  refine am ?_
  obtain ⟨h55,hF⟩|⟨h55,hF⟩:=oi hF
  ·refine fx 75 h55 ?_
   refine gy ?_
   obtain ⟨t56,ht56,hF⟩:=bM hF
   refine cB func7 rfl (fun w hw=>Qdp  _ ht56 w (hg_lint_words.on hw.below) (hg_strconv_uint64pow10.on hw.below)) ?_
   refine aw xp (aa (qn (dz (wq [2] ?_))))
   refine tn (qt ?_)
   have K:=os hF
   subst K
   exact r1 wb
  ·refine fx 75 h55 ?_
   refine gn ?_
   refine aw xp (aa (qn (dz (wq [2] ?_))))
   refine tn (qt ?_)
   have K:=os hF
   subst K
   exact r1 wb
end Go.Proofs.YtahlbjmafceoeaaGreatDoor
set_option maxRecDepth 20000
namespace Go.Proofs.YtahlbjmafceoeaaGreatDoor.Lint
open E Go.RowKit Adr Cid Agg
def tx(c:S_api_Conf)(o:Qq):ByteArray:=(QcZ c o).getD ⟨#[]⟩
theorem tx_code{c:S_api_Conf}(hc:Mod c)(o:Qq)(ho:Qah o.f_P):QcZ c o=some (tx c o)∧QbZ c o=some (tx c o)∧(tx c o).size≤200:=by
 obtain ⟨kd,pr,P⟩:=o
 obtain ⟨T,t1,t2,t3⟩:=text_both c (fun p hp=>(hc.ok p hp).1) kd pr P ho
 unfold tx
 rw [t1,t2];exact ⟨rfl,rfl,t3⟩
def joinL:ByteArray→List ByteArray→ByteArray
 | s,[]=>s
 | s,t::r=>joinL ((s++t)++(⟨#[10]⟩:ByteArray)) r
theorem nl1:(⟨#[10]⟩:ByteArray).size=1:=rfl
theorem join_loop(xs:List ByteArray)(hx:∀ t∈xs,t.size≤200)(hn:xs.length≤1000):∀ (k i:Nat) (s:ByteArray),i+k=xs.length→s.size≤300*i→QbS.l0 xs (i:Int) s=some (joinL s (xs.drop i))
 | 0,i,s,h,hs=>by
  rw [QbS.l0.eq_def,decide_eq_false (by omega),if_neg Bool.false_ne_true,List.drop_eq_nil_of_le (by omega)];rfl
 | k+1,i,s,h,hs=>by
  have hi:i<xs.length:=by omega
  have ht:=hx _ (List.getElem_mem hi)
  have h1:=nl1
  have hz:((s++xs[i])++(⟨#[10]⟩:ByteArray)).size≤300*(i+1):=by simp only [ByteArray.size_append];omega
  rw [QbS.l0.eq_def,decide_eq_true (by omega),if_pos rfl,if_pos (by omega),QbI hi,wr1 (by omega),if_pos (by omega),if_pos (by simp only [ByteArray.size_append];omega),List.drop_eq_getElem_cons hi]
  exact join_loop xs hx hn k (i+1) _ (by omega) hz
theorem join_code(xs:List ByteArray)(hx:∀ t∈xs,t.size≤200)(hn:xs.length≤1000):QbS xs=some (joinL (⟨#[]⟩:ByteArray) xs):=by
 have h:=join_loop xs hx hn xs.length 0 ByteArray.empty (by omega) (by decide)
 rw [show ((0:Nat):Int)=0 from rfl,List.drop_zero] at h
 unfold QbS
 rw [h];rfl
theorem texts_loop{c:S_api_Conf}(hc:Mod c)(L:List Qq)(hL:∀ o∈L,Qah o.f_P)(hn:L.length≤1000):∀ (k i:Nat) (acc:List ByteArray),i+k=L.length→acc.length≤i→Qbw.l0 c L acc (i:Int)=some (acc++(L.drop i).map (tx c))
 | 0,i,acc,h,ha=>by
  rw [Qbw.l0.eq_def,decide_eq_false (by omega),if_neg Bool.false_ne_true,List.drop_eq_nil_of_le (by omega)]
  show _=some (acc++[])
  rw [List.append_nil]
 | k+1,i,acc,h,ha=>by
  have hi:i<L.length:=by omega
  rw [Qbw.l0.eq_def,decide_eq_true (by omega),if_pos rfl,if_pos (by omega),QbI hi,wr1 (by omega),(tx_code hc _ (hL _ (List.getElem_mem hi))).1,Qf,if_pos (by omega),texts_loop hc L hL hn k (i+1) _ (by omega) (by rw [List.length_append,List.length_singleton];omega),List.drop_eq_getElem_cons hi,List.map_cons,List.append_assoc];rfl
theorem tells_loop{c:S_api_Conf}(hc:Mod c)(L:List Qq)(hL:∀ o∈L,Qah o.f_P)(hn:L.length≤1000):∀ (k i:Nat) (s:ByteArray),i+k=L.length→s.size≤300*i→Qai.l0 c L L s (i:Int)=some (.nx (joinL s ((L.drop i).map (tx c))))
 | 0,i,s,h,hs=>by
  rw [Qai.l0.eq_def,decide_eq_false (by omega),if_neg Bool.false_ne_true,List.drop_eq_nil_of_le (by omega)];rfl
 | k+1,i,s,h,hs=>by
  have hi:i<L.length:=by omega
  have hin:(0:Int)≤(i:Int)∧(i:Int)<(L.length:Int):=by omega
  obtain ⟨_,t2,t3⟩:=tx_code hc _ (hL _ (List.getElem_mem hi))
  have h1:=nl1
  have hz:((s++tx c L[i])++(⟨#[10]⟩:ByteArray)).size≤300*(i+1):=by simp only [ByteArray.size_append];omega
  have b1:(L[i].f_Kind != L[i].f_Kind)=false:=by simp
  have b2:(L[i].f_Peer != L[i].f_Peer)=false:=by simp
  have b3:(!decide (L[i].f_P=L[i].f_P))=false:=by rw [decide_eq_true rfl];rfl
  rw [Qai.l0.eq_def,decide_eq_true (by omega),if_pos rfl,if_pos hin,if_pos hin,QbI hi,b1,if_neg Bool.false_ne_true,if_pos hin,if_pos hin,b2,if_neg Bool.false_ne_true,if_pos hin,if_pos hin,b3,if_neg Bool.false_ne_true,if_pos hin,t2,Qf,if_pos (by omega),if_pos (by simp only [ByteArray.size_append];omega),wr1 (by omega),List.drop_eq_getElem_cons hi,List.map_cons]
  exact tells_loop hc L hL hn k (i+1) _ (by omega) hz
theorem gat_mem(f:Nat→List Qq)(o:Qq):∀ (k i:Nat),o∈gat f i k→∃ j,o∈f j
 | 0,_,h=>by cases h
 | k+1,i,h=>by
  rw [gat_succ] at h
  rcases List.mem_append.1 h with h | h
  ·exact ⟨i,h⟩
  ·exact gat_mem f o k (i+1) h
theorem zPx_ok:Qah zPx:=by unfold Qah Qd7;decide +kernel
theorem one_ok{kd:Int}{b:Nat→Bool}{i:Nat}{o:Qq}(h:o∈one kd b i):o=mkO kd (i:Int) zPx:=by
 unfold one at h
 split at h
 ·exact List.mem_singleton.1 h
 ·cases h
theorem odds_mem{kd:Int}{g:Px→Bool}{L:List Qd}{o:Qq}(h:o∈oddsE kd g L):∃ e∈L,g e.f_P=true∧o=mkO kd e.f_Owner e.f_P:=by
 unfold oddsE at h
 obtain ⟨e,he,rfl⟩:=List.mem_map.1 h
 obtain ⟨h1,h2⟩:=List.mem_filter.1 he
 exact ⟨e,h1,h2,rfl⟩
theorem all_mem{c:S_api_Conf}{TP:List Px}{o:Qq}(h:o∈allL c TP):(o.f_P=zPx∧o.f_Kind≠6)∨(∃ e∈ents 0 c.f_Peers,o.f_P=e.f_P∧o.f_Kind=5)∨∃ e∈ents 0 c.f_Peers,o.f_P=e.f_P∧gH (ents 0 c.f_Peers) e.f_P=true∧o.f_Kind=6:=by
 unfold allL at h
 rcases List.mem_append.1 h with h | h
 ·rcases List.mem_append.1 h with h | h
  ·left
   rcases List.mem_append.1 h with h | h
   ·rcases List.mem_append.1 h with h | h
    ·rcases List.mem_append.1 h with h | h
     ·split at h
      ·rw [List.mem_singleton.1 h];exact ⟨rfl,by decide⟩
      ·cases h
     ·obtain ⟨j,hj⟩:=gat_mem _ _ _ _ h
      rw [one_ok hj];exact ⟨rfl,by show (2:Int)≠6;decide⟩
    ·obtain ⟨j,hj⟩:=gat_mem _ _ _ _ h
     rw [one_ok hj];exact ⟨rfl,by show (3:Int)≠6;decide⟩
   ·obtain ⟨j,hj⟩:=gat_mem _ _ _ _ h
    rw [one_ok hj];exact ⟨rfl,by show (4:Int)≠6;decide⟩
  ·obtain ⟨e,h1,h2,rfl⟩:=odds_mem h
   exact .inr (.inl ⟨e,h1,rfl,rfl⟩)
 ·obtain ⟨e,h1,h2,rfl⟩:=odds_mem h
  exact .inr (.inr ⟨e,h1,rfl,h2,rfl⟩)
theorem all_ok{c:S_api_Conf}(hc:Mod c){TP:List Px}:∀ o∈allL c TP,Qah o.f_P:=fun o ho=>by
 rcases all_mem ho with ⟨h,_⟩ | ⟨e,he,h,_⟩ | ⟨e,he,h,_⟩
 ·rw [h];exact zPx_ok
 ·rw [h];exact ents_ok hc e he
 ·rw [h];exact ents_ok hc e he
theorem all_len{c:S_api_Conf}(hc:Mod c)(hr:Qgh c=true)(TP:List Px):(allL c TP).length≤300:=by
 have f3:=(Qgr hc hr).2.2
 have hlen:=hc.len
 have z1:=Qgw (one 2 (idleB c)) (one_len _ _) c.f_Peers.length 0
 have z2:=Qgw (one 3 (dblB c)) (one_len _ _) c.f_Peers.length 0
 have z3:=Qgw (one 4 (shaB c)) (one_len _ _) c.f_Peers.length 0
 have z4:=Qey 5 (gS TP) (ents 0 c.f_Peers)
 have z5:=Qey 6 (gH (ents 0 c.f_Peers)) (ents 0 c.f_Peers)
 have z6:(if decide (c.f_Private=zKey)=true then [mkO 1 (-1) zPx] else ([]:List Qq)).length≤1:=by split<;>simp
 unfold allL
 simp only [List.length_append]
 omega
theorem tells_of{c:S_api_Conf}(hc:Mod c)(hlarge:QaJ c=some false)(L:List Qq)(hL:∀ o∈L,Qah o.f_P)(hn:L.length≤1000)(h1:QB c=some L)(h2:Qt c=some L):Qai c=some true:=by
 have k1:=tells_loop hc L hL hn L.length 0 (⟨#[]⟩:ByteArray) (by omega) (by decide)
 have k2:=texts_loop hc L hL hn L.length 0 [] (by omega) (by simp)
 rw [show ((0:Nat):Int)=0 from rfl,List.drop_zero] at k1 k2
 rw [List.nil_append] at k2
 have k3:=join_code (L.map (tx c)) (fun t ht=>by
  obtain ⟨o,ho,rfl⟩:=List.mem_map.1 ht
  exact (tx_code hc o (hL o ho)).2.2) (by rw [List.length_map];exact hn)
 have k4:Qbw c=some (joinL (⟨#[]⟩:ByteArray) (L.map (tx c))):=by
  unfold Qbw
  rw [h1,Qf,k2,Qf,k3];rfl
 have b:((L.length:Int) != (L.length:Int))=false:=by simp
 unfold Qai
 rw [hlarge,Qf,if_neg Bool.false_ne_true,h1,Qf,h2,Qf,b,if_neg Bool.false_ne_true,k1,Qf]
 show (Qbw c>>=fun t54=>if (seq t54 (joinL (⟨#[]⟩:ByteArray) (L.map (tx c))))=true then (Qbo>>=fun t56=>some t56) else (some false))=_
 rw [k4,Qf,if_pos ((seq_iff _ _).2 rfl)]
 exact alive_then60
theorem mod_of{c:S_api_Conf}(w0:ok_api_Conf c)(h:c.f_Peers.length≤20∧∀ p∈c.f_Peers,p.f_Allowed.length≤80):Mod c:=⟨w0.2.2.2,h.1,h.2⟩
theorem LintTells_pure(x0:S_api_Conf)(w0:ok_api_Conf x0):Qai x0=some true:=by
 obtain ⟨b,hb,hn⟩:=large_code x0
 cases b with
 | true =>
  unfold Qai
  rw [hb,Qf,if_pos rfl];exact alive_then60
 | false =>
  have hc:=mod_of w0 (hn rfl)
  rcases all_code hc with ⟨_,h1,h2⟩ | ⟨hr,TP,h1,h2⟩
  ·exact tells_of hc hb [] (fun o ho=>by cases ho) (by simp) h1 h2
  ·exact tells_of hc hb _ (all_ok hc) (by have:=all_len hc hr TP;omega) h1 h2
end Go.Proofs.YtahlbjmafceoeaaGreatDoor.Lint
